/- Part 16 of 46 of what the theorem stands on. -/
import Derived.Test.YtkbfmpomeejadaaGreatDoorReman
import Derived.Test.YtkbfmpomeejadaaGreatDoorRemao

section
namespace Go.Ev
open Go.RowKit
section
variable {P : Program} {D : Data} {R : Type}
theorem stepC_nat {call : CallK} (hN : CallNat call) {nt : Nat} {all : List Oper} {o : Oper} {slot : Nat} {tm : Tm} {m : Mem} (k : Tm → Mem → Lab → Option R) :
    stepC D call nt all o slot tm m k = (stepC D call nt all o slot tm m fun t m l => some (t, m, l)).bind fun x => k x.1 x.2.1 x.2.2 := by
  rw [stepC_eq hN, stepC_eq hN, Option.bind_assoc]
  congr 1
  funext x
  exact bif_nat rfl
theorem opsC_nat {call : CallK} (hN : CallNat call) {nt : Nat} {all : List Oper} : ∀ {rest : List Oper} {slot : Nat} {tm : Tm} {m : Mem} {ls : List Lab} (k : Tm → Mem → List Lab → Option R),
    opsC D call nt all rest slot tm m ls k = (opsC D call nt all rest slot tm m ls fun t m l => some (t, m, l)).bind fun x => k x.1 x.2.1 x.2.2
  | [], _, _, _, _, _ => rfl
  | o :: rest, slot, tm, m, ls, k => by
    simp only [opsC]
    rw [stepC_nat hN, stepC_nat hN (fun tm m l => opsC D call nt all rest (nextSlot o slot) tm m (l :: ls) fun t m l => some (t, m, l)), Option.bind_assoc]
    congr 1
    funext x
    exact opsC_nat hN k
theorem regC_nat {call : CallK} (hN : CallNat call) {nt : Nat} {ops : List Oper} {draw : Bool} {tm : Tm} {m : Mem} (k : Tm → Mem → List Loc → Option R) :
    regC D call nt ops draw tm m k = (regC D call nt ops draw tm m fun t m l => some (t, m, l)).bind fun x => k x.1 x.2.1 x.2.2 := by
  unfold regC
  split
  · rfl
  · rw [opsC_nat hN, opsC_nat hN (fun tm m ls => bif !draw || okDraw ops ls.reverse then some (tm, m, wrs ls) else none), Option.bind_assoc]
    congr 1
    funext x
    exact bif_nat rfl
theorem resC_nat {tm : Tm} {m : Mem} : ∀ {l : List ResultVar} {acc : List AV} (k : List AV → Option R), resC D tm m l acc k = (resC D tm m l acc some).bind k
  | [], _, _ => rfl
  | .tmp t :: l, acc, k => by simp only [resC]; exact resC_nat k
  | .cell a t :: l, acc, k => by
    simp only [resC]
    unfold asP
    split
    · rename_i id off _
      dsimp only
      rw [loadC_nat, loadC_nat t m id off (fun v _ => resC D tm m l (v :: acc) some), Option.bind_assoc]
      congr 1
      funext x
      exact resC_nat k
    · rfl
theorem tupC_nat {l : List AV} (k : AV → Option R) : tupC l k = (tupC l some).bind k := by
  unfold tupC
  split
  · rfl
  · split <;> rfl
/-- A call in place, as it stands in the evaluator. -/
def callC (D : Data) (n : Nat) : CallK := fun _ f as m k => bif Nat.beq f yId then
    match D.yo with
    | none => none
    | some rd => match setP rd.nt rd.ps.toList as rd.tm with
      | none => none
      | some tm => evC D.low n rd.nt rd.assign tm m [] fun e tm m ws =>
        match e with
        | .normal => evC D.low n rd.nt rd.body tm m ws fun e _ m ws =>
          match e with
          | .normal => k (.fv (.one (.bool true))) m ws
          | _ => none
        | _ => none
  else match look D.funs f with
  | none => none
  | some fn => match fn.body with
    | none => none
    | some c => bif Nat.ble as.length fn.ntmps then
      evC D.low n fn.ntmps c (argsT as) m [] fun e tm m ws =>
      match e with
      | .exit _ => none
      | _ => resC D.low tm m fn.results.toList [] fun l => tupC l fun v => k v m ws
      else none
def EvNat (D : Data) (n : Nat) : Prop := ∀ (R : Type) (nt : Nat) (c : Code) (tm : Tm) (m : Mem) (ws : List Loc) (k : Ex → Tm → Mem → List Loc → Option R),
  evC D n nt c tm m ws k = (evC D n nt c tm m ws fun e t m w => some (e, t, m, w)).bind fun x => k x.1 x.2.1 x.2.2.1 x.2.2.2
theorem nat_comp {n : Nat} (ih : EvNat D n) {S : Type} {nt : Nat} {a : Code} {tm : Tm} {m : Mem} {ws : List Loc} {k1 : Ex → Tm → Mem → List Loc → Option R} {k2 : Ex → Tm → Mem → List Loc → Option S} {g : S → Option R}
    (h : ∀ e t m w, k1 e t m w = (k2 e t m w).bind g) : evC D n nt a tm m ws k1 = (evC D n nt a tm m ws k2).bind g := by
  rw [ih _ _ _ _ _ _ k1, ih _ _ _ _ _ _ k2, Option.bind_assoc]
  congr 1
  funext x
  exact h _ _ _ _
theorem res_nat {S : Type} {tm : Tm} {m : Mem} {l : List ResultVar} {k1 : AV → Option R} {k2 : AV → Option S} {g : S → Option R} (h : ∀ v, k1 v = (k2 v).bind g) :
    (resC D tm m l [] fun l => tupC l k1) = (resC D tm m l [] fun l => tupC l k2).bind g := by
  rw [resC_nat, resC_nat (fun l => tupC l k2), Option.bind_assoc]
  congr 1
  funext l
  rw [tupC_nat, tupC_nat k2, Option.bind_assoc]
  congr 1
  funext v
  exact h v
theorem callC_nat {n : Nat} (h : EvNat D.low n) : CallNat (callC D n) := by
  intro R f as m k
  unfold callC
  cases Nat.beq f yId with
  | true =>
    simp only [cond_true]
    cases D.yo with
    | none => rfl
    | some rd =>
      dsimp only
      cases setP rd.nt rd.ps.toList as rd.tm with
      | none => rfl
      | some tm =>
        dsimp only
        refine nat_comp h fun e t m w => ?_
        cases e
        · refine nat_comp h fun e t m w => ?_
          cases e <;> rfl
        · rfl
        · rfl
  | false =>
  simp only [cond_false]
  split
  · rfl
  · rename_i fn _
    split
    · rfl
    · refine bif_nat ?_
      refine nat_comp h ?_
      intro e t m w
      cases e
      · exact res_nat fun _ => rfl
      · rfl
      · exact res_nat fun _ => rfl
theorem regC_comp {call : CallK} (hN : CallNat call) {S : Type} {nt : Nat} {ops : List Oper} {draw : Bool} {tm : Tm} {m : Mem} {k1 : Tm → Mem → List Loc → Option R} {k2 : Tm → Mem → List Loc → Option S} {g : S → Option R}
    (h : ∀ t m w, k1 t m w = (k2 t m w).bind g) : regC D call nt ops draw tm m k1 = (regC D call nt ops draw tm m k2).bind g := by
  rw [regC_nat hN k1, regC_nat hN k2, Option.bind_assoc]
  congr 1
  funext x
  exact h _ _ _
theorem evC_nat : ∀ (n : Nat) (D : Data), EvNat D n
  | 0, _ => fun _ _ _ _ _ _ _ => rfl
  | n + 1, D => by
    have ih : EvNat D n := evC_nat n D
    intro R nt c tm m ws k
    cases c
    case skip => rfl
    case ret => rfl
    case exit => rfl
    case region id ops draw =>
      simp only [evC]
      exact regC_comp (callC_nat (evC_nat n D.low)) fun _ _ _ => rfl
    case seq a b =>
      simp only [evC]
      refine nat_comp ih fun e t m w => ?_
      cases e
      · exact ih _ _ _ _ _ _ _
      · rfl
      · rfl
    case cond c a b =>
      simp only [evC]
      cases evO D tm c with
      | none => rfl
      | some v =>
        dsimp only
        unfold asB
        split
        · rename_i x
          cases x
          · exact ih _ _ _ _ _ _ _
          · exact ih _ _ _ _ _ _ _
        · rfl
    case block id a =>
      simp only [evC]
      refine nat_comp ih fun e t m w => ?_
      cases e
      · rfl
      · rename_i j
        simp only
        cases Nat.beq j id <;> rfl
      · rfl
    case loop a =>
      simp only [evC]
      refine nat_comp ih fun e t m w => ?_
      cases e
      · exact ih _ _ _ _ _ _ _
      · rfl
      · rfl
    case rangeFunc f ps assign body =>
      simp only [evC]
      refine bif_nat ?_
      split
      · split
        · rfl
        · rename_i fn _
          split
          · rfl
          · refine bif_nat ?_
            refine nat_comp (evC_nat n _) fun e t m w => ?_
            cases e
            · exact res_nat fun _ => rfl
            · rfl
            · exact res_nat fun _ => rfl
      · rfl
    all_goals rfl
def resG (tmps : Array Value) : ResultVar → Sem Value
  | .tmp t => pure (tmps.getD t undef)
  | .cell a t => do loadVar t (← asAddr (tmps.getD a undef))
theorem results_resG (fn : Func) (tmps : Array Value) : results fn tmps = (do
    let vs ← fn.results.mapM (resG tmps)
    pure (if h : vs.size = 1 then vs[0] else .tuple vs)) := by
  unfold results
  congr 1
theorem resC_sound (hD : DataOk P D) {tm : Tm} {m : Mem} : ∀ {l : List ResultVar} {acc : List AV} {k : List AV → Option R} {r : R}, resC D tm m l acc k = some r →
    ∃ vs, k (acc.reverse ++ vs) = some r ∧ ∀ (E : Env) (tmps : Array Value), MemRel E m → (∀ t, AVRel E (tm t) (tmps.getD t undef)) →
      ∃ us : List Value, (l.mapM (resG tmps)).run P E.w = .ok us E.w ∧ All2 (AVRel E) vs us
  | [], acc, k, r, h => ⟨[], by simpa [resC] using h, fun E tmps _ _ => ⟨[], by simp, .nil⟩⟩
  | .tmp t :: l, acc, k, r, h => by
    simp only [resC] at h
    obtain ⟨vs, h, hs⟩ := resC_sound hD h
    refine ⟨tm t :: vs, by simpa using h, fun E tmps hM ht => ?_⟩
    obtain ⟨us, h1, h2⟩ := hs E tmps hM ht
    have hg : (resG tmps (.tmp t)).run P E.w = .ok (tmps.getD t undef) E.w := rfl
    exact ⟨tmps.getD t undef :: us, by rw [List.mapM_cons]; simp [hg, h1, -Array.getD_eq_getD_getElem?], .cons (ht t) h2⟩
  | .cell a t :: l, acc, k, r, h => by
    simp only [resC] at h
    obtain ⟨id, off, e, h⟩ := asP_inv h
    obtain ⟨v, lc, h, hl⟩ := load_sound hD h
    obtain ⟨vs, h, hs⟩ := resC_sound hD h
    refine ⟨v :: vs, by simpa using h, fun E tmps hM ht => ?_⟩
    obtain ⟨us, h1, h2⟩ := hs E tmps hM ht
    have hp := ht a
    rw [e] at hp
    obtain ⟨b, base, hpi, hv⟩ := hp
    obtain ⟨u, hu, hr⟩ := hl E b base hM hpi
    have hg : (resG tmps (.cell a t)).run P E.w = .ok u E.w := by
      simp only [resG]
      rw [hv]
      simpa [asAddr] using hu
    exact ⟨u :: us, by rw [List.mapM_cons]; simp [hg, h1], .cons hr h2⟩
theorem results_sound (hD : DataOk P D) {tm : Tm} {m : Mem} {fn : Func} {k : AV → Option R} {r : R} (h : (resC D tm m fn.results.toList [] fun l => tupC l k) = some r) :
    ∃ v, k v = some r ∧ ∀ (E : Env) (tmps : Array Value), MemRel E m → (∀ t, AVRel E (tm t) (tmps.getD t undef)) → ∃ u, (results fn tmps).run P E.w = .ok u E.w ∧ AVRel E v u := by
  obtain ⟨vs, h, hs⟩ := resC_sound hD h
  simp only [List.reverse_nil, List.nil_append] at h
  unfold tupC at h
  split at h
  · rename_i v
    refine ⟨v, h, fun E tmps hM ht => ?_⟩
    obtain ⟨us, h1, h2⟩ := hs E tmps hM ht
    cases h2 with
    | @cons _ u _ _ h2 h3 =>
      cases h3
      exact ⟨u, by rw [results_resG]; simp [Array.mapM_eq_mapM_toList, h1], h2⟩
  · rename_i hne
    split at h
    · cases h
    · rename_i ys hys
      refine ⟨_, h, fun E tmps hM ht => ?_⟩
      obtain ⟨us, h1, h2⟩ := hs E tmps hM ht
      have hl : us.length ≠ 1 := by
        intro e
        rw [← h2.length] at e
        match vs, e with
        | [v], _ => exact hne v rfl
      exact ⟨.tuple us.toArray, by rw [results_resG]; simp [Array.mapM_eq_mapM_toList, h1, hl], us, rfl, flats_rel h2 hys⟩
def exOf : Ex → Exit
  | .normal => .normal
  | .exit id => .exit id
  | .ret => .ret
def wpr (P : Program) (ro : Option Nat) (n : Nat) (c : Code) (Q : Exit → Act → World → Prop) (a : Act) (w : World) : Prop :=
  match c with
  | .loop b => Code.roundsIn (FR ro) 0 P b Q n a w
  | c => c.wpIn (FR ro) 0 P Q a w
theorem wpr_wp {ro : Option Nat} {n : Nat} {c : Code} {Q : Exit → Act → World → Prop} {a : Act} {w : World} (h : wpr P ro n c Q a w) : c.wpIn (FR ro) 0 P Q a w := by
  cases c
  case loop b => exact wpIn_loop_rounds n h
  all_goals exact h
structure Sound (P : Program) (D : Data) (n nt : Nat) (c : Code) (tm : Tm) (m : Mem) (ws : List Loc) (e : Ex) (tm' : Tm) (m' : Mem) (ws' : List Loc) : Prop where
  log : ∃ us, ws' = us ++ ws ∧ Honest m m' us
  wp : ∀ (E : Env) (a : Act), Good D E m → TRel D.top E tm a nt → ∀ (ro : Option Nat), (D.top = true → ro = none) → ∀ (Q : Exit → Act → World → Prop), Post D.top E m m' tm' nt (exOf e) Q → wpr P ro n c Q a E.w
def EvSound (P : Program) (D : Data) (n : Nat) : Prop := ∀ (R : Type) (nt : Nat) (c : Code) (tm : Tm) (m : Mem) (ws : List Loc) (k : Ex → Tm → Mem → List Loc → Option R) (r : R),
  evC D n nt c tm m ws k = some r → ∃ e tm' m' ws', k e tm' m' ws' = some r ∧ Sound P D n nt c tm m ws e tm' m' ws'
theorem argsT_rel {E : Env} : ∀ {as : List AV} {vs : List Value}, All2 (AVRel E) as vs → ∀ (n t : Nat), AVRel E (argsT as t) ((vs.toArray ++ Array.replicate n undef).getD t undef) := by
  intro as vs h n t
  unfold argsT
  rw [nthD_eq, List.getD_eq_getElem?_getD, Array.getD_eq_getD_getElem?]
  cases ha : as[t]? with
  | some a =>
    obtain ⟨v, hv, hr⟩ := h.get ha
    have hlt : t < vs.length := by
      rcases Nat.lt_or_ge t vs.length with h | h
      · exact h
      · rw [List.getElem?_eq_none h] at hv; cases hv
    rw [Array.getElem?_append_left (by simpa using hlt)]
    simp only [List.getElem?_toArray, hv, Option.getD_some]
    exact hr
  | none =>
    have hge : vs.length ≤ t := by
      rw [← h.length]
      rcases Nat.lt_or_ge t as.length with h | h
      · rw [List.getElem?_eq_getElem h] at ha; cases ha
      · exact h
    rw [Array.getElem?_append_right (by simpa using hge)]
    have : ((Array.replicate n undef)[t - vs.toArray.size]?).getD undef = undef := by
      rw [Array.getElem?_replicate]
      split <;> rfl
    rw [this]
    exact AVRel.undef E
/-- A call in place. -/
theorem call_sound (hD : DataOk P D) {n : Nat} (ih : EvSound P D.low n) {f : FuncId} {as : List AV} {m : Mem} {k : AV → Mem → List Loc → Option R} {r : R} (hf0 : Nat.beq f yId = false) (h : callC D n R f as m k = some r) :
    ∃ v m' ws, k v m' ws = some r ∧ Entered P D f as m v m' ws ∧ Honest m m' ws := by
  unfold callC at h
  rw [hf0] at h
  simp only [cond_false] at h
  split at h
  · cases h
  · rename_i fn hfn
    split at h
    · cases h
    · rename_i c hb
      obtain ⟨hle, h⟩ := bif_inv h
      obtain ⟨e, tm', m', ws', h, hs⟩ := ih _ _ _ _ _ _ _ _ h
      obtain ⟨us, hus, hh⟩ := hs.log
      simp only [List.append_nil] at hus
      subst hus
      have hex : (∀ j, e ≠ .exit j) ∧ (resC D.low tm' m' fn.results.toList [] fun l => tupC l fun v => k v m' ws') = some r := by
        cases e with
        | normal => exact ⟨by simp, h⟩
        | ret => exact ⟨by simp, h⟩
        | exit j => cases h
      obtain ⟨v, h, hr⟩ := results_sound hD.low hex.2
      obtain ⟨hf, hcall⟩ := hD.funs f fn hfn
      refine ⟨v, m', ws', h, ⟨hh.len, hcall, fun E vs hG ha => ?_⟩, hh⟩
      refine calls_of_wp hf hb ((wpIn_wide (n := 0)).1 (wpr_wp (hs.wp E _ hG ⟨?_, DefOk.nil _ _, ?_⟩ none (fun _ => rfl) _ ?_)))
      · have hl := ble_iff.1 hle
        rw [ha.length] at hl
        simp
        omega
      · exact argsT_rel ha _
      · intro E' a' hx hn hi hM ht
        obtain ⟨u, hu, hru⟩ := hr E' a'.tmps hM ht.val
        have hp : a'.defers = [] ∧ ∃ v, (results fn a'.tmps).run P E'.w = .ok v E'.w ∧ ∃ E'' u, Ending.returned v = .returned u ∧ E''.w = E'.w ∧ Ext E E'' ∧ (∀ id, id < m.len → E.pi id = none → E''.pi id = none) ∧
            (∀ id, id < m.len → E''.init id = E.init id) ∧ MemRel E'' m' ∧ AVRel E'' _ u := ⟨ht.defers, u, hu, E', u, rfl, rfl, hx, hn, hi, hM, hru⟩
        cases e with
        | normal => exact hp
        | ret => exact hp
        | exit j => exact absurd rfl (hex.1 j)
/-- A call of yield. -/
theorem yield_sound {n : Nat} (ih : EvSound P D.low n) {f : FuncId} {as : List AV} {m : Mem} {k : AV → Mem → List Loc → Option R} {r : R} (hf0 : Nat.beq f yId = true) (h : callC D n R f as m k = some r) :
    ∃ v m' ws, k v m' ws = some r ∧ Rounded P D as m v m' ∧ Honest m m' ws := by
  unfold callC at h
  rw [hf0] at h
  simp only [cond_true] at h
  split at h
  · cases h
  · rename_i rd hrd
    split at h
    · cases h
    · rename_i tm0 htm
      obtain ⟨e, tm1, m1, ws1, h, hs1⟩ := ih _ _ _ _ _ _ _ _ h
      obtain ⟨us1, hus, hh1⟩ := hs1.log
      simp only [List.append_nil] at hus
      subst hus
      cases e with
      | exit j => cases h
      | ret => cases h
      | normal =>
      obtain ⟨e, tm2, m2, ws2, h, hs2⟩ := ih _ _ _ _ _ _ _ _ h
      obtain ⟨us2, hus, hh2⟩ := hs2.log
      subst hus
      cases e with
      | exit j => cases h
      | ret => cases h
      | normal =>
      refine ⟨_, m2, _, h, ⟨Nat.le_trans hh1.len hh2.len, fun E vs l hG hl ha => ?_⟩, hh1.trans hh2⟩
      obtain ⟨l', hl', hno, fn, tmps, D0, l0, hh, hsz, hval⟩ := hG.yok rd hrd
      rw [hl] at hl'
      cases hl'
      have hT0 := Turn.setL E l0
      obtain ⟨e1, e2, e3⟩ := setP_rel (E := { E with l := l0 }) (fun _ _ h => hT0.fv h) htm ha hsz hval
      have hlt := lt_of_heap hh
      refine ⟨fn, _, rd.assign, rd.body, run_yield (args := vs.toArray) hh (by simpa using e1.symm), ?_⟩
      rw [zip_fold]
      refine roundIn_of_wpIn trivial ?_
      refine wpr_wp (ro := some l) (hs1.wp { E with l := l0 } _ (hT0.good hG) ⟨e2, DefOk.nil _ _, e3⟩ (some l) (fun h => by cases h) _ fun E1 a1 hx1 hn1 hi1 hM1 ht1 => ?_)
      have hl1 : E1.w.heap[l]? = _ := (hx1.same l hlt hno).trans hh
      refine ⟨_, run_beginRound hl1 rfl, ?_⟩
      have hno1 : ¬ E1.own l := fun h => by
        rcases hx1.new l h with h | h
        · exact hno h
        · have : E.w.heap.size ≤ l := h
          omega
      have hG1 : Good D.low E1 m1 := Good.ext (hT0.good hG) hx1 hM1
      have hT1 := Turn.put (E := E1) (.loop { state := .busy, pending := none, fn, tmps, params := rd.ps, assign := rd.assign, body := rd.body, defers := D0 }) hl1 rfl (fun _ _ h => by cases h) E1.l
      refine wpr_wp (ro := some l) (hs2.wp _ _ (Turn.good (D := D.low) hT1 hG1) ⟨ht1.size, ht1.defers, fun t => hT1.av rfl (ht1.val t)⟩ (some l) (fun h => by cases h) _ fun E3 a3 hx3 hn3 hi3 hM3 ht3 => ?_)
      have hl2 : (E1.w.putObj l (.loop { state := .busy, pending := none, fn, tmps, params := rd.ps, assign := rd.assign, body := rd.body, defers := D0 })).heap[l]? = _ := World.putObj_heap_same (lt_of_heap hl1)
      have hl3 : E3.w.heap[l]? = _ := (hx3.same l (lt_of_heap hl2) hno1).trans hl2
      refine ⟨_, _, run_endRound none hl3, ?_⟩
      have hT3 := Turn.put (E := E3) (.loop { state := .ready, pending := none, fn, tmps, params := rd.ps, assign := rd.assign, body := rd.body, defers := D0 }) hl3 rfl (fun _ _ h => by cases h) E.l
      refine ⟨{ E3 with w := E3.w.putObj l (.loop { state := .ready, pending := none, fn, tmps, params := rd.ps, assign := rd.assign, body := rd.body, defers := D0 }), l := E.l }, .bool true, rfl, rfl, ?_, ?_, ?_, hT3.mem hM3, rfl⟩
      · have hsz1 : E1.w.heap.size ≤ E3.w.heap.size := by have := hx3.size; rwa [show _ = E1.w.heap.size from World.putObj_size] at this
        have hsz0 : E.w.heap.size ≤ E1.w.heap.size := hx1.size
        refine ⟨hx3.B0.trans hx1.B0, hx3.far.trans hx1.far, fun id p h => hx3.pi id p (hx1.pi id p h), fun b h => hx3.own b (hx1.own b h), fun b h => ?_, hx3.os.trans hx1.os, hx3.tape.trans hx1.tape, hx3.output.trans hx1.output, ?_, fun b hb hno' => ?_, rfl⟩
        · rcases hx3.new b h with h | h
          · exact hx1.new b h
          · rw [show _ = E1.w.heap.size from World.putObj_size] at h
            exact .inr (Nat.le_trans hsz0 h)
        · show E.w.heap.size ≤ (E3.w.putObj l _).heap.size
          rw [World.putObj_size]
          omega
        · show (E3.w.putObj l _).heap[b]? = _
          by_cases e : b = l
          · subst e
            rw [World.putObj_heap_same (by omega), hh]
          · rw [World.putObj_heap_other e]
            have hno1' : ¬ E1.own b := fun h => by
              rcases hx1.new b h with h | h
              · exact hno' h
              · have : E.w.heap.size ≤ b := h
                omega
            refine (hx3.same b (by rw [show _ = E1.w.heap.size from World.putObj_size]; omega) hno1').trans ?_
            exact (World.putObj_heap_other e).trans (hx1.same b hb hno')
      · exact fun id hid he => hn3 id (Nat.lt_of_lt_of_le hid hh1.len) (hn1 id hid he)
      · exact fun id hid => (hi3 id (Nat.lt_of_lt_of_le hid hh1.len)).trans (hi1 id hid)
theorem callC_sound (hD : DataOk P D) {n : Nat} (ih : EvSound P D.low n) {f : FuncId} {as : List AV} {m : Mem} {k : AV → Mem → List Loc → Option R} {r : R} (h : callC D n R f as m k = some r) :
    ∃ v m' ws, k v m' ws = some r ∧ (Nat.beq f yId = false → Entered P D f as m v m' ws) ∧ (Nat.beq f yId = true → Rounded P D as m v m') ∧ Honest m m' ws := by
  cases hf0 : Nat.beq f yId with
  | false =>
    obtain ⟨v, m', ws, h1, h2, h3⟩ := call_sound hD ih hf0 h
    exact ⟨v, m', ws, h1, fun _ => h2, fun e => (by cases e), h3⟩
  | true =>
    obtain ⟨v, m', ws, h1, h2, h3⟩ := yield_sound ih hf0 h
    exact ⟨v, m', ws, h1, fun e => (by cases e), fun _ => h2, h3⟩
theorem Post.then {top : Bool} {E E1 : Env} {m m1 m2 : Mem} {tm2 : Tm} {nt : Nat} {e : Exit} {Q : Exit → Act → World → Prop} (h : Post top E m m2 tm2 nt e Q) (hl : m.len ≤ m1.len) (hx : Ext E E1) (hn : ∀ id, id < m.len → E.pi id = none → E1.pi id = none)
    (hi : ∀ id, id < m.len → E1.init id = E.init id) : Post top E1 m1 m2 tm2 nt e Q := fun E' a' hx' hn' hi' hM ht =>
  h E' a' (hx.trans hx') (fun id hid he => hn' id (Nat.lt_of_lt_of_le hid hl) (hn id hid he)) (fun id hid => (hi' id (Nat.lt_of_lt_of_le hid hl)).trans (hi id hid)) hM ht
theorem refine_same {c : Operand} {b : Bool} {tm : Tm} (h : evO D tm c = some (.fv (.one (.bool b)))) : Go.Ev.refine c b tm = tm := by
  cases c with
  | tmp t =>
    simp only [evO, Option.some.injEq] at h
    exact putT_same h
  | _ => rfl
/-- A range over a function. -/
theorem range_sound {n nt : Nat} {f : Operand} {ps : Array Nat} {assign body : Code} {tm tm' : Tm} {m m' : Mem} {ws' : List Loc} {e : Ex} {g : FuncId} {fn : Func} {caps : List FV} {c : Code} {v : AV} (hf : P.funcs[g]? = some fn)
    (hcall : Callable P g) (hb : fn.body = some c) (hle : caps.length + 1 ≤ fn.ntmps) (htop : D.top = true) (hev : evO D tm f = some (.fn g [] caps))
    (hs : Sound P (D.iter { nt, ps, assign, body, tm }) n fn.ntmps c (argsT (.yld :: caps.map .fv)) m [] e tm' m' ws') (hex : ∀ j, e ≠ .exit j)
    (hr : ∀ (E : Env) (tmps : Array Value), MemRel E m' → (∀ t, AVRel E (tm' t) (tmps.getD t undef)) → ∃ u, (results fn tmps).run P E.w = .ok u E.w ∧ AVRel E v u)
    {E : Env} {a : Act} (hG : Good D E m) (ht : TRel D.top E tm a nt) {ro : Option Nat} (hro : ro = none) {Q : Exit → Act → World → Prop} (hQ : Post D.top E m m' tm nt .normal Q) :
    (Code.rangeFunc f ps assign body).wpIn (FR ro) 0 P Q a E.w := by
  subst hro
  rw [htop] at ht hQ
  refine wpIn_rangeFunc fun fnn _ => ?_
  obtain ⟨us, cs, heq, hus, hcs⟩ := evO_rel hG ht.val hev
  cases hus
  obtain ⟨rec, hrec⟩ : ∃ rec : LoopState → Loop, rec = fun st => { state := st, pending := none, fn := fnn, tmps := a.tmps, params := ps, assign, body, defers := E.w.heap.size } := ⟨_, rfl⟩
  obtain ⟨W1, hW1⟩ : ∃ W1, (E.w.alloc (.deferred (some []))).alloc (.loop (rec .ready)) = W1 := ⟨_, rfl⟩
  have hL1 : W1.heap[E.w.heap.size + 1]? = some (.loop (rec .ready)) := by
    rw [← hW1]; have := World.alloc_heap_new (E.w.alloc (.deferred (some []))) (.loop (rec .ready)); rwa [World.size_alloc] at this
  have hK1 : W1.heap[E.w.heap.size]? = some (.deferred (some [])) := by
    rw [← hW1]; exact (Below.heap_alloc _ _ _ (by simp)).trans (World.alloc_heap_new E.w _)
  have hB1 : Below E.w.heap.size E.w W1 := by
    rw [← hW1]; exact ((Below.refl _ E.w).alloc (Nat.le_refl _) _).alloc (by simp) _
  have hxw := below_ext hB1
  have hown : ∀ b, E.own b → b < E.w.heap.size := fun b h => (hG.mem.own b h).2
  have hT1 := Turn.setL { E with w := W1 } (some (E.w.heap.size + 1))
  have hM1 := hT1.mem (below_mem hG.mem hB1)
  have hG1 : Good (D.iter { nt, ps, assign, body, tm }) { E with w := W1, l := some (E.w.heap.size + 1) } m := by
    refine ⟨hM1, (Good.ext hG hxw (below_mem hG.mem hB1)).glob, hG.pi, hG.low, fun rd hrd => ?_⟩
    cases hrd
    refine ⟨_, rfl, fun h => ?_, fnn, a.tmps, E.w.heap.size, E.l, ?_, ht.size, fun t => ?_⟩
    · have := hown _ h; omega
    · show W1.heap[E.w.heap.size + 1]? = _
      rw [hL1, hrec]
    · exact (ht.val t).ext hxw
  refine ⟨E.w.heap.size + 1, [{ target := .collected E.w.heap.size, args := #[] }], W1, { target := .fn (.func g) cs.toArray, args := #[.func (.yield (E.w.heap.size + 1)) #[] #[]] }, W1, g,
    #[.func (.yield (E.w.heap.size + 1)) #[] #[]] ++ cs.toArray, W1, ?_, ?_, fun _ _ => trivial, ?_, fun h => (by cases h), ?_⟩
  · rw [← hW1, hrec]; exact run_enterLoop_outer _ _ _ _ _
  · simp only [resolve, heq]
    simp [go_sem]
  · exact hcall _ _
  · have e0 : (#[.func (.yield (E.w.heap.size + 1)) #[] #[]] ++ cs.toArray : Array Value) = (.func (.yield (E.w.heap.size + 1)) #[] #[] :: cs).toArray := by apply Array.ext'; simp
    rw [e0]
    have hall : All2 (AVRel { E with w := W1, l := some (E.w.heap.size + 1) }) (.yld :: caps.map .fv) (.func (.yield (E.w.heap.size + 1)) #[] #[] :: cs) := by
      refine .cons ⟨_, rfl, rfl⟩ ?_
      have : ∀ {l : List FV} {r : List Value}, All2 (FVRel E) l r → All2 (AVRel { E with w := W1, l := some (E.w.heap.size + 1) }) (l.map .fv) r := by
        intro l r h
        induction h with
        | nil => exact .nil
        | cons h _ ih => exact .cons (hT1.fv (h.ext hxw)) ih
      exact this hcs
    refine CallsIn.mono (F := FR none) (n := 0 - 1) ((callsIn_wide (n := 0 - 1)).2 (calls_of_wp (R := rangePost (FR none) 0 P (E.w.heap.size + 1) Q _) hf hb ((wpIn_wide (n := 0)).1 (wpr_wp (hs.wp _ _ hG1 ⟨?_, DefOk.nil _ _, ?_⟩ none (fun _ => rfl) _ ?_))))) fun _ _ h => h
    · have := hall.length
      simp only [List.length_cons, List.length_map] at this
      simp
      omega
    · exact argsT_rel hall _
    · intro E' a' hx hn hi hM ht'
      obtain ⟨u, hu, _⟩ := hr E' a'.tmps hM ht'.val
      have hl' : E'.w.heap[E.w.heap.size + 1]? = some (.loop (rec .ready)) := by
        refine (hx.same _ (lt_of_heap hL1) fun h => ?_).trans hL1
        have := hown _ h
        omega
      have hk' : E'.w.heap[E.w.heap.size]? = some (.deferred (some [])) := by
        refine (hx.same _ (lt_of_heap hK1) fun h => ?_).trans hK1
        have := hown _ h
        omega
      have hT := Turn.put (E := E') (.loop { rec .ready with state := .exhausted }) hl' rfl (fun _ _ h => by cases h) E.l
      have hsz : E.w.heap.size + 1 < E'.w.heap.size := lt_of_heap hl'
      have hxe : Ext E { E' with w := E'.w.putObj (E.w.heap.size + 1) (.loop { rec .ready with state := .exhausted }), l := E.l } := by
        refine ⟨hx.B0, hx.far, hx.pi, hx.own, fun b h => ?_, hx.os.trans hB1.os, hx.tape.trans hB1.tape, hx.output.trans hB1.output, ?_, fun b hb hno => ?_, rfl⟩
        · rcases hx.new b h with h | h
          · exact .inl h
          · exact .inr (Nat.le_trans hB1.size h)
        · show E.w.heap.size ≤ (E'.w.putObj _ _).heap.size
          rw [World.putObj_size]
          omega
        · show (E'.w.putObj _ _).heap[b]? = _
          rw [World.putObj_heap_other (by omega)]
          exact (hx.same b (Nat.lt_of_lt_of_le hb hB1.size) hno).trans (hB1.block b hb)
      have hq : Q .normal { a with defers := [{ target := .collected E.w.heap.size, args := #[] }] ++ a.defers } (E'.w.putObj (E.w.heap.size + 1) (.loop { rec .ready with state := .exhausted })) := by
        refine hQ { E' with w := E'.w.putObj (E.w.heap.size + 1) (.loop { rec .ready with state := .exhausted }), l := E.l } _ hxe hn hi (hT.mem hM) ⟨ht.size, ⟨fun d hd => ?_, ?_⟩, fun t => (ht.val t).ext hxe⟩
        · rcases List.mem_cons.1 hd with rfl | hd
          · refine ⟨_, rfl, ?_, fun h => ?_, ?_⟩
            · show (E'.w.putObj _ _).heap[E.w.heap.size]? = _
              rw [World.putObj_heap_other (by omega)]
              exact hk'
            · rcases hx.new _ h with h | h
              · have := hown _ h; omega
              · have : W1.heap.size ≤ E.w.heap.size := h
                have := lt_of_heap hK1
                omega
            · show E'.B0 ≤ _
              rw [hx.B0]
              exact hG.mem.B0
          · exact (ht.defers.1 d hd).ext hxe
        · refine List.pairwise_cons.2 ⟨fun d hd e => ?_, ht.defers.2⟩
          obtain ⟨b, h1, h2, _⟩ := ht.defers.1 d hd
          rw [← e] at h1
          simp only [Deferred.mk.injEq, Target.collected.injEq, and_true] at h1
          have := lt_of_heap h2
          omega
      have hp : a'.defers = [] ∧ ∃ v, (results fn a'.tmps).run P E'.w = .ok v E'.w ∧ rangePost (FR none) 0 P (E.w.heap.size + 1) Q { a with defers := [{ target := .collected E.w.heap.size, args := #[] }] ++ a.defers } (.returned v) E'.w := by
        refine ⟨ht'.defers, u, hu, none, _, ?_, hq⟩
        have := run_endLoop (P := P) hl' (by rw [hrec]; simp)
        rw [hrec] at this ⊢
        exact this
      cases e with
      | normal => exact hp
      | ret => exact hp
      | exit j => exact absurd rfl (hex j)
theorem evC_sound (hm : P.follows .mixedOrders = true) : ∀ (n : Nat) {D : Data}, DataOk P D → EvSound P D n
  | 0, _, _ => fun _ _ _ _ _ _ _ _ h => by cases h
  | n + 1, D, hD => by
    have ih : EvSound P D n := evC_sound hm n hD
    intro R nt c tm m ws k r h
    cases c
    case skip => exact ⟨_, _, _, _, h, ⟨[], rfl, Honest.refl m⟩, fun E a hG ht ro hro Q hQ => wpIn_skip (hQ E a (Ext.refl E) (fun _ _ h => h) (fun _ _ => rfl) hG.mem ht)⟩
    case ret => exact ⟨_, _, _, _, h, ⟨[], rfl, Honest.refl m⟩, fun E a hG ht ro hro Q hQ => wpIn_ret (hQ E a (Ext.refl E) (fun _ _ h => h) (fun _ _ => rfl) hG.mem ht)⟩
    case exit id => exact ⟨_, _, _, _, h, ⟨[], rfl, Honest.refl m⟩, fun E a hG ht ro hro Q hQ => wpIn_exit (hQ E a (Ext.refl E) (fun _ _ h => h) (fun _ _ => rfl) hG.mem ht)⟩
    case region id ops draw =>
      have hC : CallOk P D (callC D n) := fun R f as m k r h => by
        obtain ⟨v, m', ws, h1, h2, h3, _⟩ := callC_sound hD (evC_sound hm n hD.low) h
        exact ⟨v, m', ws, h1, h2, h3⟩
      have hH : CallHonest (callC D n) := fun R f as m k r h => by
        obtain ⟨v, m', ws, h1, _, _, h2⟩ := callC_sound hD (evC_sound hm n hD.low) h
        exact ⟨v, m', ws, h1, h2⟩
      have hN : CallNat (callC D n) := callC_nat (evC_nat n D.low)
      have h : regC D (callC D n) nt ops.toList draw tm m (fun tm m ws' => k .normal tm m (ws' ++ ws)) = some r := h
      obtain ⟨tm', m', us, h, hh, hs⟩ := regC_sound (call := callC D n) hm hD hC hN hH h
      exact ⟨.normal, tm', m', us ++ ws, h, ⟨us, rfl, hh⟩, fun E a hG ht ro hro Q hQ => hs E a hG ht ro Q hQ id⟩
    case seq a b =>
      simp only [evC] at h
      obtain ⟨e, tm1, m1, ws1, h, hs⟩ := ih _ _ _ _ _ _ _ _ h
      obtain ⟨us, rfl, hh⟩ := hs.log
      cases e with
      | normal =>
        obtain ⟨e2, tm2, m2, ws2, h, hs2⟩ := ih _ _ _ _ _ _ _ _ h
        obtain ⟨us2, rfl, hh2⟩ := hs2.log
        refine ⟨_, _, _, _, h, ⟨us2 ++ us, by simp, hh.trans hh2⟩, fun E a hG ht ro hro Q hQ => ?_⟩
        exact wpIn_seq (wpr_wp (hs.wp E a hG ht ro hro _ fun E1 a1 hx hn hi hM1 ht1 => wpr_wp (hs2.wp E1 a1 (hG.ext hx hM1) ht1 ro hro Q (hQ.then hh.len hx hn hi))))
      | exit j => exact ⟨_, _, _, _, h, ⟨us, rfl, hh⟩, fun E a hG ht ro hro Q hQ => wpIn_seq (wpr_wp (hs.wp E a hG ht ro hro _ hQ))⟩
      | ret => exact ⟨_, _, _, _, h, ⟨us, rfl, hh⟩, fun E a hG ht ro hro Q hQ => wpIn_seq (wpr_wp (hs.wp E a hG ht ro hro _ hQ))⟩
    case cond c a b =>
      simp only [evC] at h
      split at h
      · cases h
      · rename_i v hv
        obtain ⟨x, e, h⟩ := asB_inv h
        subst e
        have hev : ∀ (E : Env) (a : Act), Good D E m → TRel D.top E tm a nt → a.eval c = .bool x := fun E a hG ht => evO_rel hG ht.val hv
        cases x with
        | true =>
          simp only [cond_true, refine_same hv] at h
          obtain ⟨e, tm1, m1, ws1, h, hs⟩ := ih _ _ _ _ _ _ _ _ h
          exact ⟨_, _, _, _, h, hs.log, fun E a hG ht ro hro Q hQ => wpIn_cond_true (hev E a hG ht) (wpr_wp (hs.wp E a hG ht ro hro Q hQ))⟩
        | false =>
          simp only [cond_false, refine_same hv] at h
          obtain ⟨e, tm1, m1, ws1, h, hs⟩ := ih _ _ _ _ _ _ _ _ h
          exact ⟨_, _, _, _, h, hs.log, fun E a hG ht ro hro Q hQ => wpIn_cond_false (hev E a hG ht) (wpr_wp (hs.wp E a hG ht ro hro Q hQ))⟩
    case block id a =>
      simp only [evC] at h
      obtain ⟨e, tm1, m1, ws1, h, hs⟩ := ih _ _ _ _ _ _ _ _ h
      cases e with
      | normal => exact ⟨_, _, _, _, h, hs.log, fun E a hG ht ro hro Q hQ => wpIn_block (wpr_wp (hs.wp E a hG ht ro hro _ hQ))⟩
      | ret => exact ⟨_, _, _, _, h, hs.log, fun E a hG ht ro hro Q hQ => wpIn_block (wpr_wp (hs.wp E a hG ht ro hro _ hQ))⟩
      | exit j =>
        simp only at h
        cases hj : Nat.beq j id with
        | true =>
          rw [hj] at h
          refine ⟨_, _, _, _, h, hs.log, fun E a hG ht ro hro Q hQ => wpIn_block (wpr_wp (hs.wp E a hG ht ro hro _ fun E1 a1 hx hn hi hM1 ht1 => ?_))⟩
          simp only [exOf, Exit.inBlock, Nat.eq_of_beq_eq_true hj, if_true]
          exact hQ E1 a1 hx hn hi hM1 ht1
        | false =>
          rw [hj] at h
          refine ⟨_, _, _, _, h, hs.log, fun E a hG ht ro hro Q hQ => wpIn_block (wpr_wp (hs.wp E a hG ht ro hro _ fun E1 a1 hx hn hi hM1 ht1 => ?_))⟩
          have : ¬ j = id := fun e => by rw [e] at hj; simp at hj
          simp only [exOf, Exit.inBlock, this, if_false]
          exact hQ E1 a1 hx hn hi hM1 ht1
    case loop a =>
      simp only [evC] at h
      obtain ⟨e, tm1, m1, ws1, h, hs⟩ := ih _ _ _ _ _ _ _ _ h
      obtain ⟨us, rfl, hh⟩ := hs.log
      cases e with
      | normal =>
        obtain ⟨e2, tm2, m2, ws2, h, hs2⟩ := ih _ _ _ _ _ _ _ _ h
        obtain ⟨us2, rfl, hh2⟩ := hs2.log
        refine ⟨_, _, _, _, h, ⟨us2 ++ us, by simp, hh.trans hh2⟩, fun E a hG ht ro hro Q hQ => ?_⟩
        show Code.wpIn _ _ _ _ _ _ _
        exact wpr_wp (hs.wp E a hG ht ro hro _ fun E1 a1 hx hn hi hM1 ht1 => hs2.wp E1 a1 (hG.ext hx hM1) ht1 ro hro Q (hQ.then hh.len hx hn hi))
      | exit j => exact ⟨_, _, _, _, h, ⟨us, rfl, hh⟩, fun E a hG ht ro hro Q hQ => wpr_wp (hs.wp E a hG ht ro hro (Exit.then (Code.roundsIn (FR ro) 0 P _ Q n) Q) hQ)⟩
      | ret => exact ⟨_, _, _, _, h, ⟨us, rfl, hh⟩, fun E a hG ht ro hro Q hQ => wpr_wp (hs.wp E a hG ht ro hro (Exit.then (Code.roundsIn (FR ro) 0 P _ Q n) Q) hQ)⟩
    case rangeFunc f ps assign body =>
      simp only [evC] at h
      obtain ⟨htop, h⟩ := bif_inv h
      split at h
      · rename_i g caps hev
        split at h
        · cases h
        · rename_i fn hfn
          split at h
          · cases h
          · rename_i c hb
            obtain ⟨hle, h⟩ := bif_inv h
            obtain ⟨e, tm', m', ws', h, hs⟩ := evC_sound hm n (hD.iter _) _ _ _ _ _ _ _ _ h
            obtain ⟨us, hus, hh⟩ := hs.log
            simp only [List.append_nil] at hus
            subst hus
            have hex : (∀ j, e ≠ .exit j) ∧ (resC D.low tm' m' fn.results.toList [] fun l => tupC l fun _ => k .normal tm m' (ws' ++ ws)) = some r := by
              cases e with
              | normal => exact ⟨by simp, h⟩
              | ret => exact ⟨by simp, h⟩
              | exit j => cases h
            obtain ⟨_, h, hr⟩ := results_sound hD.low hex.2
            obtain ⟨hf, hcall⟩ := hD.funs g fn hfn
            exact ⟨.normal, tm, m', ws' ++ ws, h, ⟨ws', rfl, hh⟩, fun E a hG ht ro hro Q hQ => range_sound hf hcall hb (ble_iff.1 hle) htop hev hs hex.1 hr hG ht (hro htop) hQ⟩
      · cases h
    all_goals (simp only [evC] at h; cases h)
end
end Go.Ev
end
