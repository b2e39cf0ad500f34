/- Part 8 of 46 of what the theorem stands on. -/
import Derived.Test.YtkbfmpomeejadaaGreatDoorRemag

section
namespace Go.Ev
open Go.RowKit
section
variable {P : Program} {D : Data} {call : CallK}
theorem snd_callV (hD : DataOk P D) (hC : CallOk P D call) {o : Oper} {f : Operand} {args : Array Operand} {ts : Array TypeId} (ho : o.op = .call { callee := .value f, args := args, argTypes := ts }) : OpSound P D call o := by
  intro R slot tm m k r h
  rw [ho] at h
  simp only [opC] at h
  obtain ⟨fv, hf, h1⟩ := ev_inv h
  clear h
  split at h1
  · split at h1
    · rename_i as has
      obtain ⟨v, m', ws, h, _, hE⟩ := hC R yId as m _ r h1
      have hE := hE (Nat.beq_refl yId)
      refine ⟨v, m', _, h, hE.len, fun E a hG ht _ => ?_⟩
      obtain ⟨l, hl, hev⟩ := evO_rel hG ht hf
      obtain ⟨fn, tmps, assign, body, hy, hR⟩ := hE.round E _ l hG hl (evOs_rel hG ht has)
      refine .inr (.inr (.inr ⟨l, fn, tmps, assign, body, ?_, hR.mono fun e w' ⟨E', u, he, hw, hx, h1, h2, h3, h4⟩ => ⟨E', u, he, hw, hx, fun id hid _ hp => h1 id hid hp, h2, h3, h4⟩⟩))
      have e1 : execOp a.eval o = (do let d ← resolve a.eval { callee := .value f, args := args, argTypes := ts } o.type; invoke d.target d.args) := by
        unfold execOp; rw [ho]
      have e2 : (resolve a.eval { callee := .value f, args := args, argTypes := ts } o.type).run P E.w = .ok { target := .fn (.yield l) #[], args := #[] ++ args.map a.eval } E.w := by
        unfold resolve
        dsimp only
        rw [hev]
        rfl
      rw [e1, Sem.run_bind, e2]
      have e3 : (#[] ++ args.map a.eval) = (args.toList.map a.eval).toArray := by apply Array.ext'; simp
      rw [e3]
      exact hy
    · cases h1
  split at h1
  · rename_i g first caps as hfn has
    obtain ⟨v, m', lab, h, hlen, hs⟩ := callF_sound hD hC h1
    refine ⟨v, m', lab, h, hlen, fun E a hG ht _ => ?_⟩
    obtain ⟨us, cs, hev, hus, hcs⟩ := asFn_rel (evO_rel hG ht hf) hfn
    have hargs := evOs_rel hG ht has
    have hfv : ∀ {l : List FV} {r : List Value}, All2 (FVRel E) l r → All2 (AVRel E) (l.map .fv) r := by
      intro l r h
      induction h with
      | nil => exact .nil
      | cons h _ ih => exact .cons h ih
    have hall : All2 (AVRel E) (first.map .fv ++ (as ++ caps.map .fv)) (us ++ (args.toList.map a.eval ++ cs)) := (hfv hus).append (hargs.append (hfv hcs))
    have hrun : ∀ w, (execOp a.eval o).run P w = (callFunc g (us ++ (args.toList.map a.eval ++ cs)).toArray).run P w := by
      intro w
      have e : (us.toArray ++ args.map a.eval) ++ cs.toArray = (us ++ (args.toList.map a.eval ++ cs)).toArray := by
        apply Array.ext'; simp
      have e1 : execOp a.eval o = (do let d ← resolve a.eval { callee := .value f, args := args, argTypes := ts } o.type; invoke d.target d.args) := by
        unfold execOp; rw [ho]
      have e2 : (resolve a.eval { callee := .value f, args := args, argTypes := ts } o.type).run P w = .ok { target := .fn (.func g) cs.toArray, args := us.toArray ++ args.map a.eval } w := by
        unfold resolve
        dsimp only
        rw [hev]
        rfl
      rw [e1, Sem.run_bind, e2, ← e]
      rfl
    rcases hs E _ hG hall with ⟨u, hu, hv, hM⟩ | ⟨hc, hcalls⟩
    · exact .inl ⟨E, u, by rw [hrun]; exact hu, Ext.refl E, fun _ _ _ h => h, fun _ _ => rfl, hM, hv⟩
    · refine .inr (.inr (.inl ⟨g, _, by rw [hrun]; exact hc _ _, hcalls.mono fun e w' ⟨E', u, he, hw, hx, h1, h2, h3, h4⟩ => ⟨E', u, he, hw, hx, fun id hid _ hp => h1 id hid hp, h2, h3, h4⟩⟩))
  · cases h1
theorem foldI_inv {R : Type} {f : Int → Int → Int} {q : IntKind} : ∀ {l : List AV} {a : Int} {k : AV → Option R} {r : R}, foldI f q a l k = some r →
    ∃ bs : List Int, k (.fv (.one (.int q (bs.foldl f a)))) = some r ∧ All2 (fun (x : AV) (b : Int) => x = .fv (.one (.int q b))) l bs
  | [], a, k, r, h => ⟨[], h, .nil⟩
  | x :: l, a, k, r, h => by
    unfold foldI at h
    split at h
    · rename_i e; cases e
    · rename_i q' b l' e
      cases e
      obtain ⟨hq, h'⟩ := bif_inv h
      clear h
      have hq : q = q' := by simpa using hq
      subst hq
      obtain ⟨bs, h1, h2⟩ := foldI_inv h'
      exact ⟨b :: bs, h1, .cons rfl h2⟩
    · cases h
theorem run_min {q : IntKind} : ∀ (bs : List Int) (a : Int) (w : World), ((bs.map (Value.int q)).foldlM Builtin.min2 (.int q a)).run P w = .ok (.int q (bs.foldl mn a)) w
  | [], a, w => rfl
  | b :: bs, a, w => by
    have e : (Builtin.min2 (.int q a) (.int q b)).run P w = .ok (.int q (mn a b)) w := by
      simp only [Builtin.min2, Sem.run_pure, mn]
      by_cases h : b < a <;> simp [h]
    simp only [List.map_cons, List.foldlM_cons, Sem.run_bind, e, Result.andThen, List.foldl_cons]
    exact run_min bs _ w
theorem run_max {q : IntKind} : ∀ (bs : List Int) (a : Int) (w : World), ((bs.map (Value.int q)).foldlM Builtin.max2 (.int q a)).run P w = .ok (.int q (bs.foldl mx a)) w
  | [], a, w => rfl
  | b :: bs, a, w => by
    have e : (Builtin.max2 (.int q a) (.int q b)).run P w = .ok (.int q (mx a b)) w := by
      simp only [Builtin.max2, Sem.run_pure, mx]
      by_cases h : a < b <;> simp [h]
    simp only [List.map_cons, List.foldlM_cons, Sem.run_bind, e, Result.andThen, List.foldl_cons]
    exact run_max bs _ w
theorem all2_ints {E : Env} {q : IntKind} : ∀ {l : List AV} {bs : List Int} {vs : List Value}, All2 (fun (x : AV) (b : Int) => x = .fv (.one (.int q b))) l bs → All2 (AVRel E) l vs → vs = bs.map (Value.int q)
  | [], _, _, h, k => by cases h; cases k; rfl
  | x :: l, _, _, h, k => by
    cases h with
    | cons h t => cases k with
      | cons k u =>
        subst h
        rw [all2_ints t u, show _ = Value.int q _ from k]; rfl
theorem ofDig_lt : ∀ (ds : List Nat), (∀ d ∈ ds, d < 4294967296) → ofDig ds < 2 ^ (32 * ds.length)
  | [], _ => by simp [ofDig]
  | d :: ds, h => by
    have ih := ofDig_lt ds fun x hx => h x (by simp [hx])
    have hd := h d (by simp)
    have : 2 ^ (32 * (d :: ds).length) = 4294967296 * 2 ^ (32 * ds.length) := by
      rw [List.length_cons, Nat.mul_add, Nat.pow_add, Nat.mul_comm]
    rw [this]
    simp only [ofDig]
    have : ofDig ds + 1 ≤ 2 ^ (32 * ds.length) := ih
    have := Nat.mul_le_mul_left 4294967296 this
    omega
theorem le_ofDig : ∀ (ds : List Nat) (d : Nat), ds.getLast? = some d → d ≠ 0 → 2 ^ (32 * (ds.length - 1)) ≤ ofDig ds
  | [], d, h, _ => by simp at h
  | [x], d, h, hd => by simp at h; subst h; simp [ofDig]; omega
  | x :: y :: ds, d, h, hd => by
    have ih := le_ofDig (y :: ds) d (by simpa using h) hd
    simp only [List.length_cons, Nat.add_sub_cancel] at ih ⊢
    rw [Nat.mul_add, Nat.pow_add, Nat.mul_comm]
    rw [show ofDig (x :: y :: ds) = x + 4294967296 * ofDig (y :: ds) from rfl]
    have := Nat.mul_le_mul_left 4294967296 ih
    omega
theorem nd_len (ds : List Nat) (h : ∀ d ∈ ds, d < 4294967296) (hl : ds.getLast? ≠ some 0) : nd (ofDig ds) = ds.length := by
  cases ds with
  | nil => rfl
  | cons x xs =>
    obtain ⟨d, hd⟩ : ∃ d, (x :: xs).getLast? = some d := ⟨_, List.getLast?_eq_some_getLast (by simp)⟩
    have h0 : d ≠ 0 := fun e => hl (by rw [hd, e])
    have h1 := le_ofDig _ d hd h0
    have h2 := ofDig_lt _ h
    have hn : ofDig (x :: xs) ≠ 0 := by
      have := Nat.two_pow_pos (32 * ((x :: xs).length - 1))
      omega
    have e : Nat.beq (ofDig (x :: xs)) 0 = false := Bool.eq_false_iff.2 fun e => hn (Nat.eq_of_beq_eq_true e)
    unfold nd
    rw [e]
    simp only [cond_false]
    have a1 := (Nat.le_log2 hn).2 h1
    have a2 := (Nat.log2_lt hn).2 h2
    simp only [List.length_cons, Nat.add_sub_cancel] at a1 a2 ⊢
    omega
theorem all2_one {α β : Type} {R : α → β → Prop} {x : α} {l : List β} (h : All2 R [x] l) : ∃ v, l = [v] ∧ R x v := by
  cases h with
  | cons h t => cases t; exact ⟨_, rfl, h⟩
theorem all2_cons {α β : Type} {R : α → β → Prop} {x : α} {xs : List α} {l : List β} (h : All2 R (x :: xs) l) : ∃ v vs, l = v :: vs ∧ R x v ∧ All2 R xs vs := by
  cases h with
  | cons h t => exact ⟨_, _, rfl, h, t⟩
theorem snd_builtin (hD : DataOk P D) {o : Oper} {b : Builtin} {args : Array Operand} {ts : Array TypeId} (ho : o.op = .call { callee := .builtin b, args := args, argTypes := ts }) : OpSound P D call o := by
  intro R slot tm m k r h
  rw [ho] at h
  simp only [opC] at h
  split at h
  · cases h
  · rename_i as has
    have hrun : ∀ (a : Act) (w : World), (execOp a.eval o).run P w = (builtin b ts o.type (args.map fun | .const _ => true | _ => false) (args.map a.eval)).run P w := by
      intro a w
      have e1 : execOp a.eval o = (do let d ← resolve a.eval { callee := .builtin b, args := args, argTypes := ts } o.type; invoke d.target d.args) := by
        unfold execOp; rw [ho]
      rw [e1, Sem.run_bind]
      rfl
    have hts : ∀ t, ts.toList = [t] → ts[0]? = some t := by
      intro t e
      cases ts with
      | mk l => simp at e; subst e; rfl
    have hav : ∀ (a : Act), args.map a.eval = (args.toList.map a.eval).toArray := fun a => by apply Array.ext'; simp
    unfold builtC at h
    split at h
    · rename_i n
      split at h
      · rename_i t het
        split at h
        · rename_i e _ _ _ hty
          refine ⟨_, m, _, h, Nat.le_refl _, fun E a hG ht _ => ?_⟩
          obtain ⟨d, _, zv, hd, _, _, hde, _⟩ := tyOf_spec (hD.types _ _ hty)
          obtain rfl := red_slice hde.symm
          have hvs := evOs_rel hG ht has
          obtain ⟨v, hv, hr⟩ := all2_one hvs
          obtain ⟨⟨ds, d1, d2, d3, d4⟩, _⟩ := hr
          have hlen := nd_len ds d1 d2
          rw [d3] at hlen
          refine res_val hG.mem (u := .int .i64 (nd n)) rfl ?_
          rw [hrun, hav, hv]
          rcases d4 with ⟨rfl, A, c, rfl⟩ | ⟨ad, cap, _, rfl, _⟩
          · simp [builtin, Builtin.len_, hts t het, run_under hd, hlen, goInt]
          · simp [builtin, Builtin.len_, hts t het, run_under hd, hlen, goInt]
        · cases h
      · cases h
    · rename_i n c
      split at h
      · rename_i t het
        split at h
        · rename_i e _ _ _ hty
          refine ⟨_, m, _, h, Nat.le_refl _, fun E a hG ht _ => ?_⟩
          obtain ⟨d, _, zv, hd, _, _, hde, _⟩ := tyOf_spec (hD.types _ _ hty)
          obtain rfl := red_slice hde.symm
          obtain ⟨v, hv, b, base, _, rfl⟩ := all2_one (evOs_rel hG ht has)
          refine res_val hG.mem (u := .int .i64 n) rfl ?_
          rw [hrun, hav, hv]
          simp [builtin, Builtin.len_, hts t het, run_under hd, goInt]
        · cases h
      · cases h
    · rename_i s
      split at h
      · rename_i t het
        split at h
        · rename_i _ _ _ hty
          refine ⟨_, m, _, h, Nat.le_refl _, fun E a hG ht _ => ?_⟩
          obtain ⟨d, _, zv, hd, _, _, hde, _⟩ := tyOf_spec (hD.types _ _ hty)
          obtain rfl := red_str hde.symm
          obtain ⟨v, hv, hr⟩ := all2_one (evOs_rel hG ht has)
          have hr : v = .string s := hr
          subst hr
          refine res_val hG.mem (u := .int .i64 s.size) rfl ?_
          rw [hrun, hav, hv]
          simp [builtin, Builtin.len_, hts t het, run_under hd, goInt]
        · cases h
      · cases h
    · rename_i q x l
      obtain ⟨bs, h, hb⟩ := foldI_inv h
      refine ⟨_, m, _, h, Nat.le_refl _, fun E a hG ht _ => ?_⟩
      obtain ⟨v, vs, hv, hr, hrs⟩ := all2_cons (evOs_rel hG ht has)
      have hr : v = .int q x := hr
      have hvs := all2_ints hb hrs
      subst hr hvs
      refine res_val hG.mem (u := .int q (bs.foldl mn x)) rfl ?_
      rw [hrun, hav, hv]
      simp [builtin, Builtin.min_, run_min]
    · rename_i q x l
      obtain ⟨bs, h, hb⟩ := foldI_inv h
      refine ⟨_, m, _, h, Nat.le_refl _, fun E a hG ht _ => ?_⟩
      obtain ⟨v, vs, hv, hr, hrs⟩ := all2_cons (evOs_rel hG ht has)
      have hr : v = .int q x := hr
      have hvs := all2_ints hb hrs
      subst hr hvs
      refine res_val hG.mem (u := .int q (bs.foldl mx x)) rfl ?_
      rw [hrun, hav, hv]
      simp [builtin, Builtin.max_, run_max]
    · cases h
/-- Every operation. -/
theorem op_sound (hD : DataOk P D) (hC : CallOk P D call) (o : Oper) : OpSound P D call o := by
  obtain ⟨dst, op, type, pos, after, guard⟩ := o
  cases op
  case move x => exact snd_move (.inl rfl)
  case assign x => exact snd_move (.inr rfl)
  case pick => exact snd_pick rfl
  case alloc => exact snd_alloc hD rfl
  case box => exact snd_box rfl
  case build => exact snd_build hD rfl
  case buildSlice => exact snd_buildSlice hD rfl
  case load => exact snd_load hD rfl
  case store => exact snd_store hD rfl
  case nilCheck => exact snd_nilCheck rfl
  case binOp => exact snd_binOp hD rfl
  case unOp => exact snd_unOp rfl
  case convert => exact snd_convert hD rfl
  case sliceToArrayPointer => exact snd_toArray hD rfl
  case makeFunc fn _ _ =>
    cases fn
    case func => exact snd_makeFunc rfl
    all_goals (intro R slot tm m k r h; simp only [opC] at h; cases h)
  case makeSlice => exact snd_makeSlice hD rfl
  case slice => exact snd_slice hD rfl
  case fieldAddr => exact snd_fieldAddr hD rfl
  case field => exact snd_field hD rfl
  case indexAddr => exact snd_indexAddr hD rfl
  case index => exact snd_index hD rfl
  case lookup => exact snd_lookup hD rfl
  case insert => exact snd_insert hD rfl
  case extract => exact snd_extract rfl
  case makeMap t r =>
    cases r
    case none => exact snd_makeMap rfl
    case some => intro R slot tm m k r h; simp only [opC] at h; cases h
  case call c =>
    obtain ⟨callee, args, ts⟩ := c
    cases callee
    case value => exact snd_callV hD hC rfl
    case builtin => exact snd_builtin hD rfl
    case invoke => intro R slot tm m k r h; simp only [opC] at h; cases h
  all_goals (intro R slot tm m k r h; simp only [opC] at h; cases h)
end
end Go.Ev
end
