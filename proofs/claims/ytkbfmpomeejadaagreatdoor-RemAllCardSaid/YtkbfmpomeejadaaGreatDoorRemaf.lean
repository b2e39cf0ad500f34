/- Part 6 of 46 of what the theorem stands on. -/
import Derived.Test.YtkbfmpomeejadaaGreatDoorRemae

section
namespace Go.Ev
open Go.RowKit
section
variable {P : Program} {D : Data} {call : CallK}
theorem snd_toArray (hD : DataOk P D) {o : Oper} {t : Nat} {x : Operand} (ho : o.op = .sliceToArrayPointer t x) : OpSound P D call o := by
  intro R slot tm m k r h
  rw [ho] at h
  simp only [opC] at h
  obtain ⟨xv, hx, h⟩ := ev_inv h
  split at h
  · rename_i id off n _ c e _ _ _ hty
    obtain ⟨hc, h⟩ := bif_inv h
    have hc := ble_iff.1 hc
    obtain ⟨d, i, zv, hd, _, _, hde, _⟩ := tyOf_spec (hD.types _ _ hty)
    obtain rfl := red_array hde.symm
    refine ⟨_, m, _, h, Nat.le_refl _, fun E a hG ht _ => ?_⟩
    obtain ⟨b, base, hp, he⟩ := evO_rel hG ht hx
    refine res_val hG.mem (u := .pointer (some ⟨b, base + off, none⟩)) ⟨b, base, hp, rfl⟩ ?_
    simp only [execOp, ho, he, Instr.arrayAt, Sem.run_bind, run_under hd, Result.andThen, Sem.run_ite]
    rw [if_neg (by omega)]
    simp
  · cases h
theorem fieldPl_spec (hD : DataOk P D) {fa : Array Field} {i off n : Nat} (h : fieldPl D (fa.toList.map fun f => (f.type, f.offset)) i = some (off, n)) :
    ∃ f, fa[i]? = some f ∧ f.offset = off ∧ ∃ ty, look D.types f.type = some ty ∧ ty.size = n ∧ tyOf P f.type = some ty := by
  unfold fieldPl at h
  rw [nthO_eq] at h
  simp only [List.getElem?_map, Array.getElem?_toList] at h
  cases hf : fa[i]? with
  | none => rw [hf] at h; simp at h
  | some f =>
    rw [hf] at h
    simp only [Option.map_some] at h
    split at h
    · cases h
    · rename_i ty hty
      simp only [Option.some.injEq, Prod.mk.injEq] at h
      exact ⟨f, rfl, h.1, ty, hty, h.2, hD.types _ _ hty⟩
theorem snd_fieldAddr (hD : DataOk P D) {o : Oper} {t i : Nat} {x : Operand} (ho : o.op = .fieldAddr t x i) : OpSound P D call o := by
  intro R slot tm m k r h
  rw [ho] at h
  simp only [opC] at h
  obtain ⟨xv, hx, h⟩ := ev_inv h
  obtain ⟨id, off, rfl, h1⟩ := asP_inv h
  clear h
  split at h1
  · rename_i fs size bytes z hty
    obtain ⟨d, _, zv, hd, _, _, hde, _⟩ := tyOf_spec (hD.types _ _ hty)
    obtain ⟨fa, rfl, rfl⟩ := red_struct hde.symm
    split at h1
    · rename_i fo n hf
      obtain ⟨f, hfa, rfl, ty, hty', rfl, hT⟩ := fieldPl_spec hD hf
      cases hn : Nat.beq ty.size 0 with
      | true => rw [hn] at h1; cases h1
      | false =>
        rw [hn] at h1
        have hn : ty.size ≠ 0 := fun e => by rw [e] at hn; cases hn
        refine ⟨_, m, _, h1, Nat.le_refl _, fun E a hG ht _ => ?_⟩
        obtain ⟨b, base, hp, he⟩ := evO_rel hG ht hx
        refine res_val hG.mem (u := .pointer (some ⟨b, base + (off + f.offset), none⟩)) ⟨b, base, hp, rfl⟩ ?_
        simp only [execOp, ho, he, Instr.fieldAt, Sem.run_bind, run_under hd, Result.andThen, hfa, Instr.sureAddr, Sem.run_pure, fieldPlace, run_size hT, Sem.run_ite]
        rw [if_neg hn]
        simp [addr_add, Nat.add_assoc]
    · cases h1
  · cases h1
theorem part_sound (hD : DataOk P D) {t off : Nat} {cs : List Lf} {v : FV} (h : partL D t cs off = some v) {E : Env} {vs : List Value} (hr : All2 (LfRel E) cs vs) :
    ∃ u, (∀ w, (part t vs.toArray off).run P w = .ok u w) ∧ FVRel E v u := by
  unfold partL at h
  split at h
  · cases h
  · rename_i ty hty
    have hT := hD.types _ _ hty
    cases ha : isAggD ty.desc with
    | true =>
      rw [ha] at h
      simp only [cond_true, Option.some.injEq] at h
      subst h
      refine ⟨.agg ((vs.drop off).take ty.size).toArray, fun w => ?_, ⟨_, rfl, (hr.drop off).take ty.size⟩⟩
      simp only [part, Sem.run_bind, run_isAgg hT, ha, Result.andThen, if_true, run_size hT, Sem.run_pure]
      congr 2
      apply Array.ext'
      simp [List.take_drop]
    | false =>
      rw [ha] at h
      simp only [cond_false] at h
      rw [nthO_eq] at h
      split at h
      · rename_i x hx
        cases h
        obtain ⟨u, hu, hr⟩ := hr.get hx
        refine ⟨u, fun w => ?_, hr⟩
        simp only [part, Sem.run_bind, run_isAgg hT, ha, Result.andThen, Bool.false_eq_true, if_false, List.getElem?_toArray, hu, Sem.run_pure]
      · cases h
theorem snd_field (hD : DataOk P D) {o : Oper} {t i : Nat} {x : Operand} (ho : o.op = .field t x i) : OpSound P D call o := by
  intro R slot tm m k r h
  rw [ho] at h
  simp only [opC] at h
  obtain ⟨xv, hx, h⟩ := ev_inv h
  split at h
  · rename_i l fs size bytes z hty
    obtain ⟨d, _, zv, hd, _, _, hde, _⟩ := tyOf_spec (hD.types _ _ hty)
    obtain ⟨fa, rfl, rfl⟩ := red_struct hde.symm
    split at h
    · cases h
    · rename_i ft fo hf
      rw [nthO_eq] at hf
      simp only [List.getElem?_map, Array.getElem?_toList] at hf
      cases hfa : fa[i]? with
      | none => rw [hfa] at hf; simp at hf
      | some f =>
        rw [hfa] at hf
        simp only [Option.map_some, Option.some.injEq, Prod.mk.injEq] at hf
        obtain ⟨rfl, rfl⟩ := hf
        split at h
        · rename_i v hv
          refine ⟨_, m, _, h, Nat.le_refl _, fun E a hG ht _ => ?_⟩
          obtain ⟨vs, he, hr⟩ := evO_rel hG ht hx
          obtain ⟨u, hu, hr⟩ := part_sound hD hv hr
          refine res_val hG.mem (u := u) hr ?_
          simp only [execOp, ho, he, Instr.field, Sem.run_bind, run_under hd, Result.andThen, hfa, asAgg, Sem.run_pure, hu]
        · cases h
  · cases h
theorem snd_indexAddr (hD : DataOk P D) {o : Oper} {t : Nat} {x i : Operand} (ho : o.op = .indexAddr t x i) : OpSound P D call o := by
  intro R slot tm m k r h
  rw [ho] at h
  simp only [opC] at h
  obtain ⟨xv, hx, h⟩ := ev_inv h
  obtain ⟨iv, hi, h⟩ := ev_inv h
  obtain ⟨q, z, rfl, h1⟩ := asI_inv h
  clear h
  split at h1
  · rename_i id off n s _ _ _ hty
    split at h1
    · cases h1
    · rename_i ts hts
      obtain ⟨d, _, zv, hd, _, _, hde, _⟩ := tyOf_spec (hD.types _ _ hty)
      obtain rfl := red_array hde.symm
      obtain ⟨j, hj, rfl, h⟩ := idxC_inv h1
      refine ⟨_, m, _, h, Nat.le_refl _, fun E a hG ht _ => ?_⟩
      obtain ⟨b, base, hp, he⟩ := evO_rel hG ht hx
      have ei : a.eval i = .int q j := evO_rel hG ht hi
      refine res_val hG.mem (u := .pointer (some ⟨b, base + (off + j * ts.size), none⟩)) ⟨b, base, hp, rfl⟩ ?_
      have hc : (0 : Int) ≤ j ∧ (j : Int) < n := by omega
      simp only [execOp, ho, he, ei, Instr.indexAt, asIntOf, Instr.sureAddr, Sem.run_bind, run_under hd, Result.andThen, Sem.run_pure, if_pos hc, run_size (hD.types _ _ hts), Int.toNat_natCast, addr_add, Nat.add_assoc]
  · rename_i id off n _ s _ _ _ hty
    split at h1
    · cases h1
    · rename_i ts hts
      obtain ⟨d, _, zv, hd, _, _, hde, _⟩ := tyOf_spec (hD.types _ _ hty)
      obtain rfl := red_slice hde.symm
      obtain ⟨j, hj, rfl, h⟩ := idxC_inv h1
      refine ⟨_, m, _, h, Nat.le_refl _, fun E a hG ht _ => ?_⟩
      obtain ⟨b, base, hp, he⟩ := evO_rel hG ht hx
      have ei : a.eval i = .int q j := evO_rel hG ht hi
      refine res_val hG.mem (u := .pointer (some ⟨b, base + (off + j * ts.size), none⟩)) ⟨b, base, hp, rfl⟩ ?_
      have hc : (0 : Int) ≤ j ∧ (j : Int) < n := by omega
      simp only [execOp, ho, he, ei, Instr.indexAt, asIntOf, Sem.run_bind, run_under hd, Result.andThen, Sem.run_pure, if_pos hc, run_size (hD.types _ _ hts), Int.toNat_natCast, addr_add, Nat.add_assoc]
  · cases h1
theorem snd_index (hD : DataOk P D) {o : Oper} {t : Nat} {x i : Operand} (ho : o.op = .index t x i) : OpSound P D call o := by
  intro R slot tm m k r h
  rw [ho] at h
  simp only [opC] at h
  obtain ⟨xv, hx, h⟩ := ev_inv h
  obtain ⟨iv, hi, h⟩ := ev_inv h
  obtain ⟨q, z, rfl, h1⟩ := asI_inv h
  clear h
  split at h1
  · rename_i l n s _ _ _ hty
    split at h1
    · cases h1
    · rename_i ts hts
      obtain ⟨d, _, zv, hd, _, _, hde, _⟩ := tyOf_spec (hD.types _ _ hty)
      obtain rfl := red_array hde.symm
      obtain ⟨j, hj, rfl, h⟩ := idxC_inv h1
      split at h
      · rename_i v hv
        refine ⟨_, m, _, h, Nat.le_refl _, fun E a hG ht _ => ?_⟩
        obtain ⟨vs, he, hr⟩ := evO_rel hG ht hx
        have ei : a.eval i = .int q j := evO_rel hG ht hi
        obtain ⟨u, hu, hr⟩ := part_sound hD hv hr
        refine res_val hG.mem (u := u) hr ?_
        have hc : (0 : Int) ≤ j ∧ (j : Int) < n := by omega
        simp only [execOp, ho, he, ei, Instr.index, asIntOf, Sem.run_bind, run_under hd, Result.andThen, Sem.run_pure, if_pos hc, run_size (hD.types _ _ hts), Int.toNat_natCast, hu]
      · cases h
  · rename_i s _ _ _ hty
    obtain ⟨hc, h⟩ := bif_inv h1
    simp only [Bool.and_eq_true, decide_eq_true_eq] at hc
    obtain ⟨d, _, zv, hd, _, _, hde, _⟩ := tyOf_spec (hD.types _ _ hty)
    obtain rfl := red_str hde.symm
    refine ⟨_, m, _, h, Nat.le_refl _, fun E a hG ht _ => ?_⟩
    have he : a.eval x = .string s := evO_rel hG ht hx
    have ei : a.eval i = .int q z := evO_rel hG ht hi
    have hlt : z.toNat < s.size := by omega
    have hg : s[z.toNat]? = some s[z.toNat] := getElem?_pos s z.toNat hlt
    refine res_val hG.mem (u := .int .u8 ((s[z.toNat].toNat : Nat) : Int)) ?_ ?_
    · show Value.int .u8 _ = Value.int .u8 (strAt s z.toNat)
      unfold strAt
      rw [hg]
    · simp only [execOp, ho, he, ei, Instr.index, asIntOf, Sem.run_bind, run_under hd, Result.andThen, Sem.run_pure, if_pos hc.1, hg]
  · cases h1
theorem snd_extract {o : Oper} {x : Operand} {i : Nat} (ho : o.op = .extract x i) : OpSound P D call o := by
  intro R slot tm m k r h
  rw [ho] at h
  simp only [opC] at h
  obtain ⟨xv, hx, h⟩ := ev_inv h
  split at h
  · rename_i l
    split at h
    · rename_i v hv
      rw [nthO_eq] at hv
      refine ⟨_, m, _, h, Nat.le_refl _, fun E a hG ht _ => ?_⟩
      obtain ⟨vs, he, hr⟩ := evO_rel hG ht hx
      obtain ⟨u, hu, hr⟩ := hr.get hv
      refine res_val hG.mem (u := u) hr ?_
      simp [execOp, ho, he, Instr.extract, hu]
    · cases h
  · cases h
theorem snd_makeMap {o : Oper} {t : Nat} (ho : o.op = .makeMap t none) : OpSound P D call o := by
  intro R slot tm m k r h
  rw [ho] at h
  simp only [opC] at h
  refine ⟨_, _, _, h, Nat.le_refl _, fun E a hG ht hS => ?_⟩
  have hal : isAl o.op = true := by rw [ho]; rfl
  have hp := hS.pi hal
  refine .inl ⟨E.push slot (.map #[] 0), .map (some E.w.heap.size), ?_, push_ext _ hp, ?_, fun _ _ => rfl, ?_, ⟨_, 0, by simp [Env.push], rfl⟩⟩
  · simp [execOp, ho, Instr.makeMap, Env.push]
  · rw [hal]; exact push_none
  · exact push_map hG.mem (hS.low hal) hp rfl (by rw [set_blk]) (by rw [set_blk]) (by rw [set_blk]) (fun _ h => set_other _ _ h)
theorem run_checkKey' {kt : Nat} {d : TypeDesc} (hd : P.underlying kt = some d) (hs : redD d = .str ∨ ∃ q, redD d = .int q) (n : Nat) (b : Bool) (v : Value) (w : World) : (Instr.checkKey b (n + 1) kt v).run P w = .ok () w := by
  rcases hs with hs | ⟨q, hs⟩
  · obtain rfl := red_str hs
    simp [Instr.checkKey, run_under hd]
  · obtain rfl := red_int hs
    simp [Instr.checkKey, run_under hd]
theorem run_checkKey {kt : Nat} {d : TypeDesc} (hd : P.underlying kt = some d) (hs : redD d = .str ∨ ∃ q, redD d = .int q) (b : Bool) (v : Value) (w : World) : (Instr.checkKey b 10000 kt v).run P w = .ok () w :=
  run_checkKey' hd hs 9999 b v w
/-- The search for a key. -/
def srch (d : TD) (x : Lf) : List (Lf × FV) → Option (Option FV)
  | [] => some none
  | (y, v) :: l => match keyD d x y with
    | none => none
    | some b => bif b then some (some v) else srch d x l
theorem findC_eq {R : Type} (d : TD) (x : Lf) (found : FV → Option R) (no : Option R) : ∀ es, findC d x found no es = match srch d x es with
    | none => none
    | some none => no
    | some (some v) => found v
  | [] => rfl
  | (y, v) :: es => by
    simp only [findC, srch, keyC]
    cases keyD d x y with
    | none => rfl
    | some b =>
      cases b with
      | true => rfl
      | false => simpa using findC_eq d x found no es
theorem srch_sound {d : TypeDesc} {x : Lf} {E : Env} {xv : Value} (hx : LfRel E x xv) : ∀ {es : List (Lf × FV)} {en : List MapEntry} {j : Nat} {res : Option FV}, srch (redD d) x es = some res →
    All2 (fun (x : Lf × FV) (e : MapEntry) => LfRel E x.1 e.key ∧ FVRel E x.2 e.val) es en →
    match res with
    | none => Instr.findNow d xv en j = some none
    | some v => ∃ i e, Instr.findNow d xv en j = some (some (i, e)) ∧ FVRel E v e
  | [], en, j, res, h, ha => by
    cases ha
    simp only [srch, Option.some.injEq] at h
    subst h; rfl
  | (y, v) :: es, en, j, res, h, ha => by
    cases ha with
    | cons ha ht =>
      rename_i e en
      obtain ⟨hy, hv⟩ := ha
      simp only [srch] at h
      cases hk : keyD (redD d) x y with
      | none => rw [hk] at h; cases h
      | some b =>
        rw [hk] at h
        have hs : Instr.sameNow d xv e.key = some b := by
          unfold keyD at hk
          split at hk
          · rename_i q0 q a q' b' hd
            obtain ⟨hq, hk⟩ := bif_inv hk
            have hq : q = q' := by simpa using hq
            cases hk
            subst hq
            have hx' : xv = .int q a := hx
            have hy' : e.key = .int q b' := hy
            obtain rfl := red_int hd
            simp only [Instr.sameNow, hx', hy', if_true]; rfl
          · rename_i a b' hd
            cases hk
            have hx' : xv = .string a := hx
            have hy' : e.key = .string b' := hy
            obtain rfl := red_str hd
            simp only [Instr.sameNow, hx', hy']
          · cases hk
        cases b with
        | true =>
          simp only [cond_true, Option.some.injEq] at h
          subst h
          exact ⟨j, e.val, by simp [Instr.findNow, hs], hv⟩
        | false =>
          simp only [cond_false] at h
          have ih := srch_sound hx (j := j + 1) h ht
          cases res with
          | none => simpa [Instr.findNow, hs] using ih
          | some u =>
            obtain ⟨i, e', h1, h2⟩ := ih
            exact ⟨i, e', by simp [Instr.findNow, hs, h1], h2⟩
theorem zeroFV_rel (hD : DataOk P D) {t : Nat} {ty : Ty} (hty : look D.types t = some ty) {z : FV} (hz : zeroFV ty = some z) (E : Env) : ∃ u, (∀ w, (zeroValue t).run P w = .ok u w) ∧ FVRel E z u := by
  have hT := hD.types _ _ hty
  obtain ⟨d, i, v, _, hi, hv, _, _, _, hl, hag⟩ := tyOf_spec hT
  refine ⟨v, fun w => by simp [zeroValue, run_info hi, hv], ?_⟩
  have hr := leafs_all E hl
  unfold zeroFV at hz
  cases ha : isAggD ty.desc with
  | true =>
    rw [ha] at hz hag
    simp only [cond_true, Option.some.injEq] at hz
    subst hz
    cases v <;> simp [isAggV] at hag
    rename_i cs
    exact ⟨cs.toList, by simp, by simpa [Value.cells] using hr⟩
  | false =>
    rw [ha] at hz hag
    simp only [cond_false] at hz
    split at hz
    · rename_i x hx
      cases hz
      rw [hx] at hr
      have hc : v.cells = #[v] := cells_of_notAgg fun cs e => by subst e; simp [isAggV] at hag
      rw [hc] at hr
      cases hr with
      | cons h _ => exact h
    · cases hz
theorem keyTD_spec {d : TD} (h : keyTD d = true) : d = .str ∨ ∃ q, d = .int q := by
  cases d <;> simp [keyTD] at h
  · exact .inr ⟨_, rfl⟩
  · exact .inl rfl
theorem snd_lookup (hD : DataOk P D) {o : Oper} {t : Nat} {x i : Operand} {ok : Bool} (ho : o.op = .lookup t x i ok) : OpSound P D call o := by
  intro R slot tm m k r h
  rw [ho] at h
  simp only [opC] at h
  obtain ⟨xv, hx, h1⟩ := ev_inv h
  clear h
  obtain ⟨iv, hi, h⟩ := ev_inv h1
  clear h1
  unfold lookupC at h
  split at h
  · rename_i id key kt et _ _ _ hty
    split at h
    · rename_i es kty ety hes hkt het
      split at h
      · cases h
      · rename_i z hz
        obtain ⟨hc, h'⟩ := bif_inv h
        clear h
        simp only [Bool.and_eq_true] at hc
        have hid := blt_iff.1 hc.1
        obtain ⟨d, _, zv, hd, _, _, hde, _⟩ := tyOf_spec (hD.types _ _ hty)
        obtain rfl := red_map hde.symm
        obtain ⟨kd, _, _, hkd, _, _, hkde, _⟩ := tyOf_spec (hD.types _ _ hkt)
        have hk := keyTD_spec hc.2
        rw [hkde] at h' hk
        rw [findC_eq] at h'
        cases hs : srch (redD kd) key es with
        | none => rw [hs] at h'; cases h'
        | some res =>
          rw [hs] at h'
          have hfin : ∃ (v : FV) (b : Bool), k (bif ok then .tup [v, .one (.bool b)] else .fv v) m (.r [(id, 0, 1)]) = some r ∧ (res = none ∧ v = z ∧ b = false ∨ res = some v ∧ b = true) := by
            cases res with
            | none => exact ⟨z, false, h', .inl ⟨rfl, rfl, rfl⟩⟩
            | some v => exact ⟨v, true, h', .inr ⟨rfl, rfl⟩⟩
          obtain ⟨v, b', hk', hres⟩ := hfin
          refine ⟨_, m, _, hk', Nat.le_refl _, fun E a hG ht _ => ?_⟩
          obtain ⟨b, base, hp, he⟩ := evO_rel hG ht hx
          have hkv : LfRel E key (a.eval i) := evO_rel hG ht hi
          obtain ⟨u0, hu0, hur0⟩ := zeroFV_rel hD het hz E
          have hb := hG.mem.blk id hid
          unfold BlkRel at hb
          rw [hp] at hb
          obtain ⟨_, _, hb⟩ := hb
          simp only [hes] at hb
          obtain ⟨_, en, cl, hh, ha⟩ := hb
          have hget : (getObj b).run P E.w = .ok (.map en cl) E.w := by simp [getObj, Sem.run, hh]
          have hsnd := srch_sound hkv (j := 0) hs ha
          have run : ∃ u, FVRel E v u ∧ (Instr.lookup t (a.eval x) (a.eval i) ok).run P E.w = .ok (if ok then .tuple #[u, .bool b'] else u) E.w := by
            rcases hres with ⟨rfl, rfl, rfl⟩ | ⟨rfl, rfl⟩
            · refine ⟨u0, hur0, ?_⟩
              simp only [Instr.lookup, Sem.run_bind, run_under hd, Result.andThen, he, hget, Sem.run_pure, run_checkKey hkd hk, Instr.findKey, run_under hkd, hsnd, hu0]
            · obtain ⟨j, e, h2, h3⟩ := hsnd
              refine ⟨e, h3, ?_⟩
              simp only [Instr.lookup, Sem.run_bind, run_under hd, Result.andThen, he, hget, Sem.run_pure, run_checkKey hkd hk, Instr.findKey, run_under hkd, h2]
          obtain ⟨u, hur, hrun⟩ := run
          refine res_val hG.mem (u := if ok then .tuple #[u, .bool b'] else u) ?_ (by simp only [execOp, ho, Sem.run_bind, hrun, Result.andThen, Sem.run_pure])
          cases ok with
          | true => exact ⟨[u, .bool b'], rfl, .cons hur (.cons rfl .nil)⟩
          | false => exact hur
    · cases h
  · cases h
theorem snd_insert (hD : DataOk P D) {o : Oper} {t : Nat} {x i y : Operand} (ho : o.op = .insert t x i y) : OpSound P D call o := by
  intro R slot tm m k r h
  rw [ho] at h
  simp only [opC] at h
  obtain ⟨xv, hx, h1⟩ := ev_inv h
  clear h
  obtain ⟨iv, hi, h2⟩ := ev_inv h1
  clear h1
  obtain ⟨yv, hy, h⟩ := ev_inv h2
  clear h2
  unfold insertC at h
  split at h
  · rename_i id key kt et _ _ _ v hty hv
    split at h
    · rename_i es kty hes hkt
      obtain ⟨hc, h'⟩ := bif_inv h
      clear h
      simp only [Bool.and_eq_true] at hc
      have hid := blt_iff.1 hc.1.1
      obtain ⟨d, _, zv, hd, _, _, hde, _⟩ := tyOf_spec (hD.types _ _ hty)
      obtain rfl := red_map hde.symm
      obtain ⟨kd, _, _, hkd, _, _, hkde, _⟩ := tyOf_spec (hD.types _ _ hkt)
      have hk := keyTD_spec hc.2
      rw [hkde] at h' hk
      rw [findC_eq] at h'
      cases hs : srch (redD kd) key es with
      | none => rw [hs] at h'; cases h'
      | some res =>
        rw [hs] at h'
        cases res with
        | some v => cases h'
        | none =>
          refine ⟨_, _, _, h', Nat.le_refl _, fun E a hG ht _ => ?_⟩
          obtain ⟨b, base, hp, he⟩ := evO_rel hG ht hx
          have hkv : LfRel E key (a.eval i) := evO_rel hG ht hi
          have hyv := flat_rel (evO_rel hG ht hy) hv
          have hb := hG.mem.blk id hid
          unfold BlkRel at hb
          rw [hp] at hb
          obtain ⟨_, _, hb⟩ := hb
          simp only [hes] at hb
          obtain ⟨_, en, cl, hh, ha⟩ := hb
          have hget : (getObj b).run P E.w = .ok (.map en cl) E.w := by simp [getObj, Sem.run, hh]
          have hsnd := srch_sound hkv (j := 0) hs ha
          obtain ⟨hext, hmem⟩ := insert_rel hG.mem hid hp hc.1.2 hes hkv hyv hh
          refine .inr (.inl ⟨_, ?_, hext, fun _ _ _ h => h, fun _ _ => rfl, hmem, AVRel.undef _⟩)
          simp only [execOp, ho, Instr.mapUpdate, Sem.run_bind, run_under hd, Result.andThen, he, hget, run_checkKey hkd hk, Instr.findKey, run_under hkd, hsnd, Sem.run_pure]
          simp [setObj, Sem.run, hh]
    · cases h
  · cases h
end
end Go.Ev
end
