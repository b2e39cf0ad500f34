/- Part 5 of 46 of what the theorem stands on. -/
import Derived.Test.YtkbfmpomeejadaaGreatDoorRemad

section
namespace Go.Ev
open Go.RowKit
section
variable {P : Program} {D : Data} {call : CallK}
theorem foldl_set (off : Nat) : ∀ (l : List Value) (k : Nat) (cs : Array Value), off + k + l.length ≤ cs.size →
    ((l.zipIdx k).foldl (fun (cs : Array Value) (p : Value × Nat) => cs.setIfInBounds (off + p.2) p.1) cs).toList = cs.toList.take (off + k) ++ l ++ cs.toList.drop (off + k + l.length)
  | [], k, cs, _ => by simp
  | v :: l, k, cs, h => by
    simp only [List.length_cons] at h
    rw [List.zipIdx_cons, List.foldl_cons, foldl_set off l (k + 1) _ (by simp; omega)]
    simp only [Array.toList_setIfInBounds]
    have hk : off + k < cs.toList.length := by simp; omega
    have e1 : (cs.toList.set (off + k) v).take (off + (k + 1)) = cs.toList.take (off + k) ++ [v] := by
      apply List.ext_getElem?
      intro i
      rw [List.getElem?_take, List.getElem?_set, List.getElem?_append]
      simp only [List.length_take]
      rw [Nat.min_eq_left (by omega)]
      by_cases h1 : i < off + k
      · rw [if_pos (by omega), if_neg (by omega), if_pos h1, List.getElem?_take, if_pos h1]
      · by_cases h2 : i = off + k
        · subst h2; simp at hk; simp [hk]
        · rw [if_neg (by omega), if_neg h1, List.getElem?_eq_none (by simp; omega)]
    have e2 : (cs.toList.set (off + k) v).drop (off + (k + 1) + l.length) = cs.toList.drop (off + k + (l.length + 1)) := by
      apply List.ext_getElem?
      intro i
      rw [List.getElem?_drop, List.getElem?_drop, List.getElem?_set_ne (by omega)]
      congr 1; omega
    rw [e1, e2]; simp
theorem fill_sound {E : Env} {place : Nat → Option (Nat × Nat)} : ∀ {ps : List (Nat × List Lf)} {vs : List (Nat × Value)} {cells : List Lf} {l : List Lf} {cs : Array Value},
    All2 (fun (p : Nat × List Lf) (q : Nat × Value) => p.1 = q.1 ∧ All2 (LfRel E) p.2 q.2.cells.toList) ps vs → All2 (LfRel E) cells cs.toList → fillL place cells ps = some l →
    ∃ ds : Array Value, Instr.fill place cs vs = some ds ∧ All2 (LfRel E) l ds.toList
  | [], vs, cells, l, cs, hp, hc, h => by
    cases hp
    simp only [fillL, Option.some.injEq] at h
    subst h
    exact ⟨cs, rfl, hc⟩
  | (i, v) :: ps, vs, cells, l, cs, hp, hc, h => by
    cases hp with
    | cons hp ht =>
      rename_i q qs
      obtain ⟨j, u⟩ := q
      obtain ⟨rfl, hu⟩ := hp
      simp only [fillL] at h
      split at h
      · cases h
      · rename_i off size hpl
        obtain ⟨hb, h⟩ := bif_inv h
        simp only [Bool.and_eq_true] at hb
        have b1 := Nat.eq_of_beq_eq_true hb.1
        have b2 := ble_iff.1 hb.2
        have hlen := hu.length
        have hclen := hc.length
        simp only [Array.length_toList] at hlen hclen
        have hfold := foldl_set off u.cells.toList 0 cs (by simp; omega)
        simp only [Nat.add_zero] at hfold
        have hnew : All2 (LfRel E) (cells.take off ++ v ++ cells.drop (off + v.length)) (u.cells.zipIdx.foldl (fun (cs : Array Value) (p : Value × Nat) => cs.setIfInBounds (off + p.2) p.1) cs).toList := by
          have : (u.cells.zipIdx.foldl (fun (cs : Array Value) (p : Value × Nat) => cs.setIfInBounds (off + p.2) p.1) cs) =
              ((u.cells.toList.zipIdx 0).foldl (fun (cs : Array Value) (p : Value × Nat) => cs.setIfInBounds (off + p.2) p.1) cs) := by
            rw [← Array.foldl_toList, Array.toList_zipIdx]
          rw [this, hfold]
          have : u.cells.toList.length = v.length := by simp; omega
          rw [this]
          exact ((hc.take off).append hu).append (hc.drop _)
        obtain ⟨ds, h1, h2⟩ := fill_sound ht hnew h
        refine ⟨ds, ?_, h2⟩
        simp only [Instr.fill, hpl]
        rw [if_neg (by simp only [ne_eq, Bool.or_eq_true, decide_eq_true_eq]; omega)]
        exact h1
theorem partsL_rel {E : Env} {m : Mem} (hG : Good D E m) {tm : Tm} {a : Act} (ht : ∀ t, AVRel E (tm t) (a.tmps.getD t undef)) : ∀ {l : List (Nat × Operand)} {ps : List (Nat × List Lf)}, partsL D tm l = some ps →
    All2 (fun (p : Nat × List Lf) (q : Nat × Value) => p.1 = q.1 ∧ All2 (LfRel E) p.2 q.2.cells.toList) ps (l.map fun p => (p.1, a.eval p.2))
  | [], ps, h => by simp [partsL] at h; subst h; exact .nil
  | (i, x) :: l, ps, h => by
    simp only [partsL] at h
    split at h
    · cases h
    · rename_i v hv
      split at h
      · cases h
      · rename_i y hy
        split at h
        · cases h
        · rename_i qs hq
          cases h
          exact .cons ⟨rfl, (flat_rel (evO_rel hG ht hv) hy).cells⟩ (partsL_rel hG ht hq)
theorem mapM_places (hD : DataOk P D) (w : World) : ∀ (fs : List Field), (∀ f ∈ fs, ∃ ty, look D.types f.type = some ty) →
    (fs.mapM (m := Sem) fun f => do pure (f.offset, ← sizeOf f.type)).run P w = .ok (fs.map fun f => (f.offset, ((look D.types f.type).map (·.size)).getD 0)) w
  | [], _ => rfl
  | f :: fs, h => by
    obtain ⟨ty, hty⟩ := h f (by simp)
    have ih := mapM_places hD w fs fun g hg => h g (by simp [hg])
    simp only [List.mapM_cons, Sem.run_bind, run_size (hD.types _ _ hty), Result.andThen, Sem.run_pure, List.map_cons, hty, Option.map_some, Option.getD_some]
    rw [ih]
theorem mapM_placesA (hD : DataOk P D) (w : World) (fs : Array Field) (h : ∀ f ∈ fs.toList, ∃ ty, look D.types f.type = some ty) :
    (fs.mapM (m := Sem) fun f => do pure (f.offset, ← sizeOf f.type)).run P w = .ok (fs.toList.map fun f => (f.offset, ((look D.types f.type).map (·.size)).getD 0)).toArray w := by
  rw [Array.mapM_eq_mapM_toList]
  have := mapM_places hD w fs.toList h
  simp only [Sem.run_map, this, Result.andThen]
theorem allIn_spec : ∀ {fs : List (Nat × Nat)}, allIn D fs = true → ∀ p ∈ fs, ∃ ty, look D.types p.1 = some ty
  | [], _, p, hp => by cases hp
  | (t, o) :: fs, h, p, hp => by
    simp only [allIn] at h
    split at h
    · cases h
    · rename_i ty hty
      rcases List.mem_cons.1 hp with rfl | hp
      · exact ⟨ty, hty⟩
      · exact allIn_spec h p hp
theorem buildL_sound (hD : DataOk P D) {t : Nat} {E : Env} {ps : List (Nat × List Lf)} {vs : List (Nat × Value)} {l : List Lf} (hp : All2 (fun (p : Nat × List Lf) (q : Nat × Value) => p.1 = q.1 ∧ All2 (LfRel E) p.2 q.2.cells.toList) ps vs) (h : buildL D t ps = some l) :
    ∃ us : List Value, (∀ w, (Instr.build t vs.toArray).run P w = .ok (.agg us.toArray) w) ∧ All2 (LfRel E) l us := by
  unfold buildL at h
  split at h
  · rename_i fs size bytes z hty
    have hT := hD.types _ _ hty
    obtain ⟨d, i, zv, hd, _, _, hde, _⟩ := tyOf_spec hT
    obtain ⟨fa, rfl, hfs⟩ := red_struct hde.symm
    obtain ⟨zv, hz, hzl⟩ := run_zero hT
    obtain ⟨hal, h⟩ := bif_inv h
    have hall : ∀ f ∈ fa.toList, ∃ ty, look D.types f.type = some ty := fun f hfm =>
      allIn_spec hal (f.type, f.offset) (by rw [hfs]; exact List.mem_map.2 ⟨f, hfm, rfl⟩)
    have hpl : ∀ i, fieldPl D fs i = ((fa.toList.map fun f => (f.offset, ((look D.types f.type).map (·.size)).getD 0)).toArray)[i]? := by
      intro i
      unfold fieldPl
      rw [nthO_eq, hfs]
      simp only [List.getElem?_map, List.getElem?_toArray]
      cases hi : fa.toList[i]? with
      | none => simp
      | some f =>
        obtain ⟨ty, hty'⟩ := hall f (List.mem_of_getElem? hi)
        simp [hty']
    rw [show fieldPl D fs = fun i => ((fa.toList.map fun f => (f.offset, ((look D.types f.type).map (·.size)).getD 0)).toArray)[i]? from funext hpl] at h
    obtain ⟨ds, h1, h2⟩ := fill_sound hp (leafs_all E hzl) h
    refine ⟨ds.toList, fun w => ?_, h2⟩
    have hM := mapM_placesA hD w fa hall
    simp only [Instr.build, Sem.run_bind, hz, Result.andThen, run_under hd, hM, h1, Sem.run_pure, Array.toArray_toList]
  · rename_i e n size bytes z hty
    have hT := hD.types _ _ hty
    obtain ⟨d, i, zv, hd, _, _, hde, _⟩ := tyOf_spec hT
    obtain rfl := red_array hde.symm
    obtain ⟨zv, hz, hzl⟩ := run_zero hT
    split at h
    · rename_i te hte
      obtain ⟨ds, h1, h2⟩ := fill_sound hp (leafs_all E hzl) h
      refine ⟨ds.toList, fun w => ?_, h2⟩
      simp only [Instr.build, Sem.run_bind, hz, Result.andThen, run_under hd, run_size (hD.types _ _ hte), h1, Sem.run_pure, Array.toArray_toList]
    · cases h
  · cases h
theorem snd_build (hD : DataOk P D) {o : Oper} {t : Nat} {parts : Array (Nat × Operand)} (ho : o.op = .build t parts) : OpSound P D call o := by
  intro R slot tm m k r h
  rw [ho] at h
  simp only [opC] at h
  split at h
  · cases h
  · rename_i ps hps
    split at h
    · cases h
    · rename_i l hl
      refine ⟨_, m, _, h, Nat.le_refl _, fun E a hG ht _ => ?_⟩
      obtain ⟨us, hu, hr⟩ := buildL_sound hD (partsL_rel hG ht hps) hl
      refine res_val hG.mem (u := .agg us.toArray) ⟨us, rfl, hr⟩ ?_
      have := hu E.w
      have e : (parts.map fun (x : Nat × Operand) => (x.1, a.eval x.2)) = (parts.toList.map fun (x : Nat × Operand) => (x.1, a.eval x.2)).toArray := by
        apply Array.ext'; simp
      simp only [execOp, ho]
      rw [e]
      simp [this]
theorem repL_spec (E : Env) {z : List Lf} {zs : Array Value} (hz : All2 (LfRel E) z zs.toList) : ∀ n, All2 (LfRel E) (repL z n) ((Array.range (n * zs.size)).map (zs[· % zs.size]!)).toList
  | 0 => by simp [repL]; exact .nil
  | n + 1 => by
    have ih := repL_spec E hz n
    have e : ((Array.range ((n + 1) * zs.size)).map (zs[· % zs.size]!)).toList = zs.toList ++ ((Array.range (n * zs.size)).map (zs[· % zs.size]!)).toList := by
      apply List.ext_getElem?
      intro i
      simp only [Array.toList_map, Array.toList_range, List.getElem?_map]
      by_cases h : i < zs.size
      · rw [List.getElem?_append_left (by simpa using h), List.getElem?_range (by rw [Nat.add_mul]; omega)]
        simp [Nat.mod_eq_of_lt h, h]
      · rw [List.getElem?_append_right (by simpa using h)]
        simp only [Array.length_toList, List.getElem?_map]
        by_cases h2 : i < (n + 1) * zs.size
        · rw [List.getElem?_range h2, List.getElem?_range (by rw [Nat.add_mul] at h2; omega)]
          simp only [Option.map_some]
          congr 2
          have : i = (i - zs.size) + zs.size := by omega
          rw [this, Nat.add_mod_right]; simp
        · rw [List.getElem?_eq_none (by simpa using h2), List.getElem?_eq_none (by rw [Nat.add_mul] at h2; simp; omega)]
    rw [e]
    exact hz.append ih
theorem snd_buildSlice (hD : DataOk P D) {o : Oper} {t len : Nat} {parts : Array (Nat × Operand)} (ho : o.op = .buildSlice t len parts) : OpSound P D call o := by
  intro R slot tm m k r h
  rw [ho] at h
  simp only [opC] at h
  split at h
  · rename_i ps s size bytes zz hps hty
    split at h
    · cases h
    · rename_i ts hts
      obtain ⟨hc, h⟩ := bif_inv h
      simp only [Bool.and_eq_true, Bool.not_eq_true'] at hc
      obtain ⟨⟨c1, c2⟩, c3⟩ := hc
      have c1 := ble_iff.1 c1
      have c2 : len * ts.size ≠ 0 := fun e => by rw [e] at c2; simp at c2
      have c3 := Nat.eq_of_beq_eq_true c3
      split at h
      · cases h
      · rename_i l hl
        refine ⟨_, _, _, h, Nat.le_refl _, fun E a hG ht hS => ?_⟩
        have hal : isAl o.op = true := by rw [ho]; rfl
        have hp := hS.pi hal
        obtain ⟨d, i, zv, hd, _, _, hde, _⟩ := tyOf_spec (hD.types _ _ hty)
        obtain rfl := red_slice hde.symm
        have hTs := hD.types _ _ hts
        obtain ⟨zv, hz, hzl⟩ := run_zero hTs
        have hzz := leafs_all E hzl
        have hzlen : zv.cells.size = ts.size := by
          have := hzz.length
          simp at this; omega
        have hrep := repL_spec E hzz len
        rw [hzlen] at hrep
        obtain ⟨ds, h1, h2⟩ := fill_sound (partsL_rel hG ht hps) hrep hl
        have e : (parts.map fun (x : Nat × Operand) => (x.1, a.eval x.2)) = (parts.toList.map fun (x : Nat × Operand) => (x.1, a.eval x.2)).toArray := by
          apply Array.ext'; simp
        refine .inl ⟨E.push slot (.cells ds s), .slice (some ⟨E.w.heap.size, 0, none⟩) len len, ?_, push_ext _ hp, ?_, fun _ _ => rfl, ?_, ⟨_, 0, by simp [Env.push], rfl⟩⟩
        · simp only [execOp, ho]
          rw [e]
          simp only [Instr.buildSlice, Sem.run_bind, run_under hd, Result.andThen, run_size hTs, Sem.run_ite]
          rw [if_neg (by omega), if_neg c2]
          simp only [hz, Sem.run_pure]
          rw [hzlen, h1]
          simp only [Sem.run_bind, newRow, run_newObj, Result.andThen, Sem.run_pure, Env.push]
        · rw [hal]; exact push_none
        · have := push_cells (m' := m.set slot { own := true, sz := l.length, get := ofList l }) hG.mem (hS.low hal) hp ds.toList s rfl (by rw [set_blk]) (by rw [set_blk]) (by
            rw [set_blk]
            intro j hj
            obtain ⟨u, h1, h2⟩ := h2.get (ofList_get hj)
            exact ⟨u, h1, h2⟩) (fun _ h => set_other _ _ h)
          simpa using this
  · cases h
end
end Go.Ev
end

section
namespace Go.Ev
open Go.RowKit
section
variable {P : Program} {D : Data} {call : CallK}
theorem snd_makeFunc {o : Oper} {f : FuncId} {first caps : Array Operand} (ho : o.op = .makeFunc (.func f) first caps) : OpSound P D call o := by
  intro R slot tm m k r h
  rw [ho] at h
  simp only [opC] at h
  split at h
  · rename_i bs as hbs has
    split at h
    · rename_i us vs hus hvs
      refine ⟨_, m, _, h, Nat.le_refl _, fun E a hG ht _ => ?_⟩
      have hr := flats_rel (evOs_rel hG ht has) hvs
      have hr1 := flats_rel (evOs_rel hG ht hbs) hus
      refine res_val hG.mem (u := .func (.func f) (first.toList.map a.eval).toArray (caps.toList.map a.eval).toArray) ⟨_, _, rfl, hr1, hr⟩ ?_
      have e1 : first.map a.eval = (first.toList.map a.eval).toArray := by apply Array.ext'; simp
      have e2 : caps.map a.eval = (caps.toList.map a.eval).toArray := by apply Array.ext'; simp
      simp [execOp, ho, Instr.makeFunc, e1, e2]
    · cases h
  · cases h
theorem run_asInt (q : IntKind) (x : Int) (w : World) : (asInt (.int q x)).run P w = .ok x w := by simp [asInt, asIntOf]
theorem snd_makeSlice (hD : DataOk P D) {o : Oper} {t : Nat} {l c : Operand} (ho : o.op = .makeSlice t l c) : OpSound P D call o := by
  intro R slot tm m k r h
  rw [ho] at h
  simp only [opC] at h
  obtain ⟨lv, hl, h⟩ := ev_inv h
  obtain ⟨cv, hc, h⟩ := ev_inv h
  obtain ⟨ql, x, rfl, h1⟩ := asI_inv h
  clear h
  obtain ⟨qc, y, rfl, h2⟩ := asI_inv h1
  clear h1
  split at h2
  · rename_i s size bytes zz hty
    split at h2
    · cases h2
    · rename_i ts hts
      obtain ⟨hb, h⟩ := bif_inv h2
      simp only [Bool.and_eq_true, decide_eq_true_eq, Bool.not_eq_true'] at hb
      obtain ⟨⟨⟨⟨⟨⟨b1, b2⟩, b3⟩, b4⟩, b4'⟩, b5⟩, b6⟩ := hb
      have b5 := Nat.eq_of_beq_eq_true b5
      have b6 : ts.size ≠ 0 := fun e => by rw [e] at b6; simp at b6
      refine ⟨_, _, _, h, Nat.le_refl _, fun E a hG ht hS => ?_⟩
      have hal : isAl o.op = true := by rw [ho]; rfl
      have hp := hS.pi hal
      obtain ⟨d, i, zv, hd, _, _, hde, _⟩ := tyOf_spec (hD.types _ _ hty)
      obtain rfl := red_slice hde.symm
      have hTs := hD.types _ _ hts
      obtain ⟨zv, hz, hzl⟩ := run_zero hTs
      have hzz := leafs_all E hzl
      have hzlen : zv.cells.size = ts.size := by
        have := hzz.length
        simp at this; omega
      obtain ⟨_, i2, _, _, hi2, _, _, _, hby, _⟩ := tyOf_spec hTs
      have ex : a.eval l = .int ql x := evO_rel hG ht hl
      have ey : a.eval c = .int qc y := evO_rel hG ht hc
      have wx : IntKind.i64.wrap x = x := by rw [IntKind.wrap_i64]; omega
      have wy : IntKind.i64.wrap y = y := by rw [IntKind.wrap_i64]; omega
      refine .inl ⟨E.push slot (.cells ((Array.range (y.toNat * ts.size)).map (zv.cells[· % ts.size]!)) s), .slice (some ⟨E.w.heap.size, 0, none⟩) x.toNat y.toNat, ?_, push_ext _ hp, ?_, fun _ _ => rfl, ?_, ⟨_, 0, by simp [Env.push], rfl⟩⟩
      · simp only [execOp, ho, ex, ey, Instr.makeSlice, Sem.run_bind, run_under hd, Result.andThen, run_asInt, run_info hi2, wx, wy]
        have t1 : (decide (y < 0) || decide ((i2.bytes : Int) * y > 2 ^ 48)) = false := by
          rw [Bool.or_eq_false_iff]; rw [← hby]; constructor <;> simp <;> omega
        have t2 : (decide (x < 0)) = false := by simp; omega
        have t3 : (decide (x > y)) = false := by simp; omega
        simp only [t1, t2, t3, Bool.or_self, Bool.false_eq_true, if_false, Sem.run_bind, run_askRoom, Result.andThen, run_size hTs, Sem.run_pure]
        have hn : y.toNat * ts.size ≠ 0 := by
          have : 0 < y.toNat := by omega
          exact Nat.mul_ne_zero (by omega) b6
        · rw [if_neg hn]
          simp only [Sem.run_bind, hz, Result.andThen, Sem.run_pure, newRow, run_newObj, hzlen, Env.push]
      · rw [hal]; exact push_none
      · have := push_cells (m' := m.set slot { own := true, sz := y.toNat * ts.size, get := fun j => ofList ts.zero (j % ts.size) }) hG.mem (hS.low hal) hp
          ((Array.range (y.toNat * ts.size)).map (zv.cells[· % ts.size]!)).toList s rfl (by rw [set_blk]) (by rw [set_blk]) (by
          rw [set_blk]
          intro j hj
          have hj : j < y.toNat * ts.size := hj
          have hm : j % ts.size < ts.size := Nat.mod_lt _ (by omega)
          obtain ⟨u, h1, h2⟩ := hzz.get (ofList_get (l := ts.zero) (j := j % ts.size) (by omega))
          refine ⟨u, ?_, h2⟩
          simp only [Array.toList_map, Array.toList_range, List.getElem?_map, List.getElem?_range hj, Option.map_some, Option.some.injEq]
          have hlt : j % ts.size < zv.cells.size := by omega
          simp at h1
          rw [getElem!_pos zv.cells (j % ts.size) hlt]
          have := h1
          rw [Array.getElem?_eq_getElem hlt] at this
          exact Option.some.inj this) (fun _ h => set_other _ _ h)
        simpa only [Array.toArray_toList] using this
  · cases h2
theorem run_bound (q : IntKind) (x : Int) (y : Nat) (cd : BoundsCode) (w : World) (h0 : 0 ≤ x) (h1 : x ≤ (y : Int)) : (Instr.sliceBound (.int q x) y cd).run P w = .ok x.toNat w := by
  simp [Instr.sliceBound, asIntOf, h0, h1]
theorem boundC_inv {R : Type} {x : Option AV} {dflt y : Nat} {k : Nat → Option R} {r : R} (h : boundC x dflt y k = some r) :
    ∃ n, k n = some r ∧ (x = none ∧ n = dflt ∨ n ≤ y ∧ ∃ q z, x = some (.fv (.one (.int q z))) ∧ 0 ≤ z ∧ z ≤ (y : Int) ∧ n = z.toNat) := by
  unfold boundC at h
  split at h
  · exact ⟨_, h, .inl ⟨rfl, rfl⟩⟩
  · obtain ⟨q, z, rfl, h⟩ := asI_inv h
    obtain ⟨hc, h⟩ := bif_inv h
    simp only [Bool.and_eq_true, decide_eq_true_eq] at hc
    exact ⟨_, h, .inr ⟨by omega, q, z, rfl, hc.1, hc.2, rfl⟩⟩
theorem optO_rel {E : Env} {m : Mem} (hG : Good D E m) {tm : Tm} {a : Act} (ht : ∀ t, AVRel E (tm t) (a.tmps.getD t undef)) {x : Option Operand} {v : Option AV} (h : optO D tm x = some v) :
    (x = none ∧ v = none) ∨ ∃ y u, x = some y ∧ v = some u ∧ AVRel E u (a.eval y) := by
  cases x with
  | none => simp [optO] at h; exact .inl ⟨rfl, h.symm⟩
  | some y =>
    simp only [optO] at h
    split at h
    · cases h
    · rename_i u hu
      cases h
      exact .inr ⟨y, u, rfl, rfl, evO_rel hG ht hu⟩
/-- The bounds of a slice expression. -/
theorem bounds_sound {E : Env} {isS : Bool} {n c m0 h0 l0 : Nat} {lo hi mx : Option AV} {vlo vhi vmx : Option Value}
    (rl : (lo = none ∧ vlo = none) ∨ ∃ u v, lo = some u ∧ vlo = some v ∧ AVRel E u v) (rh : (hi = none ∧ vhi = none) ∨ ∃ u v, hi = some u ∧ vhi = some v ∧ AVRel E u v)
    (rm : (mx = none ∧ vmx = none) ∨ ∃ u v, mx = some u ∧ vmx = some v ∧ AVRel E u v)
    (em : mx = none ∧ m0 = c ∨ m0 ≤ c ∧ ∃ q z, mx = some (.fv (.one (.int q z))) ∧ 0 ≤ z ∧ z ≤ (c : Int) ∧ m0 = z.toNat)
    (eh : hi = none ∧ h0 = n ∨ h0 ≤ m0 ∧ ∃ q z, hi = some (.fv (.one (.int q z))) ∧ 0 ≤ z ∧ z ≤ (m0 : Int) ∧ h0 = z.toNat)
    (el : lo = none ∧ l0 = 0 ∨ l0 ≤ h0 ∧ ∃ q z, lo = some (.fv (.one (.int q z))) ∧ 0 ≤ z ∧ z ≤ (h0 : Int) ∧ l0 = z.toNat)
    (hbad : ¬ (mx.isSome = true ∧ hi = none)) (w : World) : (Instr.sliceBounds isS n c vlo vhi vmx).run P w = .ok (l0, h0, m0) w := by
  have RM : vmx = none ∧ m0 = c ∧ mx = none ∨ mx.isSome = true ∧ ∃ v, vmx = some v ∧ ∀ cd w, (Instr.sliceBound v c cd).run P w = .ok m0 w := by
    rcases rm with ⟨rfl, rfl⟩ | ⟨u, v, rfl, rfl, hr⟩
    · rcases em with ⟨_, e⟩ | ⟨_, q, z, e, _⟩
      · exact .inl ⟨rfl, e, rfl⟩
      · cases e
    · rcases em with ⟨e, _⟩ | ⟨_, q, z, e, a1, a2, a3⟩
      · cases e
      · cases e
        exact .inr ⟨rfl, v, rfl, fun cd w => by rw [show v = .int q z from hr, a3]; exact run_bound _ _ _ _ _ a1 a2⟩
  have RH : vhi = none ∧ h0 = n ∧ hi = none ∨ ∃ v, vhi = some v ∧ ∀ cd w, (Instr.sliceBound v m0 cd).run P w = .ok h0 w := by
    rcases rh with ⟨rfl, rfl⟩ | ⟨u, v, rfl, rfl, hr⟩
    · rcases eh with ⟨_, e⟩ | ⟨_, q, z, e, _⟩
      · exact .inl ⟨rfl, e, rfl⟩
      · cases e
    · rcases eh with ⟨e, _⟩ | ⟨_, q, z, e, a1, a2, a3⟩
      · cases e
      · cases e
        exact .inr ⟨v, rfl, fun cd w => by rw [show v = .int q z from hr, a3]; exact run_bound _ _ _ _ _ a1 a2⟩
  have RL : vlo = none ∧ l0 = 0 ∨ ∃ v, vlo = some v ∧ ∀ cd w, (Instr.sliceBound v h0 cd).run P w = .ok l0 w := by
    rcases rl with ⟨rfl, rfl⟩ | ⟨u, v, rfl, rfl, hr⟩
    · rcases el with ⟨_, e⟩ | ⟨_, q, z, e, _⟩
      · exact .inl ⟨rfl, e⟩
      · cases e
    · rcases el with ⟨e, _⟩ | ⟨_, q, z, e, a1, a2, a3⟩
      · cases e
      · cases e
        exact .inr ⟨v, rfl, fun cd w => by rw [show v = .int q z from hr, a3]; exact run_bound _ _ _ _ _ a1 a2⟩
  clear rl rh rm em eh el
  unfold Instr.sliceBounds
  rcases RM with ⟨rfl, rfl, rfl⟩ | ⟨hs, v1, rfl, b1⟩
  · rcases RH with ⟨rfl, rfl, rfl⟩ | ⟨v2, rfl, b2⟩
    · rcases RL with ⟨rfl, rfl⟩ | ⟨v3, rfl, b3⟩
      · simp only [Sem.run_bind, Sem.run_pure, Result.andThen]
      · simp only [Sem.run_bind, Sem.run_pure, Result.andThen, b3]
    · rcases RL with ⟨rfl, rfl⟩ | ⟨v3, rfl, b3⟩
      · simp only [Sem.run_bind, Sem.run_pure, Result.andThen, b2]
      · simp only [Sem.run_bind, Sem.run_pure, Result.andThen, b2, b3]
  · rcases RH with ⟨rfl, rfl, rfl⟩ | ⟨v2, rfl, b2⟩
    · exact absurd ⟨hs, rfl⟩ hbad
    · rcases RL with ⟨rfl, rfl⟩ | ⟨v3, rfl, b3⟩
      · simp only [Sem.run_bind, Sem.run_pure, Result.andThen, b1, b2]
      · simp only [Sem.run_bind, Sem.run_pure, Result.andThen, b1, b2, b3]
theorem opt_map {E : Env} {m : Mem} (hG : Good D E m) {tm : Tm} {a : Act} (ht : ∀ t, AVRel E (tm t) (a.tmps.getD t undef)) {x : Option Operand} {v : Option AV} (h : optO D tm x = some v) :
    (v = none ∧ x.map a.eval = none) ∨ ∃ u w, v = some u ∧ x.map a.eval = some w ∧ AVRel E u w := by
  rcases optO_rel hG ht h with ⟨rfl, rfl⟩ | ⟨y, u, rfl, rfl, hr⟩
  · exact .inl ⟨rfl, rfl⟩
  · exact .inr ⟨u, _, rfl, rfl, hr⟩
theorem snd_slice (hD : DataOk P D) {o : Oper} {t : Nat} {x : Operand} {lo hi mx : Option Operand} (ho : o.op = .slice t x lo hi mx) : OpSound P D call o := by
  intro R slot tm m k r h
  rw [ho] at h
  simp only [opC] at h
  obtain ⟨xv, hx, h⟩ := ev_inv h
  split at h
  · rename_i lov hiv mxv hlo hhi hmx
    unfold sliceC at h
    split at h
    · rename_i id off n c e size bytes z hty
      split at h
      · cases h
      · rename_i te hte
        obtain ⟨d, i, zv, hd, _, _, hde, _⟩ := tyOf_spec (hD.types _ _ hty)
        obtain rfl := red_slice hde.symm
        obtain ⟨hbad, h⟩ := bif_inv h
        have hbad : ¬ (mxv.isSome = true ∧ hiv = none) := by
          rintro ⟨e1, rfl⟩
          rw [e1] at hbad; simp at hbad
        obtain ⟨m0, h, em⟩ := boundC_inv h
        obtain ⟨h0, h, eh⟩ := boundC_inv h
        obtain ⟨l0, h, el⟩ := boundC_inv h
        obtain ⟨hne, h⟩ := bif_inv h
        have hne : ¬ m0 = l0 := fun e => by rw [e] at hne; simp at hne
        refine ⟨_, m, _, h, Nat.le_refl _, fun E a hG ht _ => ?_⟩
        obtain ⟨b, base, hp, he⟩ := evO_rel hG ht hx
        refine res_val hG.mem (u := .slice (some ⟨b, base + (off + l0 * te.size), none⟩) (h0 - l0) (m0 - l0)) ⟨b, base, hp, rfl⟩ ?_
        have hB := bounds_sound (P := P) (isS := true) (opt_map hG ht hlo) (opt_map hG ht hhi) (opt_map hG ht hmx) em eh el hbad E.w
        simp only [execOp, ho, he, Instr.sliceAt, Instr.slice, Sem.run_bind, run_under hd, Result.andThen, hB, run_size (hD.types _ _ hte), Sem.run_pure]
        rw [if_neg hne]
        simp [addr_add, Nat.add_assoc]
    · rename_i id off n e size bytes z hty
      split at h
      · cases h
      · rename_i te hte
        obtain ⟨d, i, zv, hd, _, _, hde, _⟩ := tyOf_spec (hD.types _ _ hty)
        obtain rfl := red_array hde.symm
        obtain ⟨hbad, h⟩ := bif_inv h
        have hbad : ¬ (mxv.isSome = true ∧ hiv = none) := by
          rintro ⟨e1, rfl⟩
          rw [e1] at hbad; simp at hbad
        obtain ⟨m0, h, em⟩ := boundC_inv h
        obtain ⟨h0, h, eh⟩ := boundC_inv h
        obtain ⟨l0, h, el⟩ := boundC_inv h
        obtain ⟨hne, h⟩ := bif_inv h
        have hne : ¬ m0 = l0 := fun e => by rw [e] at hne; simp at hne
        refine ⟨_, m, _, h, Nat.le_refl _, fun E a hG ht _ => ?_⟩
        obtain ⟨b, base, hp, he⟩ := evO_rel hG ht hx
        refine res_val hG.mem (u := .slice (some ⟨b, base + (off + l0 * te.size), none⟩) (h0 - l0) (m0 - l0)) ⟨b, base, hp, rfl⟩ ?_
        have hB := bounds_sound (P := P) (isS := false) (opt_map hG ht hlo) (opt_map hG ht hhi) (opt_map hG ht hmx) em eh el hbad E.w
        simp only [execOp, ho, he, Instr.sliceAt, Instr.sureAddr, Sem.run_bind, run_under hd, Result.andThen, hB, run_size (hD.types _ _ hte), Sem.run_pure]
        rw [if_neg hne]
        simp [addr_add, Nat.add_assoc]
    · cases h
  · cases h
end
end Go.Ev
end
