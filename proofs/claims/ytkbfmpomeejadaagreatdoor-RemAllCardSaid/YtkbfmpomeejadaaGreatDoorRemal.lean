/- Part 12 of 46 of what the theorem stands on. -/
import Derived.Test.YtkbfmpomeejadaaGreatDoorRemak

section
namespace Go.Ev
open Go.RowKit
section
variable {D : Data} {call : CallK} {R : Type}
/-- One step, looked at straight. -/
def stepV (D : Data) (call : CallK) (all : List Oper) (o : Oper) (slot : Nat) (tm : Tm) (m : Mem) : Option (AV × Mem × Lab) :=
  match o.guard with
  | none => opC D call o.op slot tm m trip
  | some (j, want) => match guardT all j with
    | none => none
    | some t => match tm t with
      | .fv (.one (.bool b)) => bif b == want then opC D call o.op slot tm m trip else some (undefA, m, .p)
      | .fv (.one (.cst (.tuple _))) => some (undefA, m, .p)
      | _ => none
theorem stepC_eq (hC : CallNat call) {nt : Nat} {all : List Oper} {o : Oper} {slot : Nat} {tm : Tm} {m : Mem} {k : Tm → Mem → Lab → Option R} :
    stepC D call nt all o slot tm m k = (stepV D call all o slot tm m).bind fun x => bif dstOk nt o.dst then k (putT o.dst x.1 tm) x.2.1 x.2.2 else none := by
  have hgo : (opC D call o.op slot tm m fun v m' l => bif dstOk nt o.dst then k (putT o.dst v tm) m' l else none) =
      (opC D call o.op slot tm m trip).bind fun x => bif dstOk nt o.dst then k (putT o.dst x.1 tm) x.2.1 x.2.2 else none := opC_nat hC _ _ _ _ _
  unfold stepC stepV
  cases o.guard with
  | none => exact hgo
  | some gw =>
    obtain ⟨j, want⟩ := gw
    dsimp only
    cases hgt : guardT all j with
    | none => rfl
    | some t =>
      dsimp only
      generalize hv : tm t = v
      split
      · rename_i b
        cases want <;> cases b <;> simp only [putT_same hv, cond_true, cond_false] <;> first | exact hgo | rfl
      · rfl
      · rename_i h1 h2
        split
        · exact absurd rfl (h1 _)
        · exact absurd rfl (h2 _)
        · rfl
theorem stepV_tm {all : List Oper} {o : Oper} {slot : Nat} {tm tm2 : Tm} {m : Mem} (h : ∀ t ∈ readsOf all o, tm t = tm2 t) : stepV D call all o slot tm m = stepV D call all o slot tm2 m := by
  unfold stepV
  unfold readsOf at h
  cases hg : o.guard with
  | none =>
    rw [hg] at h
    exact opC_tm h
  | some gw =>
    obtain ⟨j, want⟩ := gw
    rw [hg] at h
    dsimp only at h ⊢
    cases hgt : guardT all j with
    | none => rfl
    | some t =>
      rw [hgt] at h
      dsimp only at h ⊢
      rw [h t (by simp), opC_tm (tm2 := tm2) fun s hs => h s (by simp [hs])]
theorem stepV_local (hC : CallHonest call) {all : List Oper} {o : Oper} {slot : Nat} {tm : Tm} {m m' : Mem} {v : AV} {l : Lab} (h : stepV D call all o slot tm m = some (v, m', l)) :
    Local (fun m2 => stepV D call all o slot tm m2) slot m m' v l := by
  have hsk : some (undefA, m, Lab.p) = some (v, m', l) → Local (fun m2 => some (undefA, m2, Lab.p)) slot m m' v l := by
    intro h
    simp only [Option.some.injEq, Prod.mk.injEq] at h
    obtain ⟨rfl, rfl, rfl⟩ := h
    exact ⟨rfl, fun _ => rfl⟩
  unfold stepV at h ⊢
  cases hg : o.guard with
  | none =>
    rw [hg] at h
    exact op_local hC h
  | some gw =>
    obtain ⟨j, want⟩ := gw
    rw [hg] at h
    dsimp only at h ⊢
    cases hgt : guardT all j with
    | none => rw [hgt] at h; cases h
    | some t =>
      rw [hgt] at h
      dsimp only at h ⊢
      split at h
      · rename_i b hb
        cases hbw : (b == want) with
        | true =>
          rw [hbw] at h
          exact op_local hC h
        | false =>
          rw [hbw] at h
          exact hsk h
      · exact hsk h
      · cases h
theorem apart_ne {a b : Loc} (h : Loc.apart a b = true) : a.1 ≠ b.1 ∨ a.2.1 + a.2.2 ≤ b.2.1 ∨ b.2.1 + b.2.2 ≤ a.2.1 := by
  unfold Loc.apart at h
  simp only [Bool.or_eq_true, Bool.not_eq_true'] at h
  rcases h with (h | h) | h
  · exact .inl fun e => by rw [e] at h; simp at h
  · exact .inr (.inl (ble_iff.1 h))
  · exact .inr (.inr (ble_iff.1 h))
theorem apart_of {a b : Loc} (h : a.1 ≠ b.1 ∨ a.2.1 + a.2.2 ≤ b.2.1 ∨ b.2.1 + b.2.2 ≤ a.2.1) : Loc.apart a b = true := by
  unfold Loc.apart
  simp only [Bool.or_eq_true, Bool.not_eq_true']
  rcases h with h | h | h
  · exact .inl (.inl (Bool.eq_false_iff.2 fun e => h (Nat.eq_of_beq_eq_true e)))
  · exact .inl (.inr (ble_iff.2 h))
  · exact .inr (ble_iff.2 h)
theorem apartL_mem {a : Loc} : ∀ {l : List Loc}, apartL a l = true → ∀ b ∈ l, Loc.apart a b = true
  | [], _, b, hb => by simp at hb
  | c :: l, h, b, hb => by
    simp only [apartL, Bool.and_eq_true] at h
    rcases List.mem_cons.1 hb with rfl | hb
    · exact h.1
    · exact apartL_mem h.2 b hb
theorem apartL_of {a : Loc} : ∀ {l : List Loc}, (∀ b ∈ l, Loc.apart a b = true) → apartL a l = true
  | [], _ => rfl
  | c :: l, h => by
    simp only [apartL, Bool.and_eq_true]
    exact ⟨h c (by simp), apartL_of fun b hb => h b (by simp [hb])⟩
theorem apartLs_mem : ∀ {l r : List Loc}, apartLs l r = true → ∀ a ∈ l, ∀ b ∈ r, Loc.apart a b = true
  | [], _, _, a, ha => by simp at ha
  | c :: l, r, h, a, ha => by
    simp only [apartLs, Bool.and_eq_true] at h
    rcases List.mem_cons.1 ha with rfl | ha
    · exact apartL_mem h.1
    · exact apartLs_mem h.2 a ha
theorem lowIds_mem {n : Nat} : ∀ {l : List Loc}, lowIds n l = true → ∀ a ∈ l, a.1 < n
  | [], _, a, ha => by simp at ha
  | c :: l, h, a, ha => by
    simp only [lowIds, Bool.and_eq_true] at h
    rcases List.mem_cons.1 ha with rfl | ha
    · exact blt_iff.1 h.1
    · exact lowIds_mem h.2 a ha
theorem offId_mem {i : Nat} : ∀ {l : List Loc}, offId i l = true → ∀ a ∈ l, a.1 ≠ i
  | [], _, a, ha => by simp at ha
  | c :: l, h, a, ha => by
    simp only [offId, Bool.and_eq_true, Bool.not_eq_true'] at h
    rcases List.mem_cons.1 ha with rfl | ha
    · intro e; rw [e] at h; simp at h
    · exact offId_mem h.2 a ha
theorem put_blk_eq {m : Mem} {id off : Nat} {l : List Lf} : (m.put id off l).blk id = { m.blk id with get := fun j => bif Nat.ble off j && Nat.blt j (off + l.length) then ofList l (j - off) else (m.blk id).get j } := by
  simp [Mem.put, Mem.set]
theorem AgreeAt.put {m : Mem} {id off : Nat} {cells : List Lf} {l : Loc} (h : Loc.apart (id, off, cells.length) l = true) :
    AgreeAt m (m.put id off cells) l ∧ AgreeAt (m.put id off cells) m l := by
  have h := apart_ne h
  by_cases e : l.1 = id
  · have hg : ∀ j, l.2.1 ≤ j → j < l.2.1 + l.2.2 → ((m.put id off cells).blk l.1).get j = (m.blk l.1).get j := by
      intro j h1 h2
      rw [e, put_blk_eq]
      have : (Nat.ble off j && Nat.blt j (off + cells.length)) = false := by
        rw [Bool.eq_false_iff]
        intro hh
        simp only [Bool.and_eq_true] at hh
        have := ble_iff.1 hh.1
        have := blt_iff.1 hh.2
        simp only at h
        omega
      simp [this]
    refine ⟨⟨fun h => h, ?_, ?_, ?_, hg⟩, ⟨fun h => h, ?_, ?_, ?_, fun j h1 h2 => (hg j h1 h2).symm⟩⟩ <;> rw [e, put_blk_eq] <;> simp
  · rw [show AgreeAt m (m.put id off cells) l = AgreeAt m (m.put id off cells) l from rfl]
    refine ⟨⟨fun h => h, ?_, ?_, ?_, ?_⟩, ⟨fun h => h, ?_, ?_, ?_, ?_⟩⟩ <;> rw [put_blk_ne e] <;> simp
theorem AgreeAt.set {m : Mem} {id : Nat} {b : Blk} {l : Loc} (e : l.1 ≠ id) : AgreeAt m (m.set id b) l ∧ AgreeAt (m.set id b) m l := by
  refine ⟨⟨fun h => h, ?_, ?_, ?_, ?_⟩, ⟨fun h => h, ?_, ?_, ?_, ?_⟩⟩ <;> rw [set_blk_ne e] <;> simp
theorem AgreeAt.honest {m m' : Mem} {ws : List Loc} (h : Honest m m' ws) {l : Loc} (hl : l.1 < m.len) (ha : ∀ b ∈ ws, Loc.apart l b = true) : AgreeAt m m' l ∧ AgreeAt m' m l := by
  have hsub : ∀ j, l.2.1 ≤ j → j < l.2.1 + l.2.2 → apartL (l.1, j, 1) ws = true := by
    intro j h1 h2
    refine apartL_of fun b hb => apart_of ?_
    have := apart_ne (ha b hb)
    simp only
    omega
  have hes : l.2.1 = 0 → 0 < l.2.2 → (m'.blk l.1).es = (m.blk l.1).es := fun h1 h2 => h.es l.1 hl (hsub 0 (by omega) (by omega))
  have hget : ∀ j, l.2.1 ≤ j → j < l.2.1 + l.2.2 → (m'.blk l.1).get j = (m.blk l.1).get j := fun j h1 h2 => h.get l.1 j hl (hsub j h1 h2)
  exact ⟨⟨fun _ => Nat.lt_of_lt_of_le hl h.len, h.sz _ hl, (h.non _ hl).2, hes, hget⟩,
    ⟨fun _ => hl, (h.sz _ hl).symm, (h.non _ hl).1, fun h1 h2 => (hes h1 h2).symm, fun j h1 h2 => (hget j h1 h2).symm⟩⟩
theorem Shape.put {m : Mem} {id off : Nat} {cells : List Lf} (i : Nat) : Shape m (m.put id off cells) i ∧ Shape (m.put id off cells) m i := by
  by_cases e : i = id
  · subst e
    refine ⟨⟨fun h => h, ?_, ?_, ?_⟩, ⟨fun h => h, ?_, ?_, ?_⟩⟩ <;> rw [put_blk_eq] <;> simp
  · refine ⟨⟨fun h => h, ?_, ?_, ?_⟩, ⟨fun h => h, ?_, ?_, ?_⟩⟩ <;> rw [put_blk_ne e] <;> simp
theorem Shape.set {m : Mem} {id : Nat} {b : Blk} {i : Nat} (e : i ≠ id) : Shape m (m.set id b) i ∧ Shape (m.set id b) m i := by
  refine ⟨⟨fun h => h, ?_, ?_, ?_⟩, ⟨fun h => h, ?_, ?_, ?_⟩⟩ <;> rw [set_blk_ne e] <;> simp
theorem set_comm {m : Mem} {i j : Nat} {b c : Blk} (h : i ≠ j) : (m.set i b).set j c = (m.set j c).set i b := by
  simp only [Mem.set, Mem.mk.injEq, true_and]
  funext k
  cases h1 : Nat.beq k i <;> cases h2 : Nat.beq k j <;> try rfl
  exact absurd ((Nat.eq_of_beq_eq_true h1).symm.trans (Nat.eq_of_beq_eq_true h2)) h
theorem put_set {m : Mem} {i id off : Nat} {b : Blk} {l : List Lf} (h : id ≠ i) : (m.set i b).put id off l = (m.put id off l).set i b := by
  unfold Mem.put
  rw [set_blk_ne h, set_comm (Ne.symm h)]
theorem put_put {m : Mem} {id off id2 off2 : Nat} {l r : List Lf} (h : Loc.apart (id, off, l.length) (id2, off2, r.length) = true) :
    (m.put id off l).put id2 off2 r = (m.put id2 off2 r).put id off l := by
  by_cases e : id = id2
  · subst e
    have h := apart_ne h
    simp only [ne_eq, not_true_eq_false, false_or] at h
    show (m.put id off l).set id _ = (m.put id off2 r).set id _
    simp only [put_blk_eq, Mem.put, Mem.set, Mem.mk.injEq, true_and]
    funext k
    cases hk : Nat.beq k id with
    | false => simp
    | true =>
      simp only [cond_true, Blk.mk.injEq, true_and, and_true]
      refine ⟨by simp, by simp, ?_, by simp⟩
      simp only [Nat.beq_refl, cond_true]
      funext j
      cases h1 : (Nat.ble off j && Nat.blt j (off + l.length)) <;> cases h2 : (Nat.ble off2 j && Nat.blt j (off2 + r.length)) <;> simp only [cond_true, cond_false]
      simp only [Bool.and_eq_true] at h1 h2
      have := ble_iff.1 h1.1
      have := blt_iff.1 h1.2
      have := ble_iff.1 h2.1
      have := blt_iff.1 h2.2
      omega
  · show ((m.put id off l).set id2 _) = ((m.put id2 off2 r).set id _)
    rw [put_blk_ne (Ne.symm e), put_blk_ne e]
    exact set_comm e
theorem apart_symm {a b : Loc} (h : Loc.apart a b = true) : Loc.apart b a = true := by
  have := apart_ne h
  exact apart_of (by omega)
/-- Two steps in the other order. -/
theorem swap_mem {f g : Dir} {s t : Nat} {m ma mb : Mem} {va vb : AV} {la lb : Lab} (hf : f m = some (va, ma, la)) (hg : g ma = some (vb, mb, lb))
    (kf : Local f s m ma va la) (kg : Local g t ma mb vb lb) (hi : Lab.indep la lb = true) :
    ∃ m1, g m = some (vb, m1, lb) ∧ f m1 = some (va, mb, la) := by
  cases la with
  | p =>
    obtain ⟨rfl, kf⟩ := kf
    exact ⟨mb, hg, kf mb⟩
  | r l =>
    obtain ⟨rfl, kf⟩ := kf
    refine ⟨mb, hg, kf mb ?_⟩
    cases lb with
    | p => obtain ⟨rfl, _⟩ := kg; exact fun _ _ => ⟨fun h => h, rfl, fun h => h, fun _ _ => rfl, fun _ _ _ => rfl⟩
    | r _ => obtain ⟨rfl, _⟩ := kg; exact fun _ _ => ⟨fun h => h, rfl, fun h => h, fun _ _ => rfl, fun _ _ _ => rfl⟩
    | w q =>
      obtain ⟨cells, hc, rfl, _, _⟩ := kg
      obtain ⟨id, off, n⟩ := q
      simp only at hc; subst hc
      exact fun a ha => (AgreeAt.put (apartL_mem hi a ha)).1
    | a i =>
      obtain ⟨_, b, rfl, _⟩ := kg
      exact fun a ha => (AgreeAt.set (offId_mem hi a ha)).1
    | c n ws =>
      obtain ⟨rfl, kg⟩ := kg
      simp only [Lab.indep, Bool.and_eq_true] at hi
      exact fun a ha => (AgreeAt.honest kg (lowIds_mem hi.1 a ha) (apartLs_mem hi.2 a ha)).1
  | w q =>
    obtain ⟨cells, hc, rfl, hn, kf⟩ := kf
    obtain ⟨id, off, n⟩ := q
    simp only at hc; subst hc
    cases lb with
    | p =>
      obtain ⟨rfl, kg⟩ := kg
      exact ⟨m, kg m, hf⟩
    | r l =>
      obtain ⟨rfl, kg⟩ := kg
      exact ⟨m, kg m fun a ha => (AgreeAt.put (apartL_mem hi a ha)).2, hf⟩
    | w u =>
      obtain ⟨cells2, hc, rfl, hn2, kg⟩ := kg
      obtain ⟨id2, off2, n⟩ := u
      simp only at hc; subst hc
      refine ⟨_, kg m (Shape.put id2).2, ?_⟩
      rw [kf _ (Shape.put id).1]
      simp only
      rw [put_put (apart_symm hi)]
    | a i =>
      obtain ⟨_, b, rfl, kg⟩ := kg
      simp only [Lab.indep, Bool.not_eq_true'] at hi
      have hi : id ≠ i := fun e => by rw [e] at hi; simp at hi
      refine ⟨_, kg m, ?_⟩
      rw [kf _ (Shape.set hi).1]
      simp only
      rw [put_set hi]
    | c n ws => simp [Lab.indep] at hi
  | a i =>
    obtain ⟨_, b, rfl, kf⟩ := kf
    cases lb with
    | p =>
      obtain ⟨rfl, kg⟩ := kg
      exact ⟨m, kg m, hf⟩
    | r l =>
      obtain ⟨rfl, kg⟩ := kg
      exact ⟨m, kg m fun a ha => (AgreeAt.set (offId_mem hi a ha)).2, hf⟩
    | w u =>
      obtain ⟨cells2, hc, rfl, hn2, kg⟩ := kg
      obtain ⟨id2, off2, n⟩ := u
      simp only at hc; subst hc
      simp only [Lab.indep, Bool.not_eq_true'] at hi
      have hi : id2 ≠ i := fun e => by rw [e] at hi; simp at hi
      refine ⟨_, kg m (Shape.set hi).2, ?_⟩
      rw [kf]
      rw [put_set hi]
    | a j =>
      obtain ⟨_, c, rfl, kg⟩ := kg
      simp only [Lab.indep, Bool.not_eq_true'] at hi
      have hi : i ≠ j := fun e => by rw [e] at hi; simp at hi
      refine ⟨_, kg m, ?_⟩
      rw [kf]
      rw [set_comm hi]
    | c n ws => simp [Lab.indep] at hi
  | c n ws =>
    obtain ⟨rfl, kf⟩ := kf
    cases lb with
    | p =>
      obtain ⟨rfl, kg⟩ := kg
      exact ⟨m, kg m, hf⟩
    | r l =>
      obtain ⟨rfl, kg⟩ := kg
      simp only [Lab.indep, Bool.and_eq_true] at hi
      exact ⟨m, kg m fun a ha => (AgreeAt.honest kf (lowIds_mem hi.1 a ha) (apartLs_mem hi.2 a ha)).2, hf⟩
    | w u => simp [Lab.indep] at hi
    | a j => simp [Lab.indep] at hi
    | c n ws => simp [Lab.indep] at hi
end
end Go.Ev
end
