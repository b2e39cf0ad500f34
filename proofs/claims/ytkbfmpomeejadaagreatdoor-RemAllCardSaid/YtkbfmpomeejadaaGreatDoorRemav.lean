/- Part 22 of 46 of what the theorem stands on. -/
import Derived.Test.YtkbfmpomeejadaaGreatDoorRemau

section
namespace Go.Ev
open Go.Proofs
theorem wt_wide (a : Nat) (h : a < 2 ^ 256) : wt ((wordAt a 0 : Nat) : Int) ((wordAt a 1 : Nat) : Int) ((wordAt a 2 : Nat) : Int) ((wordAt a 3 : Nat) : Int) = some a := by
  have hok : ∀ j, okU ((wordAt a j : Nat) : Int) = true := fun j => by
    have := wordAt_lt a j
    unfold okU
    simp
    omega
  unfold wt
  rw [hok, hok, hok, hok]
  refine congrArg some ?_
  simp only [Int.toNat_natCast]
  rw [wordAt_succ _ 0, wordAt_succ _ 1, wordAt_succ _ 0, wordAt_succ _ 2, wordAt_succ _ 1, wordAt_succ _ 0, wordAt0, wordAt0, wordAt0, wordAt0]
  omega
/-- Something that the kernel does not look into. -/
noncomputable def sealed {α : Type} (a : α) : α := Classical.choose (⟨a, rfl⟩ : ∃ b, b = a)
theorem sealed_eq {α : Type} (a : α) : sealed a = a := Classical.choose_spec (⟨a, rfl⟩ : ∃ b, b = a)
/-- A number's words. -/
noncomputable def hiW (n : Nat) : Int := sealed ((n / 18446744073709551616 % 18446744073709551616 : Nat) : Int)
noncomputable def loW (n : Nat) : Int := sealed ((n % 18446744073709551616 : Nat) : Int)
noncomputable def wAt (n i : Nat) : Int := sealed ((wordAt n i : Nat) : Int)
/-- A number as two words, as four. -/
noncomputable def bb (n : Nat) : FV := .agg [.int .u64 (hiW n), .int .u64 (loW n)]
noncomputable def ww (n : Nat) : FV := .agg [.int .u64 (wAt n 0), .int .u64 (wAt n 1), .int .u64 (wAt n 2), .int .u64 (wAt n 3)]
theorem bb_eq (n : Nat) : bb n = bits n := by unfold bb hiW loW; rw [sealed_eq, sealed_eq]; rfl
theorem ww_eq (n : Nat) : ww n = wide n := by unfold ww wAt; rw [sealed_eq, sealed_eq, sealed_eq, sealed_eq]; rfl
/-- How an argument is read, and which ones may be. -/
structure Dec (A : Type) where
  dec : Arg → Option A
  enc : A → Arg
  ok : A → Prop
  inv : ∀ x a, dec x = some a → x = enc a ∧ ok a
  back : ∀ a, ok a → dec (enc a) = some a
/-- A byte. -/
def dF : Dec Int where
  dec := fun | .fv (.one (.int .u8 f)) => bif okB f then some f else none | _ => none
  enc := fun f => .fv (.one (.int .u8 f))
  ok := fun f => okB f = true
  inv := by
    intro x a h
    split at h
    · obtain ⟨h1, h2⟩ := bif_inv h
      cases h2
      exact ⟨rfl, h1⟩
    · cases h
  back := by
    intro a h
    show (bif okB a then some a else none) = some a
    rw [h]; rfl
/-- A small number. -/
def dI : Dec Int where
  dec := fun | .fv (.one (.int .i64 n)) => bif okS n then some n else none | _ => none
  enc := fun n => .fv (.one (.int .i64 n))
  ok := fun n => okS n = true
  inv := by
    intro x a h
    split at h
    · obtain ⟨h1, h2⟩ := bif_inv h
      cases h2
      exact ⟨rfl, h1⟩
    · cases h
  back := by
    intro a h
    show (bif okS a then some a else none) = some a
    rw [h]; rfl
/-- A word of 64 bits. -/
def dU : Dec Nat where
  dec := fun | .fv (.one (.int .u64 n)) => bif okU n then some n.toNat else none | _ => none
  enc := fun n => .fv (.one (.int .u64 (n : Int)))
  ok := fun n => n < 18446744073709551616
  inv := by
    intro x a h
    split at h
    · obtain ⟨h1, h2⟩ := bif_inv h
      have h1 := okU_spec h1
      cases h2
      rename_i n _
      refine ⟨?_, by omega⟩
      rw [Int.toNat_of_nonneg h1.1]
    · cases h
  back := by
    intro a h
    show (bif okU (a : Int) then some (a : Int).toNat else none) = some a
    have : okU (a : Int) = true := by unfold okU; simp; omega
    rw [this]; rfl
def dT : Dec Bool where
  dec := fun | .fv (.one (.bool b)) => some b | _ => none
  enc := fun b => .fv (.one (.bool b))
  ok := fun _ => True
  inv := by
    intro x a h
    split at h
    · cases h; exact ⟨rfl, trivial⟩
    · cases h
  back := fun _ _ => rfl
/-- Two words. -/
noncomputable def dB : Dec Nat where
  dec := fun | .fv (.agg [.int .u64 hi, .int .u64 lo]) => bt hi lo | _ => none
  enc := fun a => .fv (bb a)
  ok := fun a => a < 2 ^ 128
  inv := by
    intro x a h
    split at h
    · obtain ⟨h1, rfl, rfl⟩ := bt_inv h
      exact ⟨by rw [bb_eq]; rfl, h1⟩
    · cases h
  back := fun a h => by
    show (match Arg.fv (bb a) with | .fv (.agg [.int .u64 hi, .int .u64 lo]) => bt hi lo | _ => none) = _
    rw [bb_eq]
    exact bt_bits a h
/-- Four words. -/
noncomputable def dW : Dec Nat where
  dec := fun | .fv (.agg [.int .u64 a, .int .u64 b, .int .u64 c, .int .u64 d]) => wt a b c d | _ => none
  enc := fun a => .fv (ww a)
  ok := fun a => a < 2 ^ 256
  inv := by
    intro x a h
    split at h
    · obtain ⟨h1, rfl, rfl, rfl, rfl⟩ := wt_inv h
      exact ⟨by rw [ww_eq]; rfl, h1⟩
    · cases h
  back := fun a h => by
    show (match Arg.fv (ww a) with | .fv (.agg [.int .u64 a, .int .u64 b, .int .u64 c, .int .u64 d]) => wt a b c d | _ => none) = _
    rw [ww_eq]
    exact wt_wide a h
section
variable {A B C E F R : Type}
noncomputable def ctr1 (f : Nat) (a : Dec A) (K : A → Option R) (res : R → AV) : Ctr :=
  { f, R, K := sealed (fun | [x] => (a.dec x).bind K | _ => none), res }
noncomputable def ctr2 (f : Nat) (a : Dec A) (b : Dec B) (K : A → B → Option R) (res : R → AV) : Ctr :=
  { f, R, K := sealed (fun | [x, y] => (a.dec x).bind fun x => (b.dec y).bind fun y => K x y | _ => none), res }
noncomputable def ctr3 (f : Nat) (a : Dec A) (b : Dec B) (c : Dec C) (K : A → B → C → Option R) (res : R → AV) : Ctr :=
  { f, R, K := sealed (fun | [x, y, z] => (a.dec x).bind fun x => (b.dec y).bind fun y => (c.dec z).bind fun z => K x y z | _ => none), res }
noncomputable def ctr4 (f : Nat) (a : Dec A) (b : Dec B) (c : Dec C) (d : Dec E) (K : A → B → C → E → Option R) (res : R → AV) : Ctr :=
  { f, R, K := sealed (fun | [x, y, z, u] => (a.dec x).bind fun x => (b.dec y).bind fun y => (c.dec z).bind fun z => (d.dec u).bind fun u => K x y z u | _ => none), res }
noncomputable def ctr5 (f : Nat) (a : Dec A) (b : Dec B) (c : Dec C) (d : Dec E) (e : Dec F) (K : A → B → C → E → F → Option R) (res : R → AV) : Ctr :=
  { f, R, K := sealed (fun | [x, y, z, u, v] => (a.dec x).bind fun x => (b.dec y).bind fun y => (c.dec z).bind fun z => (d.dec u).bind fun u => (e.dec v).bind fun v => K x y z u v | _ => none), res }
theorem ctr1_K {f : Nat} {a : Dec A} {K : A → Option R} {res : R → AV} {x : A} (hx : a.ok x) : (ctr1 f a K res).K [a.enc x] = K x := by
  unfold ctr1
  simp only
  rw [sealed_eq]
  show (a.dec (a.enc x)).bind K = _
  rw [a.back x hx]; rfl
theorem ctr2_K {f : Nat} {a : Dec A} {b : Dec B} {K : A → B → Option R} {res : R → AV} {x : A} {y : B} (hx : a.ok x) (hy : b.ok y) :
    (ctr2 f a b K res).K [a.enc x, b.enc y] = K x y := by
  unfold ctr2
  simp only
  rw [sealed_eq]
  show ((a.dec (a.enc x)).bind fun x => (b.dec (b.enc y)).bind fun y => K x y) = _
  rw [a.back x hx, b.back y hy]; rfl
theorem ctr3_K {f : Nat} {a : Dec A} {b : Dec B} {c : Dec C} {K : A → B → C → Option R} {res : R → AV} {x : A} {y : B} {z : C} (hx : a.ok x) (hy : b.ok y) (hz : c.ok z) :
    (ctr3 f a b c K res).K [a.enc x, b.enc y, c.enc z] = K x y z := by
  unfold ctr3
  simp only
  rw [sealed_eq]
  show ((a.dec (a.enc x)).bind fun x => (b.dec (b.enc y)).bind fun y => (c.dec (c.enc z)).bind fun z => K x y z) = _
  rw [a.back x hx, b.back y hy, c.back z hz]; rfl
theorem ctr4_K {f : Nat} {a : Dec A} {b : Dec B} {c : Dec C} {d : Dec E} {K : A → B → C → E → Option R} {res : R → AV} {x : A} {y : B} {z : C} {u : E} (hx : a.ok x) (hy : b.ok y) (hz : c.ok z) (hu : d.ok u) :
    (ctr4 f a b c d K res).K [a.enc x, b.enc y, c.enc z, d.enc u] = K x y z u := by
  unfold ctr4
  simp only
  rw [sealed_eq]
  show ((a.dec (a.enc x)).bind fun x => (b.dec (b.enc y)).bind fun y => (c.dec (c.enc z)).bind fun z => (d.dec (d.enc u)).bind fun u => K x y z u) = _
  rw [a.back x hx, b.back y hy, c.back z hz, d.back u hu]; rfl
theorem ctr5_K {f : Nat} {a : Dec A} {b : Dec B} {c : Dec C} {d : Dec E} {e : Dec F} {K : A → B → C → E → F → Option R} {res : R → AV} {x : A} {y : B} {z : C} {u : E} {v : F} (hx : a.ok x) (hy : b.ok y) (hz : c.ok z) (hu : d.ok u) (hv : e.ok v) :
    (ctr5 f a b c d e K res).K [a.enc x, b.enc y, c.enc z, d.enc u, e.enc v] = K x y z u v := by
  unfold ctr5
  simp only
  rw [sealed_eq]
  show ((a.dec (a.enc x)).bind fun x => (b.dec (b.enc y)).bind fun y => (c.dec (c.enc z)).bind fun z => (d.dec (d.enc u)).bind fun u => (e.dec (e.enc v)).bind fun v => K x y z u v) = _
  rw [a.back x hx, b.back y hy, c.back z hz, d.back u hu, e.back v hv]; rfl
theorem bindK {α β : Type} {o : Option α} {k : α → Option β} {a : α} (h : o = some a) : o.bind k = k a := by rw [h]; rfl
theorem bind_inv {α β : Type} {o : Option α} {k : α → Option β} {r : β} (h : o.bind k = some r) : ∃ a, o = some a ∧ k a = some r := by
  cases o with
  | none => cases h
  | some a => exact ⟨a, rfl, h⟩
/-- A function's own facts. -/
structure Fun (f : Nat) (fn : Func) : Prop where
  at_ : Tryz.prog.funcs[f]? = some fn
  name : (fn.name == "runtime.NumGoroutine") = false
  body : fn.body.isNone = false
theorem Fun.callable {f : Nat} {fn : Func} (h : Fun f fn) : Callable Tryz.prog f := callable_of h.at_ h.name h.body
variable {b : Base} {f : Nat} {fn : Func} {res : R → AV}
theorem ctr1_ok (hb : BaseOk b) (hf : Fun f fn) (fuel : Nat) {a : Dec A} {K : A → Option R}
    (h : ∀ x r, a.ok x → K x = some r → funC (dat b) fuel fn [a.enc x] some = some (res r) ∧ pureAV (res r) = true) : CtrOk Tryz.prog (dat b) (ctr1 f a K res) := by
  refine ctr_of mixed hb.data hf.callable hf.at_ fuel fun xs r hr => ?_
  unfold ctr1 at hr
  simp only at hr
  rw [sealed_eq] at hr
  split at hr
  · obtain ⟨x, hx, hr1⟩ := bind_inv hr
    obtain ⟨rfl, kx⟩ := a.inv _ _ hx
    exact h x r kx hr1
  · cases hr
theorem ctr2_ok (hb : BaseOk b) (hf : Fun f fn) (fuel : Nat) {a : Dec A} {c : Dec B} {K : A → B → Option R}
    (h : ∀ x y r, a.ok x → c.ok y → K x y = some r → funC (dat b) fuel fn [a.enc x, c.enc y] some = some (res r) ∧ pureAV (res r) = true) : CtrOk Tryz.prog (dat b) (ctr2 f a c K res) := by
  refine ctr_of mixed hb.data hf.callable hf.at_ fuel fun xs r hr => ?_
  unfold ctr2 at hr
  simp only at hr
  rw [sealed_eq] at hr
  split at hr
  · obtain ⟨x, hx, hr1⟩ := bind_inv hr
    obtain ⟨rfl, kx⟩ := a.inv _ _ hx
    obtain ⟨y, hy, hr2⟩ := bind_inv hr1
    obtain ⟨rfl, ky⟩ := c.inv _ _ hy
    exact h x y r kx ky hr2
  · cases hr
theorem ctr3_ok (hb : BaseOk b) (hf : Fun f fn) (fuel : Nat) {a : Dec A} {c : Dec B} {d : Dec C} {K : A → B → C → Option R}
    (h : ∀ x y z r, a.ok x → c.ok y → d.ok z → K x y z = some r → funC (dat b) fuel fn [a.enc x, c.enc y, d.enc z] some = some (res r) ∧ pureAV (res r) = true) : CtrOk Tryz.prog (dat b) (ctr3 f a c d K res) := by
  refine ctr_of mixed hb.data hf.callable hf.at_ fuel fun xs r hr => ?_
  unfold ctr3 at hr
  simp only at hr
  rw [sealed_eq] at hr
  split at hr
  · obtain ⟨x, hx, hr1⟩ := bind_inv hr
    obtain ⟨rfl, kx⟩ := a.inv _ _ hx
    obtain ⟨y, hy, hr2⟩ := bind_inv hr1
    obtain ⟨rfl, ky⟩ := c.inv _ _ hy
    obtain ⟨z, hz, hr3⟩ := bind_inv hr2
    obtain ⟨rfl, kz⟩ := d.inv _ _ hz
    exact h x y z r kx ky kz hr3
  · cases hr
theorem ctr4_ok (hb : BaseOk b) (hf : Fun f fn) (fuel : Nat) {a : Dec A} {c : Dec B} {d : Dec C} {e : Dec E} {K : A → B → C → E → Option R}
    (h : ∀ x y z u r, a.ok x → c.ok y → d.ok z → e.ok u → K x y z u = some r → funC (dat b) fuel fn [a.enc x, c.enc y, d.enc z, e.enc u] some = some (res r) ∧ pureAV (res r) = true) : CtrOk Tryz.prog (dat b) (ctr4 f a c d e K res) := by
  refine ctr_of mixed hb.data hf.callable hf.at_ fuel fun xs r hr => ?_
  unfold ctr4 at hr
  simp only at hr
  rw [sealed_eq] at hr
  split at hr
  · obtain ⟨x, hx, hr1⟩ := bind_inv hr
    obtain ⟨rfl, kx⟩ := a.inv _ _ hx
    obtain ⟨y, hy, hr2⟩ := bind_inv hr1
    obtain ⟨rfl, ky⟩ := c.inv _ _ hy
    obtain ⟨z, hz, hr3⟩ := bind_inv hr2
    obtain ⟨rfl, kz⟩ := d.inv _ _ hz
    obtain ⟨u, hu, hr4⟩ := bind_inv hr3
    obtain ⟨rfl, ku⟩ := e.inv _ _ hu
    exact h x y z u r kx ky kz ku hr4
  · cases hr
theorem ctr5_ok (hb : BaseOk b) (hf : Fun f fn) (fuel : Nat) {a : Dec A} {c : Dec B} {d : Dec C} {e : Dec E} {g : Dec F} {K : A → B → C → E → F → Option R}
    (h : ∀ x y z u v r, a.ok x → c.ok y → d.ok z → e.ok u → g.ok v → K x y z u v = some r → funC (dat b) fuel fn [a.enc x, c.enc y, d.enc z, e.enc u, g.enc v] some = some (res r) ∧ pureAV (res r) = true) : CtrOk Tryz.prog (dat b) (ctr5 f a c d e g K res) := by
  refine ctr_of mixed hb.data hf.callable hf.at_ fuel fun xs r hr => ?_
  unfold ctr5 at hr
  simp only at hr
  rw [sealed_eq] at hr
  split at hr
  · obtain ⟨x, hx, hr1⟩ := bind_inv hr
    obtain ⟨rfl, kx⟩ := a.inv _ _ hx
    obtain ⟨y, hy, hr2⟩ := bind_inv hr1
    obtain ⟨rfl, ky⟩ := c.inv _ _ hy
    obtain ⟨z, hz, hr3⟩ := bind_inv hr2
    obtain ⟨rfl, kz⟩ := d.inv _ _ hz
    obtain ⟨u, hu, hr4⟩ := bind_inv hr3
    obtain ⟨rfl, ku⟩ := e.inv _ _ hu
    obtain ⟨v, hv, hr5⟩ := bind_inv hr4
    obtain ⟨rfl, kv⟩ := g.inv _ _ hv
    exact h x y z u v r kx ky kz ku kv hr5
  · cases hr
end
/-- A contract that says the same as another one, of fewer arguments perhaps. -/
theorem CtrOk.mono {P : Program} {D : Data} {f : Nat} {R : Type} {K K' : List Arg → Option R} {res res' : R → AV} (h : CtrOk P D { f, R, K, res })
    (hk : ∀ xs r, K' xs = some r → K xs = some r ∧ res r = res' r) : CtrOk P D { f, R, K := K', res := res' } := by
  rcases h with ⟨h1, h2⟩ | h
  · refine .inl ⟨h1, fun w far args vs r hg ha hr => ?_⟩
    obtain ⟨h3, h4⟩ := hk args r hr
    have := h2 w far args vs r hg ha h3
    show Calls P f vs.toArray w (CtrPost w far (res' r))
    rw [← h4]
    exact this
  · refine .inr fun w far args vs r ha hr => ?_
    obtain ⟨h3, h4⟩ := hk args r hr
    have := h w far args vs r ha h3
    show ∃ u, _ ∧ AVRel (pureE w far) (res' r) u
    rw [← h4]
    exact this
theorem ctr1_inv {A R : Type} {f : Nat} {a : Dec A} {K : A → Option R} {res : R → AV} {xs : List Arg} {r : R} (h : (ctr1 f a K res).K xs = some r) :
    ∃ x, xs = [a.enc x] ∧ a.ok x ∧ K x = some r := by
  unfold ctr1 at h
  simp only at h
  rw [sealed_eq] at h
  split at h
  · obtain ⟨x, hx, h1⟩ := bind_inv h
    obtain ⟨rfl, kx⟩ := a.inv _ _ hx
    exact ⟨x, rfl, kx, h1⟩
  · cases h
theorem ctr2_inv {A B R : Type} {f : Nat} {a : Dec A} {b : Dec B} {K : A → B → Option R} {res : R → AV} {xs : List Arg} {r : R} (h : (ctr2 f a b K res).K xs = some r) :
    ∃ x y, xs = [a.enc x, b.enc y] ∧ a.ok x ∧ b.ok y ∧ K x y = some r := by
  unfold ctr2 at h
  simp only at h
  rw [sealed_eq] at h
  split at h
  · obtain ⟨x, hx, h1⟩ := bind_inv h
    obtain ⟨rfl, kx⟩ := a.inv _ _ hx
    obtain ⟨y, hy, h2⟩ := bind_inv h1
    obtain ⟨rfl, ky⟩ := b.inv _ _ hy
    exact ⟨x, y, rfl, kx, ky, h2⟩
  · cases h
/-- Arguments. -/
abbrev aF (f : Int) : Arg := .fv (.one (.int .u8 f))
abbrev aI (f : Int) : Arg := .fv (.one (.int .i64 f))
abbrev aU (f : Int) : Arg := .fv (.one (.int .u64 f))
abbrev aT (f : Bool) : Arg := .fv (.one (.bool f))
noncomputable abbrev aB (f : Nat) : Arg := .fv (bb f)
noncomputable abbrev aW (f : Nat) : Arg := .fv (ww f)
abbrev aN (f : Nat) : Arg := .fv (.one (.nat f))
noncomputable def rB (r : Nat) : AV := .fv (bb r)
noncomputable def rW (r : Nat) : AV := .fv (ww r)
def rI (r : Int) : AV := .fv (.one (.int .i64 r))
def rT (r : Bool) : AV := .fv (.one (.bool r))
/-- Any number of type int. -/
def dA : Dec Int where
  dec := fun | .fv (.one (.int .i64 n)) => some n | _ => none
  enc := fun n => .fv (.one (.int .i64 n))
  ok := fun _ => True
  inv := by
    intro x a h
    split at h
    · cases h
      exact ⟨rfl, trivial⟩
    · cases h
  back := fun _ _ => rfl
noncomputable def gLeft : Ctr := ctr2 89 dB dA (fun a n => some (leftN a n)) rB
noncomputable def gRight : Ctr := ctr2 163 dB dA (fun a n => some (rightN a n)) rB
noncomputable def gWideLeft : Ctr := ctr2 171 dW dA (fun a n => some (wideLeftN a n)) rW
noncomputable def gWideRight : Ctr := ctr2 245 dW dA (fun a n => some (wideRightN a n)) rW
noncomputable def gKnown : Ctr := ctr1 36 dF (fun f => some (decide (f < 4))) rT
def rOf (r : Int × Int × Int) : AV := .fv (.agg [.int .i64 r.1, .int .i64 r.2.1, .int .i64 r.2.2])
noncomputable def gOf : Ctr := ctr1 162 dF (fun f => some (fmtW f, fmtP f, fmtX f)) rOf
noncomputable def gWidth : Ctr := ctr1 100 dF (fun f => some (fmtW f)) rI
noncomputable def gPrec : Ctr := ctr1 161 dF (fun f => some (fmtP f)) rI
noncomputable def gEmax : Ctr := ctr1 159 dF (fun f => some (fmtX f)) rI
theorem cLeft_K (x y n : Int) : cLeft.K [.fv (.agg [.int .u64 x, .int .u64 y]), .fv (.one (.int .i64 n))] = kLeft x y n := rfl
theorem cRight_K (x y n : Int) : cRight.K [.fv (.agg [.int .u64 x, .int .u64 y]), .fv (.one (.int .i64 n))] = kRight x y n := rfl
theorem cWideLeft_K (x y z u n : Int) : cWideLeft.K [.fv (.agg [.int .u64 x, .int .u64 y, .int .u64 z, .int .u64 u]), .fv (.one (.int .i64 n))] = kWideLeft x y z u n := rfl
theorem cWideRight_K (x y z u n : Int) : cWideRight.K [.fv (.agg [.int .u64 x, .int .u64 y, .int .u64 z, .int .u64 u]), .fv (.one (.int .i64 n))] = kWideRight x y z u n := rfl
theorem gLeft_ok {D : Data} (h : CtrOk Tryz.prog D cLeft) : CtrOk Tryz.prog D gLeft := by
  refine CtrOk.mono h fun xs r hr => ?_
  obtain ⟨a, n, rfl, ha, _, hr⟩ := ctr2_inv (f := 0) (res := rB) hr
  cases hr
  refine ⟨?_, by unfold rB; rw [bb_eq]⟩
  show cLeft.K [.fv (bb a), .fv (.one (.int .i64 n))] = _
  rw [bb_eq]
  unfold bits
  rw [cLeft_K]
  exact kLeft_bits ha n
theorem gRight_ok {D : Data} (h : CtrOk Tryz.prog D cRight) : CtrOk Tryz.prog D gRight := by
  refine CtrOk.mono h fun xs r hr => ?_
  obtain ⟨a, n, rfl, ha, _, hr⟩ := ctr2_inv (f := 0) (res := rB) hr
  cases hr
  refine ⟨?_, by unfold rB; rw [bb_eq]⟩
  show cRight.K [.fv (bb a), .fv (.one (.int .i64 n))] = _
  rw [bb_eq]
  unfold bits
  rw [cRight_K]
  exact kRight_bits ha n
theorem gWideLeft_ok {D : Data} (h : CtrOk Tryz.prog D cWideLeft) : CtrOk Tryz.prog D gWideLeft := by
  refine CtrOk.mono h fun xs r hr => ?_
  obtain ⟨a, n, rfl, ha, _, hr⟩ := ctr2_inv (f := 0) (res := rW) hr
  cases hr
  refine ⟨?_, by unfold rW; rw [ww_eq]⟩
  show cWideLeft.K [.fv (ww a), .fv (.one (.int .i64 n))] = _
  rw [ww_eq]
  unfold wide
  rw [cWideLeft_K]
  unfold kWideLeft
  rw [wt_wide a ha]
  rfl
theorem gWideRight_ok {D : Data} (h : CtrOk Tryz.prog D cWideRight) : CtrOk Tryz.prog D gWideRight := by
  refine CtrOk.mono h fun xs r hr => ?_
  obtain ⟨a, n, rfl, ha, _, hr⟩ := ctr2_inv (f := 0) (res := rW) hr
  cases hr
  refine ⟨?_, by unfold rW; rw [ww_eq]⟩
  show cWideRight.K [.fv (ww a), .fv (.one (.int .i64 n))] = _
  rw [ww_eq]
  unfold wide
  rw [cWideRight_K]
  unfold kWideRight
  rw [wt_wide a ha]
  rfl
theorem okB_spec {x : Int} (h : okB x = true) : 0 ≤ x ∧ x < 256 := by
  unfold okB at h
  simpa using h
theorem gKnown_ok {D : Data} (h : CtrOk Tryz.prog D cKnown) : CtrOk Tryz.prog D gKnown := by
  refine CtrOk.mono h fun xs r hr => ?_
  obtain ⟨f, rfl, hf, hr⟩ := ctr1_inv (f := 0) (res := rT) hr
  cases hr
  refine ⟨?_, rfl⟩
  have hf := okB_spec hf
  show some (decide (IntKind.wrap .i64 f < 4)) = _
  rw [i64w _ (by omega) (by omega)]
theorem gOf_ok {D : Data} (h : CtrOk Tryz.prog D cOf) : CtrOk Tryz.prog D gOf := by
  refine CtrOk.mono h fun xs r hr => ?_
  obtain ⟨f, rfl, hf, hr⟩ := ctr1_inv (f := 0) (res := rOf) hr
  cases hr
  exact ⟨kOf_some hf, rfl⟩
theorem gWidth_ok {D : Data} (h : CtrOk Tryz.prog D cWidth) : CtrOk Tryz.prog D gWidth := by
  refine CtrOk.mono h fun xs r hr => ?_
  obtain ⟨f, rfl, hf, hr⟩ := ctr1_inv (f := 0) (res := rI) hr
  cases hr
  refine ⟨?_, rfl⟩
  show (bif okB f then some (fmtW f) else none) = _
  rw [show okB f = true from hf]; rfl
theorem gPrec_ok {D : Data} (h : CtrOk Tryz.prog D cPrec) : CtrOk Tryz.prog D gPrec := by
  refine CtrOk.mono h fun xs r hr => ?_
  obtain ⟨f, rfl, hf, hr⟩ := ctr1_inv (f := 0) (res := rI) hr
  cases hr
  refine ⟨?_, rfl⟩
  show (bif okB f then some (fmtP f) else none) = _
  rw [show okB f = true from hf]; rfl
theorem gEmax_ok {D : Data} (h : CtrOk Tryz.prog D cEmax) : CtrOk Tryz.prog D gEmax := by
  refine CtrOk.mono h fun xs r hr => ?_
  obtain ⟨f, rfl, hf, hr⟩ := ctr1_inv (f := 0) (res := rI) hr
  cases hr
  refine ⟨?_, rfl⟩
  show (bif okB f then some (fmtX f) else none) = _
  rw [show okB f = true from hf]; rfl
theorem left_K {a : Nat} (h : a < 2 ^ 128) (n : Int) : gLeft.K [aB a, aI n] = some (leftN a n) := ctr2_K (a := dB) (b := dA) h trivial
theorem right_K {a : Nat} (h : a < 2 ^ 128) (n : Int) : gRight.K [aB a, aI n] = some (rightN a n) := ctr2_K (a := dB) (b := dA) h trivial
theorem wideLeft_K {a : Nat} (h : a < 2 ^ 256) (n : Int) : gWideLeft.K [aW a, aI n] = some (wideLeftN a n) := ctr2_K (a := dW) (b := dA) h trivial
theorem wideRight_K {a : Nat} (h : a < 2 ^ 256) (n : Int) : gWideRight.K [aW a, aI n] = some (wideRightN a n) := ctr2_K (a := dW) (b := dA) h trivial
theorem known_K {f : Int} (h : okB f = true) : gKnown.K [aF f] = some (decide (f < 4)) := ctr1_K (a := dF) h
theorem of_K {f : Int} (h : okB f = true) : gOf.K [aF f] = some (fmtW f, fmtP f, fmtX f) := ctr1_K (a := dF) h
theorem width_K {f : Int} (h : okB f = true) : gWidth.K [aF f] = some (fmtW f) := ctr1_K (a := dF) h
theorem prec_K {f : Int} (h : okB f = true) : gPrec.K [aF f] = some (fmtP f) := ctr1_K (a := dF) h
theorem emax_K {f : Int} (h : okB f = true) : gEmax.K [aF f] = some (fmtX f) := ctr1_K (a := dF) h
/-- What is known so far. -/
noncomputable def c3 : Base := { funs := [], eqs := [], ctrs := [gKnown, gLeft, gRight, gWideLeft, gWideRight, gOf, gWidth, gPrec, gEmax] }
theorem c3_ok : BaseOk c3 where
  funs := by simp [c3]
  eqs := by simp [c3]
  ctrs := by
    intro c hc
    simp only [c3, List.mem_cons, List.not_mem_nil, or_false] at hc
    rcases hc with rfl | rfl | rfl | rfl | rfl | rfl | rfl | rfl | rfl
    · exact gKnown_ok known_ok
    · exact gLeft_ok left_ok
    · exact gRight_ok right_ok
    · exact gWideLeft_ok wideLeft_ok
    · exact gWideRight_ok wideRight_ok
    · exact gOf_ok of_ok
    · exact gWidth_ok width_ok
    · exact gPrec_ok prec_ok
    · exact gEmax_ok emax_ok
/-- The lowest bits. -/
def lowN (a : Nat) (n : Int) : Nat := a % 2 ^ n.toNat
noncomputable def gLow : Ctr := ctr2 99 dB dI (fun a n => some (lowN a n)) rB
theorem low_eq (a : Nat) (n : Int) : funC (dat c3) 100 Tryz.f99 [aB a, aI n] some =
    (gLeft.K [aB a, aI (IntKind.i64.wrap (128 - n))]).bind fun r => (gRight.K [aB r, aI (IntKind.i64.wrap (128 - n))]).bind fun r => some (rB r) := by kernel_rfl
theorem low_gen (N a k : Nat) (h : a < 2 ^ N) : a * 2 ^ (N - k) % 2 ^ N / 2 ^ (N - k) = a % 2 ^ k := by
  by_cases hk : k ≤ N
  · have e2 : (2 : Nat) ^ N = 2 ^ k * 2 ^ (N - k) := by rw [← Nat.pow_add]; congr 1; omega
    rw [e2, Nat.mul_mod_mul_right, Nat.mul_div_cancel _ (Nat.two_pow_pos _)]
  · have e : N - k = 0 := by omega
    have : 2 ^ N ≤ 2 ^ k := Nat.pow_le_pow_right (by decide) (by omega)
    rw [e, Nat.pow_zero, Nat.mul_one, Nat.div_one, Nat.mod_eq_of_lt h, Nat.mod_eq_of_lt (Nat.lt_of_lt_of_le h this)]
theorem low_spec {a : Nat} (h : a < 2 ^ 128) (n : Int) : rightN (leftN a (128 - n)) (128 - n) = lowN a n := by
  unfold rightN leftN lowN
  have e1 : min (128 - n).toNat 128 = 128 - n.toNat := by omega
  rw [e1]
  exact low_gen 128 a n.toNat h
theorem low_ok : CtrOk Tryz.prog (dat c3) gLow := by
  refine ctr2_ok c3_ok ⟨Tryz.func99, by kernel_rfl, by kernel_rfl⟩ 100 fun a n r ha hn hr => ?_
  cases hr
  refine ⟨?_, rfl⟩
  have hn := okS_spec hn
  show funC (dat c3) 100 Tryz.f99 [aB a, aI n] some = _
  rw [low_eq, i64w _ (by omega) (by omega)]
  refine (bindK (left_K ha _)).trans ((bindK (right_K (leftN_lt _ _) _)).trans ?_)
  rw [low_spec ha]
theorem low_K {a : Nat} (h : a < 2 ^ 128) {n : Int} (hn : okS n = true) : gLow.K [aB a, aI n] = some (lowN a n) := ctr2_K (a := dB) (b := dI) h hn
end Go.Ev
end
