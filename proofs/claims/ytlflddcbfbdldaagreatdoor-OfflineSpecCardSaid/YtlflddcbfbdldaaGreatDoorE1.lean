/- Ab, part 22: for walks by hand. -/
import Derived.Test.YtlflddcbfbdldaaGreatDoorD1
namespace Go.Ab
open Go
section
variable {P : Program}

theorem LexA.step {ops : Array Oper} {o : Oper} {rest : List Oper} {Q : St → Prop} {st st' : St} (hs : absStep P ops o st = some st') (hnd : ∀ c, o.op ≠ .defer c) (h : LexA P ops Q rest st') : LexA P ops Q (o :: rest) st := by
  refine ⟨st', ?_, h⟩
  have exec : wantA ops st o = some true → absExec P o st = some st' → EffA P ops o st st' := by
    intro hw he
    unfold absExec at he
    obtain ⟨⟨v, st1⟩, hx, hp⟩ := Option.bind_eq_some_iff.1 he
    refine ⟨v, st1.G, .act hw (.x hx hnd), ?_⟩
    rw [← absX_same hx]
    exact hp
  unfold absStep at hs
  cases hg : o.guard with
  | none =>
    rw [hg] at hs
    exact exec (by simp [wantA, hg]) hs
  | some jw =>
    obtain ⟨j, want⟩ := jw
    rw [hg] at hs
    obtain ⟨y, hy, hs⟩ := Option.bind_eq_some_iff.1 hs
    split at hs
    · rename_i hyw
      exact exec (by simp [wantA, hg, hy, hyw]) hs
    · rename_i hyw
      rw [if_pos (show aboutOk P st o.op = true from rfl)] at hs
      exact ⟨.tup [], st.G, .skip (by simp [wantA, hg, hy, hyw]) rfl, hs⟩
theorem LexA.done {ops : Array Oper} {Q : St → Prop} {st : St} (h : Q st) : LexA P ops Q [] st := h

@[simp] theorem St.set_s (st : St) (d t : Nat) (v : V) : (st.set d v).s t = if t = d then v else st.s t := rfl
@[simp] theorem St.set_N (st : St) (d : Nat) (v : V) : (st.set d v).N = st.N := rfl
@[simp] theorem St.set_G (st : St) (d : Nat) (v : V) : (st.set d v).G = st.G := rfl
@[simp] theorem St.set_D (st : St) (d : Nat) (v : V) : (st.set d v).D = st.D := rfl

/-- A call of a function on data; what is handed on is viewed as data. -/
theorem XW.fn1 {o : Oper} {c : Call} {g : Operand} {st st1 : St} {f : FuncId} {first caps ds : List V} {v : V} (ho : o.op = .call c) (hc : c.callee = .value g) (hg : st.ev g = .fn (.func f) first caps) (hent : enters P f = true)
    (hv : st.viewL (c.args.toList.map st.ev) = some (ds, st1)) (hf : Fn1 P f (first ++ ds ++ caps) v) : XW P o st (fun x s => x = .ret v ∧ s = st1) := by
  intro a w U I η r next q H h1 h2
  have F := H.fits
  have hfg := F g
  rw [hg] at hfg
  obtain ⟨us, vs, he, hx, hy, r1, r2⟩ := hfg.fn_inv
  obtain ⟨hl, hr⟩ := F.args c.args
  obtain ⟨I', H1, hfoot, hl1, hr1, _, _⟩ := viewL_run (c.args.toList.map st.ev) (c.args.map a.eval).toList st I ds st1 H (by simp) (fun i v u hv hu => hr i v u hv (by simpa using hu)) hv
  have hargs : RelL w I' η (first ++ ds ++ caps) (us ++ c.args.map a.eval ++ vs) :=
    (RelL.append (RelL.mono ⟨hx, r1⟩ (fun _ _ => rfl) hfoot.le (fun _ _ h => h)) ⟨by simpa using hl1, fun i v u hv hu => .d (hr1 i v u hv (by simpa using hu))⟩).append (RelL.mono ⟨hy, r2⟩ (fun _ _ => rfl) hfoot.le (fun _ _ h => h))
  have hrun : (execOp a.eval o).run P w = .ok (.enter f (us ++ c.args.map a.eval ++ vs)) w := by
    simp only [execOp, ho, resolve, hc, Sem.run_bind]
    rw [he]
    simp [Deferred.ofValue, invoke, run_callFunc hent]
  refine ⟨aboutOk_run H rfl, ?_⟩
  rw [Oper.semAt_eq _ _ _ (by intro c'; rw [ho]; simp), hrun]
  refine ⟨fun hh => by simp [wd] at hh, ?_⟩
  refine CallsIn.mono (hf st1.G _ w U I' η H1.bare hargs) ?_
  rintro e w' ⟨x, G', I2, η', k1, ⟨rfl, rfl⟩, k3, k4, k5, k6⟩
  obtain ⟨u, rfl, hu⟩ := k1
  have hk : Keep U I w w' := ⟨k5.os, k5.tape, k5.output, k5.size, fun k hk => k5.block k (hk.imp id (hfoot.le k))⟩
  exact h1 v u st1 w' I2 η' ⟨rfl, rfl⟩ hu (H1.back k3 k5 k4 k6) (hfoot.trans k4) hk k6

theorem WL.fn1 {rd : Option Nat} {ops : Array Oper} {o : Oper} {rest : List Oper} {Q : Ex → St → Prop} {c : Call} {g : Operand} {st st1 st' : St} {f : FuncId} {first caps ds : List V} {v : V} (hw : wantA ops st o = some true) (ho : o.op = .call c) (hc : c.callee = .value g)
    (hg : st.ev g = .fn (.func f) first caps) (hent : enters P f = true) (hv : st.viewL (c.args.toList.map st.ev) = some (ds, st1)) (hf : Fn1 P f (first ++ ds ++ caps) v) (hp : st1.put o.dst v = some st') (h : WL P rd ops rest Q st') : WL P rd ops (o :: rest) Q st := by
  refine WL.op (want_true hw) (XW.fn1 ho hc hg hent hv hf) (fun v' s hs => ?_) (fun v' s hs => by cases hs.1)
  obtain ⟨h1, rfl⟩ := hs
  injection h1 with h1
  subst h1
  exact ⟨st', hp, h⟩
theorem LexA.fn1 {ops : Array Oper} {o : Oper} {rest : List Oper} {Q : St → Prop} {c : Call} {g : Operand} {st st' : St} {f : FuncId} {first caps : List V} {v : V} (hw : wantA ops st o = some true) (ho : o.op = .call c) (hc : c.callee = .value g)
    (hg : st.ev g = .fn (.func f) first caps) (hent : enters P f = true) (hf : Fn1 P f (first ++ c.args.toList.map st.ev ++ caps) v) (hp : st.put o.dst v = some st') (h : LexA P ops Q rest st') : LexA P ops Q (o :: rest) st :=
  ⟨st', ⟨v, st.G, .act hw (.call ho hc hg hent (hf st.G) (.refl _)), hp⟩, h⟩
/-- A call whose objects are told. -/
theorem WL.call {rd : Option Nat} {ops : Array Oper} {o : Oper} {rest : List Oper} {Q : Ex → St → Prop} {c : Call} {g : Operand} {st : St} {f : FuncId} {first caps : List V} {Φ : Out → List Ob → Prop} (hw : wantA ops st o = some true) (ho : o.op = .call c) (hc : c.callee = .value g)
    (hg : st.ev g = .fn (.func f) first caps) (hent : enters P f = true) (hf : Cal P f (first ++ c.args.toList.map st.ev ++ caps) st.G Φ)
    (h : ∀ v G', Φ (.ret v) G' → ∃ st', ({ st with G := G' } : St).put o.dst v = some st' ∧ WL P rd ops rest Q st') (hp : ∀ v G', Φ (.panic v) G' → Q (.panic v) { st with G := G' }) : WL P rd ops (o :: rest) Q st :=
  WL.op (R := fun x s => ∃ G', Φ x G' ∧ s = { st with G := G' }) (want_true hw) (XW.call ho hc hg hent hf (fun x G' hx => ⟨G', hx, rfl⟩)) (fun v s hs => by obtain ⟨G', hx, rfl⟩ := hs; exact h v G' hx) (fun v s hs => by obtain ⟨G', hx, rfl⟩ := hs; exact hp v G' hx)
end
end Go.Ab
