/- Ab, part 13: objects that are no rows; ranges over functions. -/
import Derived.Test.YtlflddcbfbdldaaGreatDoorB3
import Derived.RangeFuncRecord
import Derived.RangeFuncNested
namespace Go.Ab
open Go
section
variable {P : Program} {st : St} {a : Act} {w w' : World} {U I I' : Nat → Prop} {η η' : List Blk}

/-! ### A round -/
/-- What is asked at a round's end; a panic goes up. -/
def roundEnd (P : Program) (l : Nat) (R : Ending → World → Prop) : Exit → Act → World → Prop
  | .normal, _, w => ∃ v w', (Instr.endRound l none).run P w = .ok v w' ∧ R (.returned v) w'
  | .ret, _, w => ∃ v w', (Instr.endRound l (some .ret)).run P w = .ok v w' ∧ R (.returned v) w'
  | .exit id, _, w => ∃ v w', (Instr.endRound l (some (.exit id))).run P w = .ok v w' ∧ R (.returned v) w'
  | .goto t, _, w => ∃ v w', (Instr.endRound l (some (.goto t))).run P w = .ok v w' ∧ R (.returned v) w'
  | .panic chain, a, w => a.defers = [] ∧ R (.panicked chain) w
  | .outgrown, _, _ => False

theorem step_leave_round {b c : Frame} {a : Act} {x : Item} {todo : List Item} {cs : List Frame} {w : World} {chain : List PanicEntry} (hx : isCall x = false) (hd : a.defers = []) :
    step P (lone { b.atR a (x :: todo) with mode := .panicking chain } (c :: cs) w) = .next (lone (c.raise chain) cs w) :=
  step_lone_go (by
    cases x <;> first | (simp [isCall] at hx; done) | (cases hf : P.funcs[b.fn]? <;> simp [stepG, unwind, Frame.catches, Frame.atR, hd, hf]))

theorem roundIn_panics {F : Fence} {n : Nat} {l : Nat} {f : FuncId} {tmps : Array Value} {assign body : Code} {w : World} {R : Ending → World → Prop} (hF : F.fn f)
    (h : wpP (F.inRound l) n P assign (Exit.then (fun a₁ w₁ => ∃ w₂, (Instr.beginRound l).run P w₁ = .ok () w₂ ∧ wpP (F.inRound l) n P body (roundEnd P l R) a₁ w₂) (fun _ _ _ => False)) { tmps := tmps, defers := [] } w) :
    RoundIn F n P l f tmps assign body w R := by
  refine ⟨hF, fun c cs hr => ?_⟩
  let b : Frame := { (default : Frame) with fn := f, kind := .normal, roundOf := some l }
  have hb0 : Frame.round l f tmps assign body .normal = b.atR { tmps := tmps, defers := [] } [.code assign, .beginRound, .code body] := by
    simp [Frame.round, Frame.atR, b]
  have hr' : (F.inRound l).room ((c :: cs).length + 1 + n) := hr
  have hF' : (F.inRound l).fn b.fn := hF
  obtain ⟨e₁, a₁, w₁, hq₁, s0⟩ := h b [.beginRound, .code body] (c :: cs) rfl hF' hr'
  cases e₁ with
  | exit id => exact hq₁.elim
  | goto t => exact hq₁.elim
  | ret => exact hq₁.elim
  | panic chain => exact hq₁.elim
  | outgrown => exact hq₁.elim
  | normal =>
  have s0 : StepsIn (Machine.fenced P (F.inRound l)) P (lone (b.atR { tmps := tmps, defers := [] } [.code assign, .beginRound, .code body]) (c :: cs) w) (lone (b.atR a₁ [.beginRound, .code body]) (c :: cs) w₁) := s0
  obtain ⟨w₂, hbr, hbody⟩ := hq₁
  have s1 : StepsIn (Machine.fenced P (F.inRound l)) P (lone (b.atR a₁ [.beginRound, .code body]) (c :: cs) w₁) (lone (b.atR a₁ [.code body]) (c :: cs) w₂) :=
    .one (fenced_calm (fr := b.atR a₁ [.beginRound, .code body]) hF' hr' rfl) (stepR_beginRound rfl hbr)
  obtain ⟨e₂, a₂, w₃, hq₂, harr₂⟩ := hbody b [] (c :: cs) rfl hF' hr'
  rw [hb0]
  cases e₂ with
  | normal =>
    obtain ⟨v, w₄, hend, hR⟩ := hq₂
    exact ⟨.returned v, w₄, hR, (StepsIn.trans s0 s1).trans (StepsIn.trans harr₂ (.one (fenced_calm (fr := b.atR a₂ []) hF' hr' rfl) (stepR_round_end rfl rfl hend)))⟩
  | ret =>
    obtain ⟨v, w₄, hend, hR⟩ := hq₂
    obtain ⟨k₁, hs⟩ := harr₂.2 rfl
    exact ⟨.returned v, w₄, hR, (StepsIn.trans s0 s1).trans (StepsIn.trans hs (.one (fenced_calm (fr := b.atR a₂ (.code .ret :: k₁)) hF' hr' rfl) (stepR_round_ret rfl rfl hend)))⟩
  | exit id =>
    obtain ⟨v, w₄, hend, hR⟩ := hq₂
    obtain ⟨k₁, hk, hs⟩ := harr₂.2 rfl rfl
    exact ⟨.returned v, w₄, hR, (StepsIn.trans s0 s1).trans (StepsIn.trans hs (.one (fenced_calm (fr := b.atR a₂ (.code (.exit id) :: k₁)) hF' hr' rfl) (stepR_round_exit rfl rfl hk hend)))⟩
  | goto t =>
    obtain ⟨v, w₄, hend, hR⟩ := hq₂
    obtain ⟨k₁, hk, hs⟩ := harr₂.2 rfl rfl
    exact ⟨.returned v, w₄, hR, (StepsIn.trans s0 s1).trans (StepsIn.trans hs (.one (fenced_calm (fr := b.atR a₂ (.code (.goto t) :: k₁)) hF' hr' rfl) (stepR_round_goto rfl rfl hk hend)))⟩
  | panic chain =>
    obtain ⟨hd, hR⟩ := hq₂
    obtain ⟨x, todo, hx, hs⟩ := harr₂
    have hfen : (lone { b.atR a₂ (x :: todo) with mode := .panicking chain } (c :: cs) w₃).fenced P F := fenced_calm (F := F) (n := n) hF' hr' (by simp [Frame.about, Frame.atR, hd])
    exact ⟨.panicked chain, w₃, hR, (StepsIn.trans s0 s1).trans (StepsIn.trans hs (.one hfen (step_leave_round hx hd)))⟩
  | outgrown => exact hq₂.elim

theorem beginRound_loop {e : Blk} {i : Nat} {nf : Nat} {pend : Option Code} {tm : List V} {ps : Array Tmp} {assign body : Code} {d : Nat} (H : WR st a w U I η) (he : η[i]? = some e)
    (hG : st.G[i]? = some (.obj (.loop nf .ready pend tm ps assign body d))) :
    ∃ w₂, (Instr.beginRound e.b).run P w = .ok () w₂ ∧ WR { st with G := st.G.set i (.obj (.loop nf .busy pend tm ps assign body d)) } a w₂ U I η ∧ Keep U I w w₂ := by
  obtain ⟨x, hx, ed, fn, vs, hfn, hd, rfl, hvs⟩ := H.ob i e _ he hG
  obtain ⟨H', hk⟩ := H.setObj he hG (o' := .loop nf .busy pend tm ps assign body d) (x := _) ⟨ed, fn, vs, hfn, hd, rfl, hvs⟩
  exact ⟨_, run_beginRound hx rfl, H', hk⟩
theorem endRound_loop {e : Blk} {i : Nat} {nf : Nat} {state : LoopState} {pend : Option Code} {tm : List V} {ps : Array Tmp} {assign body : Code} {d : Nat} (H : WR st a w U I η) (he : η[i]? = some e)
    (hG : st.G[i]? = some (.obj (.loop nf state pend tm ps assign body d))) (jump : Option Code) :
    ∃ w₂, (Instr.endRound e.b jump).run P w = .ok (.bool jump.isNone) w₂ ∧ WR { st with G := st.G.set i (.obj (.loop nf (if jump.isNone then .ready else .done) jump tm ps assign body d)) } a w₂ U I η ∧ Keep U I w w₂ := by
  obtain ⟨x, hx, ed, fn, vs, hfn, hd, rfl, hvs⟩ := H.ob i e _ he hG
  obtain ⟨H', hk⟩ := H.setObj he hG (o' := .loop nf (if jump.isNone then .ready else .done) jump tm ps assign body d) (x := _) ⟨ed, fn, vs, hfn, hd, rfl, hvs⟩
  exact ⟨_, run_endRound jump hx, H', hk⟩
theorem endLoop_loop {e : Blk} {i : Nat} {nf : Nat} {state : LoopState} {pend : Option Code} {tm : List V} {ps : Array Tmp} {assign body : Code} {d : Nat} (H : WR st a w U I η) (he : η[i]? = some e)
    (hG : st.G[i]? = some (.obj (.loop nf state pend tm ps assign body d))) (hb : state ≠ .busy) :
    ∃ w₂, (Instr.endLoop e.b).run P w = .ok pend w₂ ∧ WR { st with G := st.G.set i (.obj (.loop nf .exhausted pend tm ps assign body d)) } a w₂ U I η ∧ Keep U I w w₂ := by
  obtain ⟨x, hx, ed, fn, vs, hfn, hd, rfl, hvs⟩ := H.ob i e _ he hG
  obtain ⟨H', hk⟩ := H.setObj he hG (o' := .loop nf .exhausted pend tm ps assign body d) (x := _) ⟨ed, fn, vs, hfn, hd, rfl, hvs⟩
  exact ⟨_, run_endLoop hx hb, H', hk⟩

/-- The state in which a round's body begins. -/
def St.round (tm : List V) (ps : List Tmp) (args : List V) (G : List Ob) : St :=
  { N := tm.length, s := fun t => ((ps.zip args).foldl (fun l p => l.set p.1 p.2) tm).getD t .undef, G := G, D := [] }
theorem fold_len {α : Type} : ∀ (l : List (Tmp × α)) (tm : List α), (l.foldl (fun l p => l.set p.1 p.2) tm).length = tm.length
  | [], tm => rfl
  | p :: l, tm => by rw [List.foldl_cons, fold_len l]; simp
theorem fold_rel : ∀ (l : List (Tmp × V)) (k : List (Tmp × Value)) (tm : List V) (vs : Array Value), RelL w I η tm vs → l.length = k.length →
    (∀ (i : Nat) (p : Tmp × V) (q : Tmp × Value), l[i]? = some p → k[i]? = some q → p.1 = q.1 ∧ Rel w I η p.2 q.2) →
    RelL w I η (l.foldl (fun l p => l.set p.1 p.2) tm) (k.foldl (fun (tmps : Array Value) (p : Tmp × Value) => tmps.setIfInBounds p.1 p.2) vs)
  | [], [], tm, vs, h, _, _ => h
  | [], _ :: _, tm, vs, h, hl, _ => by simp at hl
  | _ :: _, [], tm, vs, h, hl, _ => by simp at hl
  | p :: l, q :: k, tm, vs, h, hl, hr => by
    rw [List.foldl_cons, List.foldl_cons]
    refine fold_rel l k _ _ ?_ (by simpa using hl) (fun i p' q' hp hq => hr (i + 1) p' q' (by simpa using hp) (by simpa using hq))
    obtain ⟨e1, r1⟩ := hr 0 p q rfl rfl
    refine ⟨by simp [h.1], fun i v u hv hu => ?_⟩
    rw [← e1] at hu
    by_cases hi : p.1 = i
    · subst hi
      have hlt : p.1 < tm.length := by have := (List.getElem?_eq_some_iff.1 hv).1; simpa using this
      have hlt' : p.1 < vs.size := h.1 ▸ hlt
      rw [List.getElem?_set_self hlt] at hv
      rw [Array.getElem?_setIfInBounds_self_of_lt hlt'] at hu
      injection hv with hv
      injection hu with hu
      subst hv
      subst hu
      exact r1
    · rw [List.getElem?_set_ne hi] at hv
      rw [Array.getElem?_setIfInBounds_ne hi] at hu
      exact h.2 i v u hv hu

/-- How a round's body comes out. -/
def RoundQ (i : Nat) (Φ : Out → List Ob → Prop) : Ex → St → Prop :=
  let fin (jump : Option Code) (st : St) : Prop := ∃ nf state pend tm ps assign body d, st.G[i]? = some (.obj (.loop nf state pend tm ps assign body d)) ∧
    Φ (.ret (.bool jump.isNone)) (st.G.set i (.obj (.loop nf (if jump.isNone then .ready else .done) jump tm ps assign body d)))
  fun
  | .normal, st => fin none st
  | .ret, st => fin (some .ret) st
  | .exit id, st => fin (some (.exit id)) st
  | .goto l, st => fin (some (.goto l)) st
  | .panic v, st => st.D = [] ∧ Φ (.panic v) st.G

/-- A call of yield. -/
theorem XW.yield {o : Oper} {c : Call} {g : Operand} (ho : o.op = .call c) (hc : c.callee = .value g) {i : Nat} (hg : st.ev g = .yld i) {nf : Nat} {state : LoopState} {pend : Option Code} {tm : List V} {ps : Array Tmp} {assign body : Code} {d : Nat}
    (hG : st.G[i]? = some (.obj (.loop nf state pend tm ps assign body d))) (hps : c.args.size = ps.size)
    {Φ : Out → List Ob → Prop} (h : W P (some i) assign (fun x s => x = .normal ∧ ∃ nf pend tm ps as bd d, s.G[i]? = some (.obj (.loop nf .ready pend tm ps as bd d)) ∧
      W P (some i) body (RoundQ i Φ) { s with G := s.G.set i (.obj (.loop nf .busy pend tm ps as bd d)) }) (St.round tm ps.toList (c.args.toList.map st.ev) st.G))
    {Q : Out → St → Prop} (hq : ∀ x G', Φ x G' → Q x { st with G := G' }) : XW P o st Q := by
  intro a w U I η r next q H h1 h2
  have F := H.fits
  have hfg := F g
  rw [hg] at hfg
  obtain ⟨e, he, hev⟩ := hfg.yld_inv
  obtain ⟨x, hx, ed, fn, vs, hfn, hd, rfl, hvs⟩ := H.ob i e _ he hG
  have hrun : (execOp a.eval o).run P w = .ok (.round e.b fn ((ps.zip (c.args.map a.eval)).foldl (fun tmps (t, a) => tmps.setIfInBounds t a) vs) assign body) w := by
    simp only [execOp, ho, resolve, hc, Sem.run_bind]
    rw [hev]
    simp only [Deferred.ofValue, Sem.run_pure, Result.andThen_ok, invoke]
    rw [run_yield (by simpa using hx) (by simpa using hps)]
    simp
  refine ⟨aboutOk_run H rfl, ?_⟩
  rw [Oper.semAt_eq _ _ _ (by intro c'; rw [ho]; simp), hrun]
  refine ⟨fun hh => by simp [wd] at hh, ?_⟩
  have hfold : RelL w I η ((ps.toList.zip (c.args.toList.map st.ev)).foldl (fun l p => l.set p.1 p.2) tm) ((ps.zip (c.args.map a.eval)).foldl (fun tmps (t, a) => tmps.setIfInBounds t a) vs) := by
    rw [← Array.foldl_toList]
    refine fold_rel _ _ _ _ hvs (by simp) ?_
    intro j p q hp hq
    simp only [Array.toList_zip, Array.toList_map] at hq
    rw [List.getElem?_zip_eq_some] at hp hq
    refine ⟨by have := hp.1.symm.trans hq.1; injection this, ?_⟩
    exact (F.args c.args).2 j p.2 q.2 hp.2 (by simpa using hq.2)
  have H3 : WR (St.round tm ps.toList (c.args.toList.map st.ev) st.G) { tmps := (ps.zip (c.args.map a.eval)).foldl (fun tmps (t, a) => tmps.setIfInBounds t a) vs, defers := [] } w U I η := by
    refine H.bare.full rfl ?_ (fun t => ?_) .nil
    · simp only [St.round]
      rw [← hfold.1, fold_len]
    · simp only [St.round, Act.eval, Array.getD_eq_getD_getElem?, List.getD_eq_getElem?_getD]
      by_cases ht : t < ((ps.toList.zip (c.args.toList.map st.ev)).foldl (fun l p => l.set p.1 p.2) tm).length
      · rw [List.getElem?_eq_getElem ht, Array.getElem?_eq_getElem (by rw [← hfold.1]; exact ht)]
        exact hfold.2 t _ _ (List.getElem?_eq_getElem ht) (Array.getElem?_eq_getElem (by rw [← hfold.1]; exact ht))
      · rw [List.getElem?_eq_none (by omega)]
        exact .d (.undef _)
  refine roundIn_panics (F := wd P none) trivial ?_
  refine wpP_mono (h _ w U I η (some e.b) ⟨e, he, rfl⟩ H3) ?_
  rintro ex a1 w1 ⟨x, s1, I1, η1, j1, ⟨rfl, nf1, pend1, tm1, ps1, as1, bd1, d1, hG1, hbody⟩, j3, j4, j5, j6⟩
  obtain rfl := j1
  obtain ⟨w2, hb, H2, hk2⟩ := beginRound_loop (P := P) j3 (j6 _ _ he) hG1
  refine ⟨w2, hb, ?_⟩
  refine wpP_mono (hbody _ w2 U I1 η1 (some e.b) ⟨e, j6 _ _ he, rfl⟩ H2) ?_
  rintro ex a' w' ⟨x, st', I', η', k1, k2, k3, k4, k5, k6⟩
  have hkk : Keep U I w w' := (j5.trans hk2 j4.le).trans k5 j4.le
  have fin : ∀ jump : Option Code, (∃ nf state pend tm ps assign body d, st'.G[i]? = some (.obj (.loop nf state pend tm ps assign body d)) ∧
      Φ (.ret (.bool jump.isNone)) (st'.G.set i (.obj (.loop nf (if jump.isNone then .ready else .done) jump tm ps assign body d)))) →
      ∃ v w'', (Instr.endRound e.b jump).run P w' = .ok v w'' ∧ next (a.put o.dst v) w'' := by
    rintro jump ⟨nf', state', pend', tm', ps', assign', body', d', g1, g2⟩
    obtain ⟨w3, hr3, H4, hk4⟩ := endRound_loop (P := P) k3 (k6 _ _ (j6 _ _ he)) g1 jump
    refine ⟨_, w3, hr3, h1 (.bool jump.isNone) _ _ w3 I' η' (hq _ _ g2) (.d (.bool _)) ?_ (j4.trans k4) (hkk.trans hk4 (j4.trans k4).le) (j6.trans k6)⟩
    exact H.back H4.bare (hkk.trans hk4 (j4.trans k4).le) (j4.trans k4) (j6.trans k6)
  cases x with
  | normal => obtain rfl := k1; exact fin none k2
  | ret => obtain rfl := k1; exact fin (some .ret) k2
  | exit id => obtain rfl := k1; exact fin (some (.exit id)) k2
  | goto l => obtain rfl := k1; exact fin (some (.goto l)) k2
  | panic v =>
    obtain ⟨u, rfl, hu⟩ := k1
    have hdf := k3.df
    rw [k2.1] at hdf
    exact ⟨hdf.nil_inv, h2 v u _ w' I' η' (hq _ _ k2.2) hu (H.back k3.bare hkk (j4.trans k4) (j6.trans k6)) (j4.trans k4) hkk (j6.trans k6)⟩
end
end Go.Ab
