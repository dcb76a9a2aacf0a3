/- Ab, part 15: panics, deferred calls, recover; how a function leaves. -/
import Derived.Test.YtlflddcbfbdldaaGreatDoorB5
import Derived.RecoverIn
namespace Go.Ab
open Go
section
variable {P : Program} {st : St} {a : Act} {w w' : World} {U I I' : Nat → Prop} {η η' : List Blk}

theorem XW.panic {o : Oper} {x : Operand} (ho : o.op = .panic x) {t : TypeId} {v : V} (hx : st.ev x = .ifc t v) {Q : Out → St → Prop} (hq : Q (.panic (.ifc t v)) st) : XW P o st Q := by
  intro a w U I η r next q H h1 h2
  have hr := H.fits x
  rw [hx] at hr
  obtain ⟨u, hu, hv⟩ := hr.ifc_inv
  refine ⟨aboutOk_run H rfl, ?_⟩
  rw [Oper.semAt_eq _ _ _ (by intro c'; rw [ho]; simp)]
  have hrun : (execOp a.eval o).run P w = .halt (.panic (.iface t u)) w := by
    simp [execOp, ho, hu, Instr.panic, goPanic, Sem.run]
  rw [hrun]
  exact h2 (.ifc t v) (.iface t u) st w I η hq (.ifc t v u hv) H (.refl U I) (.refl U I w) (.refl η)

theorem WL.defer {ops : Array Oper} {o : Oper} {rest : List Oper} {Q : Ex → St → Prop} {c : Call} {g : Operand} {f : Fn} {first caps : List V} {st' : St} (hgd : o.guard = none) (ho : o.op = .defer c) (hc : c.callee = .value g)
    (hg : st.ev g = .fn f first caps) (hp : ({ st with D := .call f caps (first ++ c.args.toList.map st.ev) :: st.D } : St).put o.dst (.tup []) = some st') (h : WL P none ops rest Q st') : WL P none ops (o :: rest) Q st := by
  intro a w U I η r hro H
  obtain rfl : r = none := hro
  unfold wpListIn
  rw [if_pos (by simp [Region.wanted, hgd])]
  have hfg := H.fits g
  rw [hg] at hfg
  obtain ⟨us, vs, he, hx, hy, r1, r2⟩ := hfg.fn_inv
  have hrun : (o.semAt (wd P none).round a.eval).run P w = .ok (.defer { target := .fn f vs, args := us ++ c.args.map a.eval }) w := by
    simp only [wd, Oper.semAt_none, execOp, ho, resolve, hc, he]
    simp [Deferred.ofValue]
  refine ⟨aboutOk_run H rfl, ?_⟩
  rw [hrun]
  have H1 : WR { st with D := .call f caps (first ++ c.args.toList.map st.ev) :: st.D } { a with defers := { target := .fn f vs, args := us ++ c.args.map a.eval } :: a.defers } w U I η :=
    H.bare.full rfl H.size (fun t => H.sl t) (.cons (.call f caps _ vs _ ⟨hy, r2⟩ (RelL.append ⟨hx, r1⟩ (H.fits.args c.args))) H.df)
  obtain ⟨H2, _⟩ := H1.put (u := undef) (.tup [] #[] rfl (fun i v u h => by simp at h)) hp
  exact h _ w U I η none rfl H2

/-! ### Deferred calls -/
def ModeRel (w : World) (I : Nat → Prop) (η : List Blk) : Option V → FrameMode → Prop
  | none, m => m = .returning
  | some v, m => ∃ u, m = .panicking [{ v := u, recovered := false }] ∧ Rel w I η v u

/-- A call that was deferred; behind it the frame returns. -/
def CalD (P : Program) (f : FuncId) (args : List V) (m : Option V) (G : List Ob) (Φ : List Ob → Prop) : Prop :=
  ∀ (us : Array Value) (w : World) (U I : Nat → Prop) (η : List Blk) (mode : FrameMode), WG G w U I η → RelL w I η args us → ModeRel w I η m mode →
    CallsDIn (wd P none) 0 P f us mode w (fun e u' w' => ∃ v G' I' η', e = .returned v ∧ settle u' = .returning ∧ Φ G' ∧ WG G' w' U I' η' ∧ Foot U I I' ∧ Keep U I w w' ∧ Ext η η')

def recV : Option V → V
  | none => .inil
  | some v => v
/-- What the rest of a body that begins with recover must come to. -/
def EndsR (P : Program) (fn : Func) (Φ : List Ob → Prop) : Ex → St → Prop
  | .normal, st => st.D = [] ∧ (resA P fn st).isSome = true ∧ Φ st.G
  | .ret, st => st.D = [] ∧ (resA P fn st).isSome = true ∧ Φ st.G
  | _, _ => False

theorem CalD.of {f : FuncId} {fn : Func} {args : List V} {m : Option V} {G : List Ob} {Φ : List Ob → Prop} {id d0 d1 : Nat} {o0 o1 : Oper} {rest : Code} (hf : P.funcs[f]? = some fn)
    (hb : fn.body = some ((Code.region id #[o0, o1] false).seq rest)) (h0 : o0.op = .call { callee := .builtin .recover, args := #[], argTypes := #[] }) (g0 : o0.guard = none) (e0 : o0.dst = some d0)
    (h1 : o1.op = .assign (.tmp d0)) (g1 : o1.guard = none) (e1 : o1.dst = some d1) (n0 : d0 < args.length + (fn.ntmps - args.length)) (n1 : d1 < args.length + (fn.ntmps - args.length))
    (h : W P none rest (EndsR P fn Φ) (((St.start fn.ntmps args G).set d0 (recV m)).set d1 (recV m))) : CalD P f args m G Φ := by
  intro us w U I η mode H hr hm
  refine callsDIn_of_wpSIn hf hb trivial ?_
  intro c₀ cs hc₀
  refine wpSIn_seq (wpSIn_region ?_)
  have hs := H.start hr fn.ntmps
  have key : ∀ (u : Value) (cs' : List Frame) (k : Frame), cs' = k :: cs → ({ c₀ with mode := k.mode } : Frame) = k → settle k.mode = .returning → Rel w I η (recV m) u → rest.wpSIn (wd P none) 0 P
      (bodyPostS P fn c₀ cs (fun e u' w' => ∃ v G' I' η', e = .returned v ∧ settle u' = .returning ∧ Φ G' ∧ WG G' w' U I' η' ∧ Foot U I I' ∧ Keep U I w w' ∧ Ext η η'))
      (((({ tmps := us ++ Array.replicate (fn.ntmps - us.size) undef, defers := [] } : Act).put (some d0) u)).put (some d1) u) cs' w := by
    intro u cs' k hcs hk hset hu
    refine wpSIn_of_wpIn rfl (wpP.forget ?_)
    obtain ⟨H1, _⟩ := hs.put (d := some d0) (v := recV m) hu (by unfold St.put; exact if_pos n0)
    obtain ⟨H2, _⟩ := H1.put (d := some d1) (v := recV m) hu (by unfold St.put; exact if_pos n1)
    refine wpP_mono (h _ w U I η none rfl H2) ?_
    rintro e a' w' ⟨x, st', I', η', k1, k2, k3, k4, k5, k6⟩
    have fin : (st'.D = [] ∧ (resA P fn st').isSome = true ∧ Φ st'.G) → a'.defers = [] ∧ ∃ u', cs' = { c₀ with mode := u' } :: cs ∧ ∃ v, (results fn a'.tmps).run P w' = .ok v w' ∧
        ∃ v' G' I' η', Ending.returned v = .returned v' ∧ settle u' = .returning ∧ Φ G' ∧ WG G' w' U I' η' ∧ Foot U I I' ∧ Keep U I w w' ∧ Ext η η' := by
      rintro ⟨hd, hv, hΦ⟩
      obtain ⟨v, hv⟩ := Option.isSome_iff_exists.1 hv
      obtain ⟨y, hy, hrel⟩ := resA_run k3 hv
      have hdf := k3.df
      rw [hd] at hdf
      exact ⟨hdf.nil_inv, k.mode, by rw [hk, hcs], y, hy, y, st'.G, I', η', rfl, hset, hΦ, k3.bare, k4, k5, k6⟩
    cases x with
    | normal => obtain rfl := k1; exact fin k2
    | ret => obtain rfl := k1; exact fin k2
    | exit id => exact k2.elim
    | goto l => exact k2.elim
    | panic v => exact k2.elim
  have hab0 : ∀ (ρ : Operand → Value), o0.about P w ρ = none := by
    intro ρ
    simp [Oper.about, h0, resolve, Target.leads]
  have hab1 : ∀ (ρ : Operand → Value), o1.about P w ρ = none := by
    intro ρ
    simp [Oper.about, h1]
  have hex0 : ∀ (ρ : Operand → Value), (execOp ρ o0).run P w = .ok .recover w := by
    intro ρ
    simp [execOp, h0, resolve, invoke, builtin]
  have hex1 : ∀ (ρ : Operand → Value), (execOp ρ o1).run P w = .ok (.value (ρ (.tmp d0))) w := by
    intro ρ
    simp [execOp, h1]
  have hput : ∀ u, (({ tmps := us ++ Array.replicate (fn.ntmps - us.size) undef, defers := [] } : Act).put (some d0) u).eval (.tmp d0) = u := by
    intro u
    rw [Act.eval_put, if_pos ⟨rfl, by
      show d0 < (us ++ Array.replicate (fn.ntmps - us.size) undef).size
      rw [Array.size_append, Array.size_replicate, ← hr.1]
      exact n0⟩]
  show wpOpsSIn (wd P none) 0 P #[o0, o1] _ [0, 1] _ (c₀ :: cs) w
  unfold wpOpsSIn
  simp only [List.getElem?_toArray, List.getElem?_cons_zero]
  refine ⟨fun f hf => (by rw [hab0] at hf; cases hf), ?_⟩
  rw [if_pos (by simp [Region.wanted, g0])]
  rw [hex0]
  have tail : ∀ (u : Value) (cs' : List Frame) (k : Frame), cs' = k :: cs → ({ c₀ with mode := k.mode } : Frame) = k → settle k.mode = .returning → Rel w I η (recV m) u →
      wpOpsSIn (wd P none) 0 P #[o0, o1] (Exit.thenS (rest.wpSIn (wd P none) 0 P (bodyPostS P fn c₀ cs (fun e u' w' => ∃ v G' I' η', e = .returned v ∧ settle u' = .returning ∧ Φ G' ∧ WG G' w' U I' η' ∧ Foot U I I' ∧ Keep U I w w' ∧ Ext η η')))
        (bodyPostS P fn c₀ cs (fun e u' w' => ∃ v G' I' η', e = .returned v ∧ settle u' = .returning ∧ Φ G' ∧ WG G' w' U I' η' ∧ Foot U I I' ∧ Keep U I w w' ∧ Ext η η'))) [1]
        (({ tmps := us ++ Array.replicate (fn.ntmps - us.size) undef, defers := [] } : Act).put (some d0) u) cs' w := by
    intro u cs' k hcs hk hset hu
    unfold wpOpsSIn
    simp only [List.getElem?_toArray, List.getElem?_cons_succ, List.getElem?_cons_zero]
    refine ⟨fun f hf => (by rw [hab1] at hf; cases hf), ?_⟩
    rw [if_pos (by simp [Region.wanted, g1]), hex1]
    simp only [hput, e1]
    unfold wpOpsSIn
    exact key u cs' k hcs hk hset hu
  cases m with
  | none =>
    have hm' : mode = .returning := hm
    have hrd : recoverD (c₀ :: cs) = none := by simp [recoverD, hc₀, hm']
    simp only [hrd, e0]
    exact tail .nilIface (c₀ :: cs) c₀ rfl rfl (by rw [hc₀, hm']; rfl) (.d .inil)
  | some v =>
    obtain ⟨u, hu, hrel⟩ := hm
    have hrd : recoverD (c₀ :: cs) = some (u, { c₀ with mode := .panicking [{ v := u, recovered := true }] } :: cs) := by simp [recoverD, hc₀, hu]
    simp only [hrd, e0]
    exact tail u _ _ rfl rfl (by simp [settle]) hrel

/-! ### How a function leaves -/
def LeaveA (P : Program) (fn : Func) (Φ : Out → List Ob → Prop) : List Df → Option V → St → Prop
  | [], none, st => ∃ v, resA P fn st = some v ∧ Φ (.ret v) st.G
  | [], some v, st => Φ (.panic v) st.G
  | .mark i :: ds, m, st => st.G[i]? = some (.obj (.coll true)) ∧ LeaveA P fn Φ ds m { st with G := st.G.set i (.obj (.coll false)) }
  | .call (.func f) caps args :: ds, m, st => ∃ Φ', enters P f = true ∧ CalD P f (args ++ caps) m st.G Φ' ∧ ∀ G', Φ' G' → LeaveA P fn Φ ds none { st with G := G' }
  | .call _ _ _ :: _, _, _ => False

def EndsM (P : Program) (fn : Func) (Φ : Out → List Ob → Prop) : Ex → St → Prop
  | .normal, st => LeaveA P fn Φ st.D none st
  | .ret, st => LeaveA P fn Φ st.D none st
  | .panic v, st => LeaveA P fn Φ st.D (some v) st
  | _, _ => False

theorem resL_irr (N : Nat) (s : Nat → V) (G : List Ob) (D D' : List Df) : ∀ rs : List ResultVar, resL P ⟨N, s, G, D⟩ rs = resL P ⟨N, s, G, D'⟩ rs
  | [] => rfl
  | r :: rs => by
    simp only [resL, resL_irr N s G D D' rs]
    cases r <;> rfl
theorem LeaveA.run {fn : Func} {Φ : Out → List Ob → Prop} {w0 : World} {U I0 : Nat → Prop} {η0 : List Blk} {N : Nat} {s : Nat → V} {tmps : Array Value} : ∀ (ds : List Df) (xs : List Deferred) (m : Option V) (mode : FrameMode) (G : List Ob) (w : World) (I : Nat → Prop) (η : List Blk),
    LeaveA P fn Φ ds m ⟨N, s, G, []⟩ → WR ⟨N, s, G, []⟩ ⟨tmps, []⟩ w U I η → DfL w I η ds xs → ModeRel w I η m mode → Foot U I0 I → Keep U I0 w0 w → Ext η0 η →
    LeavesInM (wd P none) 0 P fn tmps (CPost Φ w0 U I0 η0) xs mode w
  | [], xs, none, mode, G, w, I, η, h, H, hd, hm, hf, hk, he => by
    cases hd
    obtain rfl := hm
    obtain ⟨v, hv, hΦ⟩ := h
    obtain ⟨u, hu, hr⟩ := resA_run H hv
    exact ⟨u, hu, .ret v, G, I, η, ⟨u, rfl, hr⟩, hΦ, H.bare, hf, hk, he⟩
  | [], xs, some v, mode, G, w, I, η, h, H, hd, hm, hf, hk, he => by
    cases hd
    obtain ⟨u, rfl, hr⟩ := hm
    exact ⟨.panic v, G, I, η, ⟨u, rfl, hr⟩, h, H.bare, hf, hk, he⟩
  | .mark i :: ds, xs, m, mode, G, w, I, η, h, H, hd, hm, hf, hk, he => by
    cases hd with
    | cons hx ht =>
      cases hx with
      | mark i e hη =>
        obtain ⟨hG, h⟩ := h
        obtain ⟨x, hx, hxx⟩ := H.ob i e _ hη hG
        obtain rfl : x = .deferred (some []) := hxx
        obtain ⟨H2, hk2⟩ := H.setObj hη hG (o' := .coll false) (x := .deferred none) rfl
        refine ⟨?_, .inl ⟨e.b, _, rfl, run_takeDeferred hx, ?_⟩⟩
        · cases m with
          | none => obtain rfl := hm; simp
          | some v => obtain ⟨u, rfl, _⟩ := hm; simp
        · refine LeaveA.run ds _ m mode _ _ I η h H2 (ht.mono (fun k h => hk2.block k (.inr h)) (fun _ h => h) (fun _ _ h => h)) ?_ hf (hk.trans hk2 hf.le) he
          cases m with
          | none => exact hm
          | some v =>
            obtain ⟨u, h1, h2⟩ := hm
            exact ⟨u, h1, h2.mono (fun k h => hk2.block k (.inr h)) (fun _ h => h) (fun _ _ h => h)⟩
  | .call f caps args :: ds, xs, m, mode, G, w, I, η, h, H, hd, hm, hf, hk, he => by
    cases hd with
    | cons hx ht =>
      cases hx with
      | call f caps args us vs h1 h2 =>
        cases f with
        | func f =>
          obtain ⟨Φ', hent, hcal, hnext⟩ := h
          refine ⟨?_, .inr ⟨fun hh => by simp [wd] at hh, .func f, us, f, vs ++ us, rfl, by simp [invoke, run_callFunc hent], ?_, ?_⟩⟩
          · cases m with
            | none => obtain rfl := hm; simp
            | some v => obtain ⟨u, rfl, _⟩ := hm; simp
          · intro g hg
            simp only [Target.leads, Option.some.injEq] at hg
            subst hg
            trivial
          · obtain ⟨hF, hc⟩ := hcal (vs ++ us) w U I η mode H.bare (h2.append h1) hm
            refine ⟨hF, fun c cs hc0 hroom => ?_⟩
            obtain ⟨e, u', w', fr, ⟨v, G', I', η', rfl, hset, hΦ, g1, g2, g3, g4⟩, hrest⟩ := hc c cs hc0 hroom
            refine ⟨_, u', w', fr, ?_, hrest⟩
            simp only [hset]
            exact LeaveA.run ds _ none .returning G' w' I' η' (hnext G' hΦ) (H.back g1 g3 g2 g4) (ht.mono (fun k h => g3.block k (.inr h)) g2.le g4) rfl (hf.trans g2) (hk.trans g3 hf.le) (he.trans g4)
        | method n => exact h.elim
        | methodOf t n => exact h.elim
        | via t p f b => exact h.elim
        | yield l => exact h.elim

/-- A function's contract, out of its body's walk; ranges over functions and deferred calls are let in. -/
theorem Cal.ofM {f : FuncId} {fn : Func} {c : Code} {args : List V} {G : List Ob} {Φ : Out → List Ob → Prop} (hf : P.funcs[f]? = some fn) (hb : fn.body = some c)
    (h : W P none c (fun x st => EndsM P fn Φ x st) (St.start fn.ntmps args G)) : Cal P f args G Φ := by
  intro us w U I η H hr
  refine callsIn_of_wp_marks hf hb trivial (wpP_mono (h _ w U I η none rfl (H.start hr fn.ntmps)) ?_).forget
  rintro e a' w' ⟨x, st', I', η', h1, h2, h3, h4, h5, h6⟩
  have irr : ∀ (D D' : List Df) (m : Option V) (N : Nat) (s : Nat → V) (G : List Ob), LeaveA P fn Φ D m ⟨N, s, G, D'⟩ → LeaveA P fn Φ D m ⟨N, s, G, []⟩ := by
    intro D
    induction D with
    | nil =>
      intro D' m N s G h
      cases m with
      | none =>
        obtain ⟨v, hv, hΦ⟩ := h
        refine ⟨v, ?_, hΦ⟩
        unfold resA at hv ⊢
        rw [resL_irr N s G [] D']
        exact hv
      | some v => exact h
    | cons d ds ih =>
      intro D' m N s G h
      cases d with
      | mark i => exact ⟨h.1, ih _ _ _ _ _ h.2⟩
      | call f caps args =>
        cases f with
        | func f => obtain ⟨Φ', a, b, c⟩ := h; exact ⟨Φ', a, b, fun G' hG => ih _ _ _ _ _ (c G' hG)⟩
        | method n => exact h.elim
        | methodOf t n => exact h.elim
        | via t p f b => exact h.elim
        | yield l => exact h.elim
  have H' : WR ⟨st'.N, st'.s, st'.G, []⟩ ⟨a'.tmps, []⟩ w' U I' η' := h3.bare.full rfl h3.size (fun t => h3.sl t) .nil
  cases x with
  | normal => obtain rfl := h1; exact LeaveA.run _ _ none .returning _ _ _ _ (irr _ _ _ _ _ _ h2) H' h3.df rfl h4 h5 h6
  | ret => obtain rfl := h1; exact LeaveA.run _ _ none .returning _ _ _ _ (irr _ _ _ _ _ _ h2) H' h3.df rfl h4 h5 h6
  | exit id => exact h2.elim
  | goto l => exact h2.elim
  | panic v =>
    obtain ⟨u, rfl, hu⟩ := h1
    exact LeaveA.run _ _ (some v) _ _ _ _ _ (irr _ _ _ _ _ _ h2) H' h3.df ⟨u, rfl, hu⟩ h4 h5 h6
end
end Go.Ab
