/- Ab, part 12: calls: contracts over abstract values. -/
import Derived.Test.YtlflddcbfbdldaaGreatDoorB2
import Derived.RangeFuncLeaves
namespace Go.Ab
open Go

/-- What holds of the objects alone. -/
def WG (G : List Ob) (w : World) (U I : Nat → Prop) (η : List Blk) : Prop := WR ⟨0, fun _ => .undef, G, []⟩ ⟨#[], []⟩ w U I η

section
variable {P : Program} {st : St} {a : Act} {w w' : World} {U I I' : Nat → Prop} {η η' : List Blk}

theorem WR.bare (H : WR st a w U I η) : WG st.G w U I η :=
  ⟨rfl, H.len, H.lt, H.inj, H.mt, H.frz, H.ob, fun t => .d (.undef _), .nil, H.glb⟩
theorem WG.full {G : List Ob} (H : WG G w U I η) {st : St} {a : Act} (hG : st.G = G) (hs : a.tmps.size = st.N) (hl : ∀ t, Rel w I η (st.s t) (a.eval (.tmp t))) (hd : DfL w I η st.D a.defers) : WR st a w U I η := by
  subst hG
  exact ⟨hs, H.len, H.lt, H.inj, H.mt, H.frz, H.ob, hl, hd, H.glb⟩
/-- An activation goes on in a later world. -/
theorem WR.back (H : WR st a w U I η) {G' : List Ob} (H' : WG G' w' U I' η') (hk : Keep U I w w') (hf : Foot U I I') (he : Ext η η') : WR { st with G := G' } a w' U I' η' :=
  H'.full rfl H.size (fun t => (H.sl t).mono (fun k h => hk.block k (.inr h)) hf.le he) (H.df.mono (fun k h => hk.block k (.inr h)) hf.le he)

inductive Out where
  | ret (v : V)
  | panic (v : V)
def Out.is (w : World) (I : Nat → Prop) (η : List Blk) : Out → Ending → Prop
  | .ret v, e => ∃ u, e = .returned u ∧ Rel w I η v u
  | .panic v, e => ∃ u, e = .panicked [{ v := u, recovered := false }] ∧ Rel w I η v u

def CPost (Φ : Out → List Ob → Prop) (w : World) (U I : Nat → Prop) (η : List Blk) : Ending → World → Prop :=
  fun e w' => ∃ x G' I' η', x.is w' I' η' e ∧ Φ x G' ∧ WG G' w' U I' η' ∧ Foot U I I' ∧ Keep U I w w' ∧ Ext η η'

/-- A function's contract: from these arguments and objects, such outcomes and objects. -/
def Cal (P : Program) (f : FuncId) (args : List V) (G : List Ob) (Φ : Out → List Ob → Prop) : Prop :=
  ∀ (us : Array Value) (w : World) (U I : Nat → Prop) (η : List Blk), WG G w U I η → RelL w I η args us → CallsIn (wd P none) 0 P f us w (CPost Φ w U I η)

theorem CPost.mono {Φ Φ' : Out → List Ob → Prop} (h : ∀ x G, Φ x G → Φ' x G) {e : Ending} (k : CPost Φ w U I η e w') : CPost Φ' w U I η e w' := by
  obtain ⟨x, G', I', η', h1, h2, h3⟩ := k
  exact ⟨x, G', I', η', h1, h _ _ h2, h3⟩
theorem Cal.mono {f : FuncId} {args : List V} {G : List Ob} {Φ Φ' : Out → List Ob → Prop} (h : Cal P f args G Φ) (hq : ∀ x G, Φ x G → Φ' x G) : Cal P f args G Φ' :=
  fun us w U I η H hr => (h us w U I η H hr).mono fun _ _ k => k.mono hq

/-- A function with a body. -/
def enters (P : Program) (f : FuncId) : Bool :=
  match P.funcs[f]? with
  | some fn => fn.body.isSome && !(fn.name == "runtime.NumGoroutine")
  | none => false
theorem enters_lt {f : FuncId} (h : enters P f = true) : f < P.funcs.size := by
  unfold enters at h
  split at h
  · rename_i fn hf; exact (Array.getElem?_eq_some_iff.1 hf).1
  · cases h
theorem run_callFunc {f : FuncId} (h : enters P f = true) (args : Array Value) (w : World) : (callFunc f args).run P w = .ok (.enter f args) w := by
  unfold enters at h
  split at h
  · rename_i fn hf
    simp only [Bool.and_eq_true, Bool.not_eq_true', beq_eq_false_iff_ne] at h
    have hb : fn.body ≠ none := by intro hb; simp [hb] at h
    have hn : ¬ fn.name = "runtime.NumGoroutine" := by simpa using h.2
    simp [callFunc, hf, hn, hb]
  · cases h

theorem RelL.append {cs ds : List V} {us vs : Array Value} (h : RelL w I η cs us) (k : RelL w I η ds vs) : RelL w I η (cs ++ ds) (us ++ vs) := by
  refine ⟨by simp [h.1, k.1], fun i v u hv hu => ?_⟩
  rw [List.getElem?_append] at hv
  rw [Array.getElem?_append] at hu
  rw [h.1] at hv
  split at hv
  · rename_i hi
    rw [if_pos hi] at hu
    exact h.2 i v u hv hu
  · rename_i hi
    rw [if_neg hi] at hu
    exact k.2 _ v u hv hu
theorem Fits.args {ev : Operand → V} {ρ : Operand → Value} (h : Fits w I η ev ρ) (xs : Array Operand) : RelL w I η (xs.toList.map ev) (xs.map ρ) := by
  refine ⟨by simp, fun i v u hv hu => ?_⟩
  simp only [List.getElem?_map, Array.getElem?_map, Option.map_eq_some_iff, Array.getElem?_toList] at hv hu
  obtain ⟨x, hx, rfl⟩ := hv
  obtain ⟨y, hy, rfl⟩ := hu
  rw [hx] at hy
  injection hy with hy
  subst hy
  exact h x

/-- One operation, by what it does to a state: its value and the state behind it, or a panic. -/
def XW (P : Program) (o : Oper) (st : St) (Q : Out → St → Prop) : Prop :=
  ∀ (a : Act) (w : World) (U I : Nat → Prop) (η : List Blk) (r : Option Nat) (next : Act → World → Prop) (q : Exit → Act → World → Prop), WR st a w U I η →
    (∀ v u st' w' I' η', Q (.ret v) st' → Rel w' I' η' v u → WR st' a w' U I' η' → Foot U I I' → Keep U I w w' → Ext η η' → next (a.put o.dst u) w') →
    (∀ v u st' w' I' η', Q (.panic v) st' → Rel w' I' η' v u → WR st' a w' U I' η' → Foot U I I' → Keep U I w w' → Ext η η' → q (.panic [{ v := u, recovered := false }]) a w') →
    o.wpIn (wd P r) 0 P a w next q

theorem XW.quiet {o : Oper} {v : V} {st' : St} (h : absX P st o.op = some (v, st')) (hnd : ∀ c, o.op ≠ .defer c) {Q : Out → St → Prop} (hq : Q (.ret v) st') : XW P o st Q := by
  intro a w U I η r next q H h1 h2
  obtain ⟨nx, u, w', η', hr, hnx, hv, H', hk, hx⟩ := absX_run (P := P) H h
  refine ⟨fun f hf => (by rw [about_quiet h] at hf; cases hf), ?_⟩
  rw [Oper.semAt_eq _ _ _ hnd, hr]
  rcases hnx with rfl | ⟨rfl, rfl⟩
  · exact h1 v u st' w' I η' hq hv H' (.refl U I) hk hx
  · exact h1 v undef st' w' I η' hq hv H' (.refl U I) hk hx

/-- A call of a function value that is known. -/
theorem XW.call {o : Oper} {c : Call} {g : Operand} (ho : o.op = .call c) (hc : c.callee = .value g) {f : FuncId} {first caps : List V} (hg : st.ev g = .fn (.func f) first caps) (hent : enters P f = true)
    {Φ : Out → List Ob → Prop} (h : Cal P f (first ++ c.args.toList.map st.ev ++ caps) st.G Φ) {Q : Out → St → Prop} (hq : ∀ x G', Φ x G' → Q x { st with G := G' }) : XW P o st Q := by
  intro a w U I η r next q H h1 h2
  have F := H.fits
  have hfg := F g
  rw [hg] at hfg
  obtain ⟨us, vs, he, hx, hy, r1, r2⟩ := hfg.fn_inv
  have hargs : RelL w I η (first ++ c.args.toList.map st.ev ++ caps) (us ++ c.args.map a.eval ++ vs) := ((RelL.append ⟨hx, r1⟩ (F.args c.args)).append ⟨hy, r2⟩)
  have hrun : (execOp a.eval o).run P w = .ok (.enter f (us ++ c.args.map a.eval ++ vs)) w := by
    simp only [execOp, ho, resolve, hc, Sem.run_bind]
    rw [he]
    simp [Deferred.ofValue, invoke, run_callFunc hent]
  refine ⟨aboutOk_run H rfl, ?_⟩
  rw [Oper.semAt_eq _ _ _ (by intro c'; rw [ho]; simp), hrun]
  refine ⟨fun hh => by simp [wd] at hh, ?_⟩
  refine CallsIn.mono (h _ w U I η H.bare hargs) ?_
  rintro e w' ⟨x, G', I', η', k1, k2, k3, k4, k5, k6⟩
  cases x with
  | ret v =>
    obtain ⟨u, rfl, hu⟩ := k1
    exact h1 v u _ w' I' η' (hq _ _ k2) hu (H.back k3 k5 k4 k6) k4 k5 k6
  | panic v =>
    obtain ⟨u, rfl, hu⟩ := k1
    exact h2 v u _ w' I' η' (hq _ _ k2) hu (H.back k3 k5 k4 k6) k4 k5 k6

/-- One operation of a region, whatever it is. -/
theorem WL.op {rd : Option Nat} {ops : Array Oper} {o : Oper} {rest : List Oper} {Q : Ex → St → Prop} {R : Out → St → Prop} (hw : ∀ j want, o.guard = some (j, want) → yieldA ops st j = some (some want)) (hx : XW P o st R)
    (h : ∀ v st', R (.ret v) st' → ∃ st'', st'.put o.dst v = some st'' ∧ WL P rd ops rest Q st'') (hp : ∀ v st', R (.panic v) st' → Q (.panic v) st') : WL P rd ops (o :: rest) Q st := by
  intro a w U I η r hro H
  unfold wpListIn
  have hwt : Region.wanted o (yielded ops a.tmps) = true := by
    cases hg : o.guard with
    | none => simp [Region.wanted, hg]
    | some jw =>
      obtain ⟨j, want⟩ := jw
      rw [H.wanted hg (hw j want hg)]
      simp
  rw [if_pos hwt]
  refine hx a w U I η r _ _ H ?_ ?_
  · intro v u st' w' I' η' hR hu H' hf hk he
    obtain ⟨st'', hput, hgo⟩ := h v st' hR
    obtain ⟨H2, _⟩ := H'.put hu hput
    exact wpListIn_mono (fun _ _ _ hp => hp.later hk hf he) rest _ _ (hgo _ w' U I' η' r (hro.ext he) H2)
  · intro v u st' w' I' η' hR hu H' hf hk he
    exact ⟨.panic v, st', I', η', ⟨u, rfl, hu⟩, hp v st' hR, H', hf, hk, he⟩
end

/-! ### A function's contract, out of its body's walk -/
/-- The state in which a function begins. -/
def St.start (n : Nat) (args : List V) (G : List Ob) : St := { N := args.length + (n - args.length), s := fun t => args.getD t .undef, G := G, D := [] }
theorem WG.start {G : List Ob} {w : World} {U I : Nat → Prop} {η : List Blk} (H : WG G w U I η) {args : List V} {us : Array Value} (h : RelL w I η args us) (n : Nat) :
    WR (St.start n args G) { tmps := us ++ Array.replicate (n - us.size) undef, defers := [] } w U I η := by
  refine H.full rfl (by simp [St.start, h.1]) (fun t => ?_) .nil
  simp only [St.start, Act.eval, Array.getD_eq_getD_getElem?, List.getD_eq_getElem?_getD]
  by_cases ht : t < args.length
  · have ht' : t < us.size := by have := h.1; omega
    rw [List.getElem?_eq_getElem ht, Array.getElem?_append_left ht', Array.getElem?_eq_getElem ht']
    exact h.2 t _ _ (List.getElem?_eq_getElem ht) (Array.getElem?_eq_getElem ht')
  · rw [List.getElem?_eq_none (by omega)]
    exact .d (.undef _)

def resV (P : Program) (st : St) : ResultVar → Option V
  | .tmp t => some (st.s t)
  | .cell t ty => absLoad P st ty (st.s t)
def resL (P : Program) (st : St) : List ResultVar → Option (List V)
  | [] => some []
  | r :: rs => (resV P st r).bind fun v => (resL P st rs).map (v :: ·)
/-- What a function hands back. -/
def resA (P : Program) (fn : Func) (st : St) : Option V :=
  (resL P st fn.results.toList).map fun vs => match vs with
    | [v] => v
    | vs => .tup vs

def rdRes (tmps : Array Value) : ResultVar → Sem Value
  | .tmp t => pure (tmps.getD t undef)
  | .cell a t => do loadVar t (← asAddr (tmps.getD a undef))
theorem results_eq (fn : Func) (tmps : Array Value) : results fn tmps = (do
    let vs ← fn.results.mapM (rdRes tmps)
    pure (if h : vs.size = 1 then vs[0] else .tuple vs)) := by
  unfold results
  congr 1

theorem resL_run {P : Program} {st : St} {a : Act} {w : World} {U I : Nat → Prop} {η : List Blk} (H : WR st a w U I η) : ∀ (rs : List ResultVar) (vs : List V), resL P st rs = some vs →
    ∃ us : List Value, (rs.mapM (rdRes a.tmps)).run P w = Result.ok us w ∧ RelL w I η vs us.toArray
  | [], vs, h => by
    simp only [resL, Option.some.injEq] at h
    subst h
    exact ⟨[], by simp, rfl, fun i v u hv => by simp at hv⟩
  | r :: rs, vs, h => by
    simp only [resL] at h
    obtain ⟨v, hv, h⟩ := Option.bind_eq_some_iff.1 h
    obtain ⟨vs', hvs, rfl⟩ := Option.map_eq_some_iff.1 h
    obtain ⟨us, hrun, hrel⟩ := resL_run H rs vs' hvs
    have hone : ∃ u, (rdRes a.tmps r).run P w = Result.ok u w ∧ Rel w I η v u := by
      cases r with
      | tmp t =>
        simp only [resV, Option.some.injEq] at hv
        subst hv
        exact ⟨_, rfl, H.sl t⟩
      | cell t ty =>
        simp only [resV] at hv
        have hs := H.sl t
        simp only [Act.eval] at hs
        unfold absLoad at hv
        obtain ⟨⟨agg, n⟩, hsh, hv⟩ := Option.bind_eq_some_iff.1 hv
        obtain ⟨⟨cs, off⟩, hb, hv⟩ := Option.bind_eq_some_iff.1 hv
        obtain ⟨b, o, hu, hc⟩ := behind_cells H hs hb
        obtain ⟨u, hl, hr⟩ := run_loadVar_cells hsh hv b o hc
        refine ⟨u, ?_, hr⟩
        simp only [rdRes]
        rw [hu]
        simp [asAddr, hl]
    obtain ⟨u, hu, hr⟩ := hone
    refine ⟨u :: us, ?_, ?_⟩
    · rw [List.mapM_cons]
      simp only [Sem.run_bind, hu, Result.andThen_ok, hrun, Sem.run_pure]
    · refine ⟨by have := hrel.1; simp at this; simp [this], fun i v' u' hv' hu' => ?_⟩
      cases i with
      | zero => simp at hv' hu'; subst hv'; subst hu'; exact hr
      | succ i => exact hrel.2 i v' u' (by simpa using hv') (by simpa using hu')

theorem resA_run {P : Program} {fn : Func} {st : St} {a : Act} {w : World} {U I : Nat → Prop} {η : List Blk} (H : WR st a w U I η) {v : V} (h : resA P fn st = some v) :
    ∃ u, (results fn a.tmps).run P w = .ok u w ∧ Rel w I η v u := by
  unfold resA at h
  obtain ⟨vs, hvs, h⟩ := Option.map_eq_some_iff.1 h
  obtain ⟨us, hrun, hrel⟩ := resL_run H _ vs hvs
  refine ⟨if hh : us.toArray.size = 1 then us.toArray[0] else .tuple us.toArray, ?_, ?_⟩
  · rw [results_eq, Array.mapM_eq_mapM_toList]
    simp only [Sem.run_bind, Sem.run_map, hrun, Result.andThen_ok]
    rfl
  · split at h
    · subst h
      rename_i v
      have hl := hrel.1
      simp at hl
      obtain ⟨u, rfl⟩ : ∃ u, us = [u] := by
        match us, hl with
        | [u], _ => exact ⟨u, rfl⟩
      simpa using hrel.2 0 v u rfl rfl
    · subst h
      rename_i hne
      have hl := hrel.1
      rw [dif_neg (by
        intro h1
        match vs, hne, hl.trans h1 with
        | [v], hne, _ => exact hne v rfl)]
      exact .tup _ _ hrel.1 hrel.2

/-- What a body must come to, where nothing was deferred. -/
def Ends (P : Program) (fn : Func) (Φ : Out → List Ob → Prop) : Ex → St → Prop
  | .normal, st => st.D = [] ∧ ∃ v, resA P fn st = some v ∧ Φ (.ret v) st.G
  | .ret, st => st.D = [] ∧ ∃ v, resA P fn st = some v ∧ Φ (.ret v) st.G
  | .panic v, st => st.D = [] ∧ Φ (.panic v) st.G
  | _, _ => False

theorem DfL.nil_inv {w : World} {I : Nat → Prop} {η : List Blk} {ds : List Deferred} (h : DfL w I η [] ds) : ds = [] := by cases h; rfl

/-- A function's contract, out of its body's walk. -/
theorem Cal.of {P : Program} {f : FuncId} {fn : Func} {c : Code} {args : List V} {G : List Ob} {Φ : Out → List Ob → Prop} (hf : P.funcs[f]? = some fn) (hb : fn.body = some c)
    (h : W P none c (Ends P fn Φ) (St.start fn.ntmps args G)) : Cal P f args G Φ := by
  intro us w U I η H hr
  refine callsIn_of_wp hf hb trivial (wpP_mono (h _ w U I η none rfl (H.start hr fn.ntmps)) ?_).forget
  rintro e a' w' ⟨x, st', I', η', h1, h2, h3, h4, h5, h6⟩
  have fin : (st'.D = [] ∧ ∃ v, resA P fn st' = some v ∧ Φ (.ret v) st'.G) → a'.defers = [] ∧ ∃ v, (results fn a'.tmps).run P w' = .ok v w' ∧ CPost Φ w U I η (.returned v) w' := by
    rintro ⟨hd, v, hv, hΦ⟩
    obtain ⟨u, hu, hrel⟩ := resA_run h3 hv
    have hdf := h3.df
    rw [hd] at hdf
    exact ⟨hdf.nil_inv, u, hu, .ret v, st'.G, I', η', ⟨u, rfl, hrel⟩, hΦ, h3.bare, h4, h5, h6⟩
  cases x with
  | normal => obtain rfl := h1; exact fin h2
  | ret => obtain rfl := h1; exact fin h2
  | exit id => exact h2.elim
  | goto l => exact h2.elim
  | panic v =>
    obtain ⟨u, rfl, hu⟩ := h1
    have hdf := h3.df
    rw [h2.1] at hdf
    exact ⟨hdf.nil_inv, .panic v, st'.G, I', η', ⟨u, rfl, hu⟩, h2.2, h3.bare, h4, h5, h6⟩
end Go.Ab
