/- Ab, part 14: the statement that ranges over a function; how a function leaves that has marks or deferred calls; functions on data. -/
import Derived.Test.YtlflddcbfbdldaaGreatDoorB4
namespace Go.Ab
open Go
section
variable {P : Program} {st : St} {a : Act} {w w' : World} {U I I' : Nat → Prop} {η η' : List Blk}

/-! ### Functions on data: the frame rule -/
def dataL (vs : List V) : Prop := ∀ v ∈ vs, v.isData = true
theorem RelL.bare {vs : List V} {us : Array Value} (h : RelL w I η vs us) (hd : dataL vs) (η' : List Blk) : RelL w I η' vs us :=
  ⟨h.1, fun i v u hv hu => .d ((h.2 i v u hv hu).data (hd v (List.mem_of_getElem? hv)))⟩

def Out.isData : Out → Prop
  | .ret v => v.isData = true
  | .panic v => v.isData = true

/-- From data to data: whatever else there is stays. -/
theorem Cal.frame {f : FuncId} {args : List V} (hd : dataL args) {Φ : Out → Prop} (h : Cal P f args [] (fun x _ => Φ x ∧ x.isData)) (G : List Ob) : Cal P f args G (fun x G' => Φ x ∧ x.isData ∧ G' = G) := by
  intro us w U I η H hr
  let U' : Nat → Prop := fun k => U k ∨ ∃ (i : Nat) (e : Blk) (o : Ob), η[i]? = some e ∧ G[i]? = some o ∧ o.live = true ∧ k = e.b
  have H0 : WG [] w U' I [] := by
    refine ⟨rfl, rfl, ?_, fun i j e e' o o' h1 => by simp at h1, fun i e o h1 => by simp at h1, fun i e o h1 => by simp at h1, fun i e o h1 => by simp at h1, fun t => .d (.undef _), .nil, H.glb⟩
    rintro k ((hk | ⟨i, e, o, h1, h2, h3, rfl⟩) | hk)
    · exact H.lt k (.inl hk)
    · exact (H.ob i e o h1 h2).lt h3
    · exact H.lt k (.inr hk)
  refine (h us w U' I [] H0 (hr.bare hd [])).mono ?_
  rintro e w' ⟨x, G', I', η', k1, ⟨k2, k2'⟩, k3, k4, k5, k6⟩
  have hI' : ∀ k, I' k → k < w'.heap.size := fun k hk => k3.lt k (.inr hk)
  have hk : Keep U I w w' := ⟨k5.os, k5.tape, k5.output, k5.size, fun k hk => k5.block k (hk.imp .inl id)⟩
  have hfoot : Foot U I I' := ⟨k4.le, fun k hk => (k4.new k hk).imp id (fun h hu => h (.inl hu))⟩
  have Hw : WG G w' U I' η := WR.world H hk (fun i e o h1 h2 h3 => k5.block _ (.inl (.inr ⟨i, e, o, h1, h2, h3, rfl⟩))) k4.le hI' (fun i e o h1 h2 h3 hi => by
    rcases k4.new _ hi with hh | hh
    · exact (H.mt i e o h1 h2 h3).2 hh
    · exact hh (.inr ⟨i, e, o, h1, h2, Ob.mut_live h3, rfl⟩))
  refine ⟨x, G, I', η, ?_, ⟨k2, k2', rfl⟩, Hw, hfoot, hk, .refl η⟩
  cases x with
  | ret v =>
    obtain ⟨u, rfl, hu⟩ := k1
    exact ⟨u, rfl, .d (hu.data k2')⟩
  | panic v =>
    obtain ⟨u, rfl, hu⟩ := k1
    exact ⟨u, rfl, .d (hu.data k2')⟩

/-- 'f' is a function on data: of 'args' it makes 'v'. -/
def Fn1 (P : Program) (f : FuncId) (args : List V) (v : V) : Prop := ∀ G, Cal P f args G (fun x G' => x = .ret v ∧ G' = G)
theorem Fn1.of {f : FuncId} {fn : Func} {c : Code} {args : List V} {v : V} (hf : P.funcs[f]? = some fn) (hb : fn.body = some c) (hd : dataL args) (hv : v.isData = true)
    (h : W P none c (Ends P fn (fun x _ => x = .ret v)) (St.start fn.ntmps args [])) : Fn1 P f args v := fun G =>
  (Cal.frame hd (Φ := fun x => x = .ret v) ((Cal.of hf hb h).mono fun x _ hx => ⟨hx, by subst hx; exact hv⟩) G).mono fun x G' hx => ⟨hx.1, hx.2.2⟩

/-! ### A range over a function -/
theorem WR.tmps (H : WR st a w U I η) : RelL w I η ((List.range st.N).map st.s) a.tmps := by
  refine ⟨by simp [H.size], fun i v u hv hu => ?_⟩
  rw [List.getElem?_map] at hv
  obtain ⟨j, hj, rfl⟩ := Option.map_eq_some_iff.1 hv
  have : i < st.N := by have := (List.getElem?_eq_some_iff.1 hj).1; simpa using this
  rw [List.getElem?_range this] at hj
  injection hj with hj
  subst hj
  have hs := H.sl i
  simp only [Act.eval, Array.getD_eq_getD_getElem?, hu, Option.getD_some] at hs
  exact hs

/-- What the function that is ranged over must come to. -/
def RangeQ (P : Program) (rd : Option Nat) (Q : Ex → St → Prop) (L : Nat) (st : St) (D : List Df) : Out → List Ob → Prop
  | .ret _, G' => ∃ nf state pend tm ps as bd d, G'[L]? = some (.obj (.loop nf state pend tm ps as bd d)) ∧ state ≠ .busy ∧
      match pend with
      | none => Q .normal { st with G := G'.set L (.obj (.loop nf .exhausted pend tm ps as bd d)), D := D }
      | some c => W P rd c Q { st with G := G'.set L (.obj (.loop nf .exhausted pend tm ps as bd d)), D := D }
  | .panic v, G' => Q (.panic v) { st with G := G', D := D }

theorem range_back {rd r : Option Nat} {Q : Ex → St → Prop} {L : Nat} {D : List Df} {mark : List Deferred} {w1 : World} {η1 : List Blk} {e : Blk} {Φ : Out → List Ob → Prop} (H : WR st a w U I η) (hro : Ro η rd r) (hL : η1[L]? = some e) (hx : Ext η η1) (hk1 : Keep U I w w1)
    (hD : DfL w1 I η1 D (mark ++ a.defers)) (hq : ∀ x G', Φ x G' → RangeQ P rd Q L st D x G') {en : Ending} (k : CPost Φ w1 U I η1 en w') :
    rangeP (wd P r) 0 P e.b (Post Q w U I η) { a with defers := mark ++ a.defers } en w' := by
  obtain ⟨x, G', I', η', k1, k2, k3, k4, k5, k6⟩ := k
  have hR := hq x G' k2
  have hkk := hk1.trans k5 (fun _ h => h)
  have hxx := hx.trans k6
  have Hb : ∀ {G'' : List Ob} {w2 : World}, WG G'' w2 U I' η' → Keep U I' w' w2 → WR { st with G := G'', D := D } { a with defers := mark ++ a.defers } w2 U I' η' := fun hg hk2 =>
    hg.full rfl H.size (fun t => (H.sl t).mono (fun k h => ((hkk.trans hk2 k4.le).block k (.inr h))) k4.le hxx) (hD.mono (fun k h => ((k5.trans hk2 k4.le).block k (.inr h))) k4.le k6)
  cases x with
  | ret v =>
    obtain ⟨u, rfl, hu⟩ := k1
    obtain ⟨nf, state, pend, tm, ps, as, bd, d, hG, hs, hR⟩ := hR
    obtain ⟨w2, hend, H2, hk2⟩ := endLoop_loop (P := P) k3 (k6 _ _ hL) hG hs
    refine ⟨pend, w2, hend, ?_⟩
    cases pend with
    | none => exact ⟨.normal, _, I', η', rfl, hR, Hb H2 hk2, k4, hkk.trans hk2 k4.le, hxx⟩
    | some c => exact wpP_mono (hR _ w2 U I' η' r (hro.ext hxx) (Hb H2 hk2)) fun _ _ _ hp => hp.later (hkk.trans hk2 k4.le) k4 hxx
  | panic v =>
    obtain ⟨u, rfl, hu⟩ := k1
    exact ⟨.panic v, _, I', η', ⟨u, rfl, hu⟩, hR, Hb k3 (.refl U I' w'), k4, hkk, hxx⟩

theorem Ext.push (η : List Blk) (l : List Blk) : Ext η (η ++ l) := fun i e h => by
  rw [List.getElem?_append_left (List.getElem?_eq_some_iff.1 h).1]; exact h

theorem range_call {g : Operand} {f : FuncId} {first caps : List V} (hg : st.ev g = .fn (.func f) first caps) (hent : enters P f = true) (H : WR st a w U I η) {l : Nat} {w1 : World} :
    ∃ us vs : Array Value, first.length = us.size ∧ caps.length = vs.size ∧ RelL w I η first us ∧ RelL w I η caps vs ∧
      (resolve a.eval (rangeCall g l) 0).run P w1 = .ok { target := .fn (.func f) vs, args := us ++ #[.func (.yield l) #[] #[]] } w1 ∧
      (invoke (.fn (.func f) vs) (us ++ #[.func (.yield l) #[] #[]])).run P w1 = .ok (.enter f (us ++ #[.func (.yield l) #[] #[]] ++ vs)) w1 := by
  have hfg := H.fits g
  rw [hg] at hfg
  obtain ⟨us, vs, he, hx, hy, r1, r2⟩ := hfg.fn_inv
  refine ⟨us, vs, hx, hy, ⟨hx, r1⟩, ⟨hy, r2⟩, ?_, ?_⟩
  · simp only [resolve, rangeCall, he]
    simp [Deferred.ofValue, Act.eval]
  · simp [invoke, run_callFunc hent]

theorem W.rangeOuter {g : Operand} {ps : Array Tmp} {assign body : Code} {Q : Ex → St → Prop} {f : FuncId} {first caps : List V} (hg : st.ev g = .fn (.func f) first caps) (hent : enters P f = true) {Φ : Out → List Ob → Prop}
    (h : Cal P f (first ++ [.yld (st.G.length + 1)] ++ caps) (st.G ++ [.obj (.coll true), .obj (.loop P.funcs.size .ready none ((List.range st.N).map st.s) ps assign body st.G.length)]) Φ)
    (hq : ∀ x G', Φ x G' → RangeQ P none Q (st.G.length + 1) st (.mark st.G.length :: st.D) x G') : W P none (.rangeFunc g ps assign body) Q st := by
  intro a w U I η r hro H
  have hro' := hro
  obtain rfl : r = none := hro
  refine wpP_rangeFunc fun fn hfn => ?_
  obtain ⟨us, vs, hx, hy, r1, r2, hres, hinv⟩ := range_call (P := P) (l := w.heap.size + 1) (w1 := (w.alloc (.deferred (some []))).alloc (.loop { state := .ready, pending := none, fn, tmps := a.tmps, params := ps, assign, body, defers := w.heap.size })) hg hent H
  have H1 : WR { st with G := st.G ++ [.obj (.coll true)] } a (w.alloc (.deferred (some []))) U I (η ++ [⟨w.heap.size, 0, 0⟩]) := H.newObj (o := .coll true) rfl
  have hl1 : η.length = st.G.length := H.len
  have H2 := H1.newObj (o := .loop P.funcs.size .ready none ((List.range st.N).map st.s) ps assign body st.G.length) (x := .loop { state := .ready, pending := none, fn, tmps := a.tmps, params := ps, assign, body, defers := w.heap.size }) ⟨⟨w.heap.size, 0, 0⟩, fn, a.tmps, rfl, by
      rw [← hl1, List.append_assoc, List.getElem?_append_right (Nat.le_refl _)]; simp, rfl, H1.tmps.mono (fun _ _ => rfl) (fun _ h => h) (Ext.push _ _)⟩
  simp only [List.append_assoc, List.cons_append, List.nil_append] at H2
  have hsz : (w.alloc (.deferred (some []))).heap.size = w.heap.size + 1 := by simp
  rw [hsz] at H2
  have hk1 : Keep U I w ((w.alloc (.deferred (some []))).alloc (.loop { state := .ready, pending := none, fn, tmps := a.tmps, params := ps, assign, body, defers := w.heap.size })) :=
    (Keep.alloc U I w _ H.lt).trans (Keep.alloc U I _ _ H1.lt) (fun _ h => h)
  have hx1 : Ext η (η ++ [⟨w.heap.size, 0, 0⟩, ⟨w.heap.size + 1, 0, 0⟩]) := Ext.push _ _
  have hL : (η ++ [(⟨w.heap.size, 0, 0⟩ : Blk), ⟨w.heap.size + 1, 0, 0⟩])[st.G.length + 1]? = some ⟨w.heap.size + 1, 0, 0⟩ := by
    rw [← hl1, List.getElem?_append_right (by omega)]; simp
  refine ⟨w.heap.size + 1, _, _, _, _, f, _, _, run_enterLoop_outer fn a.tmps ps assign body, hres, ?_, hinv, fun hh => by simp [wd] at hh, ?_⟩
  · intro f' hf'
    simp only [Target.leads, Option.some.injEq] at hf'
    subst hf'
    trivial
  · refine CallsIn.mono (h _ _ U I _ H2.bare ?_) fun en w3 k => range_back (w1 := _) H hro' hL hx1 hk1 ?_ hq k
    · refine ((r1.mono (fun k h => hk1.block k (.inr h)) (fun _ h => h) hx1).append ⟨rfl, fun i v u hv hu => ?_⟩).append (r2.mono (fun k h => hk1.block k (.inr h)) (fun _ h => h) hx1)
      match i with
      | 0 =>
        simp at hv hu
        subst hv
        subst hu
        exact .yld _ _ hL
      | i + 1 => simp at hv
    · refine .cons (DfRel.mark _ ⟨w.heap.size, 0, 0⟩ ?_) (H.df.mono (fun k h => hk1.block k (.inr h)) (fun _ h => h) hx1)
      rw [← hl1, List.getElem?_append_right (Nat.le_refl _)]; simp

/-- Within a round of loop i. -/
theorem W.rangeInner {g : Operand} {ps : Array Tmp} {assign body : Code} {Q : Ex → St → Prop} {f : FuncId} {first caps : List V} {i : Nat} {nf : Nat} {state : LoopState} {pend : Option Code} {tm : List V} {ps0 : Array Tmp} {as0 bd0 : Code} {d : Nat}
    (hG : st.G[i]? = some (.obj (.loop nf state pend tm ps0 as0 bd0 d))) (hg : st.ev g = .fn (.func f) first caps) (hent : enters P f = true) {Φ : Out → List Ob → Prop}
    (h : Cal P f (first ++ [.yld st.G.length] ++ caps) (st.G ++ [.obj (.loop P.funcs.size .ready none ((List.range st.N).map st.s) ps assign body d)]) Φ)
    (hq : ∀ x G', Φ x G' → RangeQ P (some i) Q st.G.length st st.D x G') : W P (some i) (.rangeFunc g ps assign body) Q st := by
  intro a w U I η r hro H
  have hro' := hro
  obtain ⟨e0, he0, rfl⟩ := hro
  obtain ⟨x0, hx0, ed, fn0, vs0, hfn0, hd0, rfl, hvs0⟩ := H.ob i e0 _ he0 hG
  refine wpP_rangeFunc fun fn hfn => ?_
  obtain ⟨us, vs, hx, hy, r1, r2, hres, hinv⟩ := range_call (P := P) (l := w.heap.size) (w1 := w.alloc (.loop { state := .ready, pending := none, fn, tmps := a.tmps, params := ps, assign, body, defers := ed.b })) hg hent H
  have hl1 : η.length = st.G.length := H.len
  have H2 := H.newObj (o := .loop P.funcs.size .ready none ((List.range st.N).map st.s) ps assign body d) (x := .loop { state := .ready, pending := none, fn, tmps := a.tmps, params := ps, assign, body, defers := ed.b }) ⟨ed, fn, a.tmps, rfl, Ext.push _ _ _ _ hd0, rfl, H.tmps.mono (fun _ _ => rfl) (fun _ h => h) (Ext.push _ _)⟩
  have hk1 : Keep U I w (w.alloc (.loop { state := .ready, pending := none, fn, tmps := a.tmps, params := ps, assign, body, defers := ed.b })) := Keep.alloc U I w _ H.lt
  have hx1 : Ext η (η ++ [⟨w.heap.size, 0, 0⟩]) := Ext.push _ _
  have hL : (η ++ [(⟨w.heap.size, 0, 0⟩ : Blk)])[st.G.length]? = some ⟨w.heap.size, 0, 0⟩ := by
    rw [← hl1, List.getElem?_append_right (by omega)]; simp
  refine ⟨w.heap.size, _, _, _, _, f, _, _, run_enterLoop_inner (show w.heap[e0.b]? = some (.loop _) from hx0) fn a.tmps ps assign body, hres, ?_, hinv, fun hh => by simp [wd] at hh, ?_⟩
  · intro f' hf'
    simp only [Target.leads, Option.some.injEq] at hf'
    subst hf'
    trivial
  · refine CallsIn.mono (h _ _ U I _ H2.bare ?_) fun en w3 k => range_back (mark := []) (w1 := _) H hro' hL hx1 hk1 ?_ hq k
    · refine ((r1.mono (fun k h => hk1.block k (.inr h)) (fun _ h => h) hx1).append ⟨rfl, fun i v u hv hu => ?_⟩).append (r2.mono (fun k h => hk1.block k (.inr h)) (fun _ h => h) hx1)
      match i with
      | 0 =>
        simp at hv hu
        subst hv
        subst hu
        exact .yld _ _ hL
      | i + 1 => simp at hv
    · exact H.df.mono (fun k h => hk1.block k (.inr h)) (fun _ h => h) hx1
end
end Go.Ab
