/- Ab, part 10: one step of a region; what is handed on as data. -/
import Derived.Test.YtlflddcbfbdldaaGreatDoorAH
namespace Go.Ab
open Go

def absAppendC (P : Program) (st : St) (ts : List TypeId) (xs : List V) : Option (V × St) :=
  match ts, xs with
  | [t, t'], [s, x] => if t = t' then absAppend P st t s x else none
  | _, _ => none
def absX (P : Program) (st : St) (o : Op) : Option (V × St) :=
  match o with
  | .alloc t => (zeroV P t).map fun z => (.ptr st.G.length 0, { st with G := st.G ++ [.box false z] })
  | .box _ x => if (st.ev x).whole = true then some (.ptr st.G.length 0, { st with G := st.G ++ [.box false (st.ev x).cells] }) else none
  | .store t p x => (absStore P st t (st.ev p) (st.ev x)).map fun s => (.tup [], s)
  | .buildSlice t n ps => absBuildSlice P st t n (ps.toList.map fun p => (p.1, st.ev p.2))
  | .makeSlice t l c => absMakeSlice P st t (st.ev l) (st.ev c)
  | .makeMap t r => absMakeMap P st t (r.map st.ev)
  | .mapUpdate t m k x => (absMapPut P st t (st.ev m) (st.ev k) (st.ev x)).map fun s => (.tup [], s)
  | .insert t m k x => (absMapPut P st t (st.ev m) (st.ev k) (st.ev x)).map fun s => (.tup [], s)
  | .call c => match c.callee with
    | .builtin .append => absAppendC P st c.argTypes.toList (c.args.toList.map st.ev)
    | .builtin _ => (absQ P st (.call c)).map fun v => (v, st)
    | _ => none
  | o => (absQ P st o).map fun v => (v, st)

section
variable {P : Program} {st : St} {a : Act} {w w' : World} {U I : Nat → Prop} {η : List Blk}

theorem absX_quiet {o : Oper} {v : V} {st' : St} (H : WR st a w U I η) (h : (absQ P st o.op).map (fun v => (v, st)) = some (v, st')) :
    ∃ nx u w' η', (execOp a.eval o).run P w = .ok nx w' ∧ (nx = .value u ∨ nx = .skip ∧ u = undef) ∧ Rel w' I η' v u ∧ WR st' a w' U I η' ∧ Keep U I w w' ∧ Ext η η' := by
  obtain ⟨v', hv, h⟩ := Option.map_eq_some_iff.1 h
  simp only [Prod.mk.injEq] at h
  obtain ⟨rfl, rfl⟩ := h
  obtain ⟨u, hu, hr⟩ := absQ_run H hv
  exact ⟨_, u, w, η, hu, .inl rfl, hr, H, .refl U I w, .refl η⟩

theorem absX_run (H : WR st a w U I η) {o : Oper} {v : V} {st' : St} (h : absX P st o.op = some (v, st')) :
    ∃ nx u w' η', (execOp a.eval o).run P w = .ok nx w' ∧ (nx = .value u ∨ nx = .skip ∧ u = undef) ∧ Rel w' I η' v u ∧ WR st' a w' U I η' ∧ Keep U I w w' ∧ Ext η η' := by
  have F := H.fits
  cases ho : o.op
  case alloc t =>
    simp only [ho, absX] at h
    obtain ⟨z, hz, h⟩ := Option.map_eq_some_iff.1 h
    simp only [Prod.mk.injEq] at h
    obtain ⟨rfl, rfl⟩ := h
    obtain ⟨u, hu, hr⟩ := zeroV_run (P := P) (w := w) (I := I) (η := η) hz
    have hle := H.len
    exact ⟨_, .pointer (some ⟨w.heap.size, 0, none⟩), _, _, by simp [execOp, ho, Instr.alloc, hu, newVar, newRow], .inl rfl, .ptr _ _ ⟨w.heap.size, 0, 0⟩ (by rw [← hle]; simp), H.newBox hr t, .alloc U I w _ H.lt, fun _ _ h => getElem?_push h⟩
  case box t x =>
    simp only [ho, absX] at h
    split at h
    · rename_i hw
      simp only [Option.some.injEq, Prod.mk.injEq] at h
      obtain ⟨rfl, rfl⟩ := h
      have hle := H.len
      exact ⟨_, .pointer (some ⟨w.heap.size, 0, none⟩), _, _, by simp [execOp, ho, Instr.box, newVar, newRow], .inl rfl, .ptr _ _ ⟨w.heap.size, 0, 0⟩ (by rw [← hle]; simp), H.newBox (RelL.cells (F x) hw) t, .alloc U I w _ H.lt, fun _ _ h => getElem?_push h⟩
    · cases h
  case store t p x =>
    simp only [ho, absX] at h
    obtain ⟨s, hs, h⟩ := Option.map_eq_some_iff.1 h
    simp only [Prod.mk.injEq] at h
    obtain ⟨rfl, rfl⟩ := h
    obtain ⟨w', hr, H', hk⟩ := absStore_run (P := P) H (F p) (F x) hs
    exact ⟨.skip, undef, w', η, by simp [execOp, ho, hr], .inr ⟨rfl, rfl⟩, .tup [] #[] rfl (fun i v u h => by simp at h), H', hk, .refl η⟩
  case makeMap t r =>
    simp only [ho, absX] at h
    obtain ⟨u, w', η', hr, h1, h2, h3, h4⟩ := absMakeMap_run (P := P) H (r' := r.map a.eval) (fun v hv => by
      cases r with
      | none => simp at hv
      | some z => simp at hv; subst hv; exact ⟨_, rfl, F z⟩) (fun hv => by
      cases r with
      | none => rfl
      | some z => simp at hv) h
    exact ⟨_, u, w', η', by simp [execOp, ho, hr], .inl rfl, h1, h2, h3, h4⟩
  case mapUpdate t m k x =>
    simp only [ho, absX] at h
    obtain ⟨s, hs, h⟩ := Option.map_eq_some_iff.1 h
    simp only [Prod.mk.injEq] at h
    obtain ⟨rfl, rfl⟩ := h
    obtain ⟨w', hr, H', hk⟩ := absMapPut_run (P := P) H (F m) (F k) (F x) hs
    exact ⟨.skip, undef, w', η, by simp [execOp, ho, hr], .inr ⟨rfl, rfl⟩, .tup [] #[] rfl (fun i v u h => by simp at h), H', hk, .refl η⟩
  case insert t m k x =>
    simp only [ho, absX] at h
    obtain ⟨s, hs, h⟩ := Option.map_eq_some_iff.1 h
    simp only [Prod.mk.injEq] at h
    obtain ⟨rfl, rfl⟩ := h
    obtain ⟨w', hr, H', hk⟩ := absMapPut_run (P := P) H (F m) (F k) (F x) hs
    exact ⟨.skip, undef, w', η, by simp [execOp, ho, hr], .inr ⟨rfl, rfl⟩, .tup [] #[] rfl (fun i v u h => by simp at h), H', hk, .refl η⟩
  case buildSlice t n ps =>
    simp only [ho, absX] at h
    obtain ⟨u, w', η', hr, h1, h2, h3, h4⟩ := absBuildSlice_run (P := P) H (qs := ps.toList.map fun p => (p.1, a.eval p.2)) (by simp) (fun i p q hp hq => by
      simp only [List.getElem?_map, Option.map_eq_some_iff] at hp hq
      obtain ⟨x, hx, rfl⟩ := hp
      obtain ⟨y, hy, rfl⟩ := hq
      rw [hx] at hy
      injection hy with hy
      subst hy
      exact ⟨rfl, F _⟩) h
    have e : (ps.map fun x => (x.1, a.eval x.2)) = (ps.toList.map fun p => (p.1, a.eval p.2)).toArray := by
      obtain ⟨l⟩ := ps
      simp
    refine ⟨_, u, w', η', ?_, .inl rfl, h1, h2, h3, h4⟩
    simp only [execOp, ho, Sem.run_bind]
    rw [show (Array.map (fun x => match x with | (i, x) => (i, a.eval x)) ps) = (ps.toList.map fun p => (p.1, a.eval p.2)).toArray from e, hr]
    rfl
  case makeSlice t l c =>
    simp only [ho, absX] at h
    obtain ⟨u, w', η', hr, h1, h2, h3, h4⟩ := absMakeSlice_run (P := P) H (F l) (F c) h
    exact ⟨_, u, w', η', by simp [execOp, ho, hr], .inl rfl, h1, h2, h3, h4⟩
  case call c =>
    by_cases hap : c.callee matches .builtin .append
    · obtain ⟨callee, args, ts⟩ := c
      cases callee with
      | builtin b =>
        cases b <;> simp at hap
        simp only [ho, absX] at h
        unfold absAppendC at h
        split at h
        · rename_i t t' s x hts hxs
          split at h
          · rename_i htt
            subst htt
            obtain ⟨s0, x0, rfl⟩ : ∃ s0 x0, args = #[s0, x0] := by
              obtain ⟨l⟩ := args
              match l, hxs with
              | [s0, x0], _ => exact ⟨s0, x0, rfl⟩
            obtain rfl : ts = #[t, t] := by
              obtain ⟨l⟩ := ts
              simp at hts
              rw [hts]
            simp at hxs
            obtain ⟨rfl, rfl⟩ := hxs
            obtain ⟨u, w', η', hr, h1, h2, h3, h4⟩ := absAppend_run (P := P) (ty := o.type) H (F s0) (F x0) h
            exact ⟨_, u, w', η', by simp [execOp, ho, resolve, invoke, builtin, hr], .inl rfl, h1, h2, h3, h4⟩
          · cases h
        · cases h
      | value f => simp at hap
      | invoke r m => simp at hap
    · refine absX_quiet H ?_
      rw [ho] at h ⊢
      simp only [absX] at h
      split at h
      · rename_i hc; simp [hc] at hap
      · exact h
      · cases h
  all_goals
    refine absX_quiet H ?_
    rw [ho] at h ⊢
    exact h

/-! ### One step of a region -/
/-- What the machine's 'yielded' tells of an operation's slot; none: not known. -/
def yieldA (ops : Array Oper) (st : St) (j : Nat) : Option (Option Bool) :=
  match (ops[j]?).bind (·.dst) with
  | some d => match st.s d with
    | .bool b => some (some b)
    | .tup [] => some none
    | _ => none
  | none => some none
theorem yieldA_run (H : WR st a w U I η) {ops : Array Oper} {j : Nat} {y : Option Bool} (h : yieldA ops st j = some y) : yielded ops a.tmps j = y := by
  unfold yieldA at h
  unfold yielded
  split at h
  · rename_i d hd
    rw [hd]
    simp only [Option.bind_some]
    have hs := H.sl d
    simp only [Act.eval, Array.getD_eq_getD_getElem?] at hs
    split at h
    · rename_i b hb
      rw [hb] at hs
      have := hs.bool_inv
      injection h with h
      subst h
      cases ht : a.tmps[d]? with
      | none => rw [ht] at this; simp [undef] at this
      | some x => rw [ht] at this; simp only [Option.getD_some] at this; subst this; rfl
    · rename_i hb
      rw [hb] at hs
      obtain ⟨vs, hv, hl, _⟩ := hs.tup_inv
      injection h with h
      subst h
      cases ht : a.tmps[d]? with
      | none => rfl
      | some x => rw [ht] at hv; simp only [Option.getD_some] at hv; subst hv; rfl
    · cases h
  · rename_i hd
    injection h with h
    subst h
    rw [hd]
    rfl

def absExec (P : Program) (o : Oper) (st : St) : Option St := (absX P st o.op).bind fun r => r.2.put o.dst r.1
/-- Whatever function a call is about to enter is one of the program's. -/
def aboutOk (_ : Program) (_ : St) (_ : Op) : Bool := true
theorem aboutOk_run (_ : WR st a w U I η) {o : Oper} (_ : aboutOk P st o.op = true) : ∀ f, o.about P w a.eval = some f → True := fun _ _ => trivial
theorem about_quiet {o : Oper} {r : V × St} (h : absX P st o.op = some r) (ρ : Operand → Value) (w : World) : o.about P w ρ = none := by
  unfold Oper.about
  split
  · rename_i c ho
    rw [ho] at h
    simp only [absX] at h
    split at h
    · rename_i hc
      simp only [resolve, hc, Sem.run_pure, Target.leads]
    · rename_i b _ hc
      simp only [resolve, hc, Sem.run_pure, Target.leads]
    · cases h
  · rfl
def absStep (P : Program) (ops : Array Oper) (o : Oper) (st : St) : Option St :=
  match o.guard with
  | none => absExec P o st
  | some (j, want) => (yieldA ops st j).bind fun y => if y = some want then absExec P o st else if aboutOk P st o.op = true then st.put o.dst (.tup []) else none

/-! ### Data -/
mutual
def V.isData : V → Bool
  | .ptr _ _ | .rp _ _ _ | .row _ _ | .map _ | .fn _ _ _ | .yld _ => false
  | .agg cs => V.isDataL cs
  | .tup cs => V.isDataL cs
  | .ifc _ v => V.isData v
  | _ => true
def V.isDataL : List V → Bool
  | [] => true
  | v :: vs => V.isData v && V.isDataL vs
end
theorem V.isDataL_iff : ∀ {cs : List V}, V.isDataL cs = true ↔ ∀ v ∈ cs, v.isData = true
  | [] => by simp [V.isDataL]
  | v :: vs => by simp [V.isDataL, V.isDataL_iff (cs := vs)]

theorem Rel.data {v : V} {u : Value} (h : Rel w I η v u) (hd : v.isData = true) : RelD w I v u := by
  induction h with
  | d h => exact h
  | ptr i off e h => simp [V.isData] at hd
  | rp i idx off e h => simp [V.isData] at hd
  | row i len e h => simp [V.isData] at hd
  | map i e h => simp [V.isData] at hd
  | yld i e h => simp [V.isData] at hd
  | fn f xs ys us vs hx hy h1 h2 ih1 ih2 => simp [V.isData] at hd
  | agg cs vs hl h ih =>
    rw [V.isData, V.isDataL_iff] at hd
    exact .agg cs vs hl fun i v u hv hu => ih i v u hv hu (hd v (List.mem_of_getElem? hv))
  | tup cs vs hl h ih =>
    rw [V.isData, V.isDataL_iff] at hd
    exact .tup cs vs hl fun i v u hv hu => ih i v u hv hu (hd v (List.mem_of_getElem? hv))
  | ifc t v u h ih => exact .ifc t v u (ih (by simpa [V.isData] using hd))

/-- An object that nobody writes from here on. -/
theorem WR.freeze (H : WR st a w U I η) {i : Nat} {e : Blk} {o o' : Ob} (he : η[i]? = some e) (hG : st.G[i]? = some o) (hl : o.live = true) (hf : o'.frozen = true) (hsame : ∀ (w : World) (I : Nat → Prop) (η : List Blk) (e : Blk), ObRel w I η e o → ObRel w I η e o') :
    WR { st with G := st.G.set i o' } a w U (fun k => I k ∨ k = e.b) η := by
  have hlt : i < st.G.length := (List.getElem?_eq_some_iff.1 hG).1
  have heb := (H.ob i e o he hG).lt hl
  have hset : ∀ (p : Nat) (y : Ob), (st.G.set i o')[p]? = some y → (p = i ∧ y = o') ∨ (p ≠ i ∧ st.G[p]? = some y) := by
    intro p y h
    by_cases hp : p = i
    · subst hp
      rw [List.getElem?_set_self hlt] at h
      injection h with h
      exact .inl ⟨rfl, h.symm⟩
    · rw [List.getElem?_set_ne (Ne.symm hp)] at h
      exact .inr ⟨hp, h⟩
  refine ⟨H.size, by simp [H.len], ?_, ?_, ?_, ?_, ?_, fun t => (H.sl t).mono (fun _ _ => rfl) (fun _ h => .inl h) (fun _ _ h => h), H.df.mono (fun _ _ => rfl) (fun _ h => .inl h) (fun _ _ h => h), fun g => (H.glb g).mono (fun _ _ => rfl) (fun _ h => .inl h)⟩
  · rintro k (hk | hk | rfl)
    · exact H.lt k (.inl hk)
    · exact H.lt k (.inr hk)
    · exact heb
  · intro p q x x' y y' h1 h2 h3 h4 h5 h6 h7
    rcases hset p y h3 with ⟨g1, g2⟩ | ⟨hp, g3⟩ <;> rcases hset q y' h4 with ⟨g5, g6⟩ | ⟨hq, g4⟩
    · rw [g1, g5]
    · exact H.inj p q x x' o y' h1 h2 (g1 ▸ hG) g4 hl h6 h7
    · exact H.inj p q x x' y o h1 h2 g3 (g5 ▸ hG) h5 hl h7
    · exact H.inj p q x x' y y' h1 h2 g3 g4 h5 h6 h7
  · intro p x y h1 h2 h3
    rcases hset p y h2 with ⟨rfl, rfl⟩ | ⟨hp, h2⟩
    · cases y with
      | box fz cs => cases fz <;> simp_all [Ob.mut, Ob.frozen]
      | row fz t sz xs => cases fz <;> simp_all [Ob.mut, Ob.frozen]
      | obj o => simp [Ob.frozen] at hf
      | dead => simp [Ob.frozen] at hf
    · refine ⟨(H.mt p x y h1 h2 h3).1, ?_⟩
      rintro (hi | hi)
      · exact (H.mt p x y h1 h2 h3).2 hi
      · exact hp (H.inj p i x e y o h1 he h2 hG (Ob.mut_live h3) hl hi)
  · intro p x y h1 h2 h3
    rcases hset p y h2 with ⟨rfl, rfl⟩ | ⟨hp, h2⟩
    · rw [he] at h1
      injection h1 with h1
      exact .inr (by rw [h1])
    · exact .inl (H.frz p x y h1 h2 h3)
  · intro p x y h1 h2
    rcases hset p y h2 with ⟨rfl, rfl⟩ | ⟨hp, h2⟩
    · rw [he] at h1
      injection h1 with h1
      subst h1
      exact hsame w _ η e ((H.ob p e o he hG).mono (fun _ _ => rfl) (fun _ h => .inl h) (fun _ _ h => h) (fun _ => rfl))
    · exact (H.ob p x y h1 h2).mono (fun _ _ => rfl) (fun _ h => .inl h) (fun _ _ h => h) (fun _ => rfl)

/-- A value handed on as data: a row or a variable behind a pointer is frozen. -/
def St.view (st : St) (v : V) : Option (V × St) :=
  match v with
  | .row i len => match st.G[i]? with
    | some (.row _ t sz xs) => if xs.length = len ∧ xs.all V.isDataL = true then some (.sl xs false, { st with G := st.G.set i (.row true t sz xs) }) else none
    | _ => none
  | .ptr i off => match st.G[i]? with
    | some (.box _ cs) => if V.isDataL cs = true then some (.ep [cs] 0 off, { st with G := st.G.set i (.box true cs) }) else none
    | _ => none
  | v => if v.isData = true then some (v, st) else none
def St.viewL (st : St) : List V → Option (List V × St)
  | [] => some ([], st)
  | v :: vs => (st.view v).bind fun r => (r.2.viewL vs).map fun q => (r.1 :: q.1, q.2)
end
end Go.Ab