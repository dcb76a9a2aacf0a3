/- Ab, part 11: what is handed on as data; the weakest preconditions over abstract states. -/
import Derived.Test.YtlflddcbfbdldaaGreatDoorB0
namespace Go.Ab
open Go
section
variable {P : Program} {st : St} {a : Act} {w w' : World} {U I : Nat → Prop} {η : List Blk}

/-- Footprints. -/
structure Foot (U I I' : Nat → Prop) : Prop where
  le : ∀ k, I k → I' k
  new : ∀ k, I' k → I k ∨ ¬ U k
theorem Foot.refl (U I : Nat → Prop) : Foot U I I := ⟨fun _ h => h, fun _ h => .inl h⟩
theorem Foot.trans {U I I' I'' : Nat → Prop} (h : Foot U I I') (k : Foot U I' I'') : Foot U I I'' :=
  ⟨fun x hx => k.le x (h.le x hx), fun x hx => (k.new x hx).elim (fun hy => h.new x hy) .inr⟩

theorem WR.liveU (H : WR st a w U I η) {i : Nat} {e : Blk} {o : Ob} (he : η[i]? = some e) (hG : st.G[i]? = some o) (hl : o.live = true) : I e.b ∨ ¬ U e.b :=
  (Ob.live_cases hl).elim (fun hm => .inr (H.mt i e o he hG hm).1) (fun hf => .inl (H.frz i e o he hG hf))

theorem view_run (H : WR st a w U I η) {v d : V} {u : Value} (hv : Rel w I η v u) {st' : St} (h : st.view v = some (d, st')) :
    ∃ I', WR st' a w U I' η ∧ Foot U I I' ∧ RelD w I' d u ∧ st'.s = st.s ∧ st'.N = st.N := by
  unfold St.view at h
  split at h
  · rename_i i len
    obtain ⟨e, he, rfl⟩ := hv.row_inv
    split at h
    · rename_i fz t sz xs hG
      split at h
      · rename_i hc
        obtain ⟨hlen, hd⟩ := hc
        simp only [Option.some.injEq, Prod.mk.injEq] at h
        obtain ⟨rfl, rfl⟩ := h
        subst hlen
        obtain ⟨g1, g2, g3, g4, g5, cur, g6, g7, g8⟩ := H.ob i e _ he hG
        have hf := H.liveU he hG rfl
        refine ⟨fun k => I k ∨ k = e.b, H.freeze he hG rfl rfl (fun _ _ _ _ h => h), ⟨fun _ h => .inl h, ?_⟩, ?_, rfl, rfl⟩
        · rintro k (hk | rfl)
          · exact .inl hk
          · exact hf
        · have hcell : ∀ (i : Nat) (y : List V) (j : Nat) (v : V), xs[i]? = some y → y[j]? = some v → ∃ u, cur[i * sz + j]? = some u := by
            intro i y j v hy hv
            have hi := (List.getElem?_eq_some_iff.1 hy).1
            have hj : j < sz := by have := (List.getElem?_eq_some_iff.1 hv).1; have := g3 i y hy; omega
            have : (i + 1) * sz ≤ e.cap * sz := Nat.mul_le_mul_right _ (by omega)
            rw [Nat.succ_mul] at this
            exact ⟨_, Array.getElem?_eq_getElem (by omega)⟩
          refine .sl xs false (some ⟨e.b, 0, none⟩) e.cap sz ⟨e.b, 0, none⟩ (fun i j => (cur[i * sz + j]?).getD default) rfl (fun h => by simp at h) (fun _ => ⟨rfl, .inr rfl, rfl⟩) g4 g3 ?_ ?_
          · intro i y j v hy hv
            obtain ⟨u, hu⟩ := hcell i y j v hy hv
            simp only [Nat.zero_add]
            rw [cell_of_row w e.b _ cur t (0, 0) g6, hu]
            rfl
          · intro i y j v hy hv
            obtain ⟨u, hu⟩ := hcell i y j v hy hv
            rw [hu]
            have hy' := List.all_eq_true.1 hd y (List.mem_of_getElem? hy)
            exact ((g8 i y j v u hy hv hu).data (V.isDataL_iff.1 hy' v (List.mem_of_getElem? hv))).mono (fun _ _ => rfl) (fun _ h => .inl h)
      · cases h
    · cases h
  · rename_i i off
    obtain ⟨e, he, rfl⟩ := hv.ptr_inv
    split at h
    · rename_i fz cs hG
      split at h
      · rename_i hd
        simp only [Option.some.injEq, Prod.mk.injEq] at h
        obtain ⟨rfl, rfl⟩ := h
        obtain ⟨vs, t, g1, g2, g3⟩ := H.ob i e _ he hG
        have hf := H.liveU he hG rfl
        refine ⟨fun k => I k ∨ k = e.b, H.freeze he hG rfl rfl (fun _ _ _ _ h => h), ⟨fun _ h => .inl h, ?_⟩, ?_, rfl, rfl⟩
        · rintro k (hk | rfl)
          · exact .inl hk
          · exact hf
        · have := RelD.ep (w := w) (I := fun k => I k ∨ k = e.b) [cs] 0 off cs.length ⟨e.b, 0, none⟩ (fun _ j => (vs[j]?).getD default) (by simp) ⟨.inr rfl, rfl⟩ (by
            intro i x hx
            cases i with
            | zero => simp at hx; rw [hx]
            | succ i => simp at hx) (by
            intro i x j v hx hv
            cases i with
            | zero =>
              simp at hx
              subst hx
              have hj : j < vs.size := by have := (List.getElem?_eq_some_iff.1 hv).1; omega
              simp only [Nat.zero_mul, Nat.zero_add]
              rw [cell_of_row w e.b j vs t (0, 0) g1, Array.getElem?_eq_getElem hj]
              rfl
            | succ i => simp at hx) (by
            intro i x j v hx hv
            cases i with
            | zero =>
              simp at hx
              subst hx
              have hj : j < vs.size := by have := (List.getElem?_eq_some_iff.1 hv).1; omega
              rw [Array.getElem?_eq_getElem hj]
              exact ((g3 j v _ hv (Array.getElem?_eq_getElem hj)).data (V.isDataL_iff.1 hd v (List.mem_of_getElem? hv))).mono (fun _ _ => rfl) (fun _ h => .inl h)
            | succ i => simp at hx)
          simpa using this
      · cases h
    · cases h
  · split at h
    · rename_i hd
      simp only [Option.some.injEq, Prod.mk.injEq] at h
      obtain ⟨rfl, rfl⟩ := h
      exact ⟨I, H, .refl U I, hv.data hd, rfl, rfl⟩
    · cases h

theorem viewL_run : ∀ (vs : List V) (us : List Value) (st : St) (I : Nat → Prop) (ds : List V) (st' : St), WR st a w U I η → vs.length = us.length →
    (∀ (i : Nat) (v : V) (u : Value), vs[i]? = some v → us[i]? = some u → Rel w I η v u) → st.viewL vs = some (ds, st') →
    ∃ I', WR st' a w U I' η ∧ Foot U I I' ∧ ds.length = us.length ∧ (∀ (i : Nat) (v : V) (u : Value), ds[i]? = some v → us[i]? = some u → RelD w I' v u) ∧ st'.s = st.s ∧ st'.N = st.N
  | [], us, st, I, ds, st', H, hl, _, h => by
    simp only [St.viewL, Option.some.injEq, Prod.mk.injEq] at h
    obtain ⟨rfl, rfl⟩ := h
    exact ⟨I, H, .refl U I, hl, fun i v u hv => by simp at hv, rfl, rfl⟩
  | v :: vs, us, st, I, ds, st', H, hl, hr, h => by
    cases us with
    | nil => simp at hl
    | cons u us =>
      simp only [St.viewL] at h
      obtain ⟨⟨d, st1⟩, h1, h⟩ := Option.bind_eq_some_iff.1 h
      obtain ⟨⟨ds', st2⟩, h2, h⟩ := Option.map_eq_some_iff.1 h
      simp only [Prod.mk.injEq] at h
      obtain ⟨rfl, rfl⟩ := h
      obtain ⟨I1, H1, f1, r1, e1, e2⟩ := view_run H (hr 0 v u rfl rfl) h1
      obtain ⟨I2, H2, f2, l2, r2, e3, e4⟩ := viewL_run vs us st1 I1 ds' st2 H1 (by simpa using hl) (fun i v u hv hu => (hr (i + 1) v u (by simpa using hv) (by simpa using hu)).mono (fun _ _ => rfl) f1.le (fun _ _ h => h)) h2
      refine ⟨I2, H2, f1.trans f2, by simp [l2], ?_, e3.trans e1, e4.trans e2⟩
      intro i x y hx hy
      cases i with
      | zero =>
        simp at hx hy
        subst hx
        subst hy
        exact r1.mono (fun _ _ => rfl) f2.le
      | succ i => exact r2 i x y (by simpa using hx) (by simpa using hy)
end

/-! ### Weakest preconditions -/
inductive Ex where
  | normal
  | ret
  | exit (id : Nat)
  | goto (l : Nat)
  | panic (v : V)
def Ex.is (w : World) (I : Nat → Prop) (η : List Blk) : Ex → Exit → Prop
  | .normal, e => e = .normal
  | .ret, e => e = .ret
  | .exit i, e => e = .exit i
  | .goto l, e => e = .goto l
  | .panic v, e => ∃ u, e = .panic [{ v := u, recovered := false }] ∧ Rel w I η v u

/-- The fence that lets all in, for an activation's own frame or for a round's. -/
def wd (_ : Program) (ro : Option Nat) : Fence := { fn := fun _ => True, depth := none, alive := false, round := ro }
/-- The round, by the number of its loop's object. -/
def Ro (η : List Blk) : Option Nat → Option Nat → Prop
  | none, r => r = none
  | some i, r => ∃ e, η[i]? = some e ∧ r = some e.b
theorem Ro.ext {η η' : List Blk} {rd r : Option Nat} (h : Ro η rd r) (k : Ext η η') : Ro η' rd r := by
  cases rd with
  | none => exact h
  | some i => obtain ⟨e, h1, h2⟩ := h; exact ⟨e, k _ _ h1, h2⟩

/-- What has come about: a state that fits, U and the data read so far left alone. -/
def Post (Q : Ex → St → Prop) (w : World) (U I : Nat → Prop) (η : List Blk) : Exit → Act → World → Prop :=
  fun e a' w' => ∃ x st' I' η', x.is w' I' η' e ∧ Q x st' ∧ WR st' a' w' U I' η' ∧ Foot U I I' ∧ Keep U I w w' ∧ Ext η η'

def W (P : Program) (rd : Option Nat) (c : Code) (Q : Ex → St → Prop) (st : St) : Prop :=
  ∀ (a : Act) (w : World) (U I : Nat → Prop) (η : List Blk) (r : Option Nat), Ro η rd r → WR st a w U I η → wpP (wd P r) 0 P c (Post Q w U I η) a w

def WL (P : Program) (rd : Option Nat) (ops : Array Oper) (rest : List Oper) (Q : Ex → St → Prop) (st : St) : Prop :=
  ∀ (a : Act) (w : World) (U I : Nat → Prop) (η : List Blk) (r : Option Nat), Ro η rd r → WR st a w U I η → wpListIn (wd P r) 0 P ops (Post Q w U I η) rest a w

theorem Post.later {Q : Ex → St → Prop} {w w1 : World} {U I I1 : Nat → Prop} {η η1 : List Blk} {e : Exit} {a : Act} {w2 : World} (hk : Keep U I w w1) (hf : Foot U I I1) (he : Ext η η1) (h : Post Q w1 U I1 η1 e a w2) : Post Q w U I η e a w2 := by
  obtain ⟨x, st', I', η', h1, h2, h3, h4, h5, h6⟩ := h
  exact ⟨x, st', I', η', h1, h2, h3, hf.trans h4, hk.trans h5 hf.le, he.trans h6⟩
theorem Post.mono {Q Q' : Ex → St → Prop} {w : World} {U I : Nat → Prop} {η : List Blk} {e : Exit} {a : Act} {w2 : World} (hq : ∀ x st, Q x st → Q' x st) (h : Post Q w U I η e a w2) : Post Q' w U I η e a w2 := by
  obtain ⟨x, st', I', η', h1, h2, h3⟩ := h
  exact ⟨x, st', I', η', h1, hq _ _ h2, h3⟩

theorem wpListIn_mono {F : Fence} {n : Nat} {P : Program} {ops : Array Oper} {Q Q' : Exit → Act → World → Prop} (hq : ∀ e a w, Q e a w → Q' e a w) : ∀ (l : List Oper) (a : Act) (w : World), wpListIn F n P ops Q l a w → wpListIn F n P ops Q' l a w
  | [], a, w, h => hq _ _ _ h
  | o :: rest, a, w, h => by
    unfold wpListIn at h ⊢
    split
    · rename_i hw
      rw [if_pos hw] at h
      refine ⟨h.1, ?_⟩
      have h2 := h.2
      revert h2
      generalize Sem.run P (o.semAt F.round a.eval) w = r
      intro h2
      cases r with
      | ok nx w1 =>
        cases nx with
        | value v => exact wpListIn_mono hq rest _ _ h2
        | skip => exact wpListIn_mono hq rest _ _ h2
        | defer d => exact wpListIn_mono hq rest _ _ h2
        | enter f args =>
          refine ⟨h2.1, h2.2.mono ?_⟩
          intro e w2 he
          cases e with
          | returned v => exact wpListIn_mono hq rest _ _ he
          | panicked chain => exact hq _ _ _ he
          | outgrown => obtain ⟨a0, w0, hh⟩ := he; exact ⟨a0, w0, hq _ _ _ hh⟩
        | row row args =>
          refine ⟨h2.1, h2.2.mono ?_⟩
          intro v w2 he
          exact wpListIn_mono hq rest _ _ he
        | round l f tmps assign body =>
          refine ⟨h2.1, h2.2.mono ?_⟩
          intro e w2 he
          cases e with
          | returned v => exact wpListIn_mono hq rest _ _ he
          | panicked chain => exact hq _ _ _ he
          | outgrown => obtain ⟨a0, w0, hh⟩ := he; exact ⟨a0, w0, hq _ _ _ hh⟩
        | _ => exact h2.elim
      | halt x w1 =>
        cases x with
        | panic v => exact hq _ _ _ h2
        | _ => exact h2.elim
    · rename_i hw
      rw [if_neg hw] at h
      exact ⟨h.1, wpListIn_mono hq rest _ _ h.2⟩

section rules
variable {P : Program} {rd : Option Nat} {Q : Ex → St → Prop} {st : St}

theorem W.mono {Q' : Ex → St → Prop} {c : Code} (h : W P rd c Q st) (hq : ∀ x st, Q x st → Q' x st) : W P rd c Q' st :=
  fun a w U I η r hr H => wpP_mono (h a w U I η r hr H) fun _ _ _ hp => hp.mono hq

theorem W.skip (h : Q .normal st) : W P rd .skip Q st := fun a w U I η r hr H => wpP_skip ⟨.normal, st, I, η, rfl, h, H, .refl U I, .refl U I w, .refl η⟩
theorem W.exit {id : Nat} (h : Q (.exit id) st) : W P rd (.exit id) Q st := fun a w U I η r hr H => wpP_exit ⟨.exit id, st, I, η, rfl, h, H, .refl U I, .refl U I w, .refl η⟩
theorem W.ret (h : Q .ret st) : W P rd .ret Q st := fun a w U I η r hr H => wpP_ret ⟨.ret, st, I, η, rfl, h, H, .refl U I, .refl U I w, .refl η⟩
theorem W.goto {l : Nat} (h : Q (.goto l) st) : W P rd (.goto l) Q st := fun a w U I η r hr H => wpP_goto ⟨.goto l, st, I, η, rfl, h, H, .refl U I, .refl U I w, .refl η⟩
theorem W.label {l : Nat} (h : Q .normal st) : W P rd (.label l) Q st := fun a w U I η r hr H => wpP_label ⟨.normal, st, I, η, rfl, h, H, .refl U I, .refl U I w, .refl η⟩

def Ex.then (next : St → Prop) (Q : Ex → St → Prop) : Ex → St → Prop
  | .normal, st => next st
  | x, st => Q x st

theorem W.seq {x y : Code} (h : W P rd x (Ex.then (W P rd y Q) Q) st) : W P rd (.seq x y) Q st := by
  intro a w U I η r hro H
  refine wpP_seq (wpP_mono (h a w U I η r hro H) ?_)
  rintro e a' w' ⟨x', st', I', η', h1, h2, h3, h4, h5, h6⟩
  cases x' with
  | normal =>
    obtain rfl := h1
    exact wpP_mono (h2 a' w' U I' η' r (hro.ext h6) h3) fun _ _ _ hp => hp.later h5 h4 h6
  | ret => obtain rfl := h1; exact ⟨.ret, st', I', η', rfl, h2, h3, h4, h5, h6⟩
  | exit id => obtain rfl := h1; exact ⟨.exit id, st', I', η', rfl, h2, h3, h4, h5, h6⟩
  | goto l => obtain rfl := h1; exact ⟨.goto l, st', I', η', rfl, h2, h3, h4, h5, h6⟩
  | panic v => obtain ⟨u, rfl, hu⟩ := h1; exact ⟨.panic v, st', I', η', ⟨u, rfl, hu⟩, h2, h3, h4, h5, h6⟩

theorem W.cond {c : Operand} {x y : Code} {b : Bool} (hc : st.ev c = .bool b) (h : W P rd (if b = true then x else y) Q st) : W P rd (.cond c x y) Q st := by
  intro a w U I η r hro H
  have := (H.fits c)
  rw [hc] at this
  refine wpP_cond (t := b) this.bool_inv ?_
  cases b <;> exact h a w U I η r hro H

def Ex.inBlock (id : Nat) (Q : Ex → St → Prop) : Ex → St → Prop
  | .exit i, st => if i = id then Q .normal st else Q (.exit i) st
  | x, st => Q x st

theorem W.block {id : Nat} {c : Code} (h : W P rd c (Ex.inBlock id Q) st) : W P rd (.block id c) Q st := by
  intro a w U I η r hro H
  refine wpP_block (wpP_mono (h a w U I η r hro H) ?_)
  rintro e a' w' ⟨x', st', I', η', h1, h2, h3⟩
  cases x' with
  | normal => obtain rfl := h1; exact ⟨.normal, st', I', η', rfl, h2, h3⟩
  | ret => obtain rfl := h1; exact ⟨.ret, st', I', η', rfl, h2, h3⟩
  | exit i =>
    obtain rfl := h1
    simp only [Exit.inBlock]
    simp only [Ex.inBlock] at h2
    by_cases hi : i = id
    · rw [if_pos hi] at h2 ⊢
      exact ⟨.normal, st', I', η', rfl, h2, h3⟩
    · rw [if_neg hi] at h2 ⊢
      exact ⟨.exit i, st', I', η', rfl, h2, h3⟩
  | goto l => obtain rfl := h1; exact ⟨.goto l, st', I', η', rfl, h2, h3⟩
  | panic v => obtain ⟨u, rfl, hu⟩ := h1; exact ⟨.panic v, st', I', η', ⟨u, rfl, hu⟩, h2, h3⟩

/-- A loop: an invariant over abstract states, a measure. -/
theorem W.loop {c : Code} (J : Nat → St → Prop) {n : Nat} (h0 : J n st) (round : ∀ n st, J n st → W P rd c (Ex.then (fun st' => ∃ m, m < n ∧ J m st') Q) st) : W P rd (.loop c) Q st := by
  intro a w U I η r hro H
  have key : ∀ (n : Nat) (a : Act) (w1 : World) (I1 : Nat → Prop) (η1 : List Blk) (st : St), J n st → WR st a w1 U I1 η1 → Foot U I I1 → Keep U I w w1 → Ext η η1 →
      ∀ (b : Frame) (k : List Item) (cs : List Frame), b.roundOf = (wd P r).round → (wd P r).fn b.fn → (wd P r).room (cs.length + 1 + 0) →
      ∃ e a' w', Post Q w U I η e a' w' ∧ ArrP (Machine.fenced P (wd P r)) P (lone (b.atR a (.code c :: .inLoop c :: k)) cs w1) b k cs e a' w' := by
    intro n
    induction n using Nat.strongRecOn with
    | _ n ih =>
      intro a w1 I1 η1 st hJ H1 hf hk hx b k cs hbro hb hr
      obtain ⟨e, a1, w2, ⟨x, st', I', η', h1, h2, h3, h4, h5, h6⟩, harr⟩ := round n st hJ a w1 U I1 η1 r (hro.ext hx) H1 b (.inLoop c :: k) cs hbro hb hr
      cases x with
      | normal =>
        obtain rfl := h1
        obtain ⟨m, hm, hJ'⟩ := h2
        obtain ⟨e2, a2, w3, hq2, harr2⟩ := ih m hm a1 w2 I' η' st' hJ' h3 (hf.trans h4) (hk.trans h5 hf.le) (hx.trans h6) b k cs hbro hb hr
        exact ⟨e2, a2, w3, hq2, .of_steps (StepsIn.trans harr (.one (fenced_calm hb hr rfl) stepR_inLoop)) harr2⟩
      | ret =>
        obtain rfl := h1
        exact ⟨_, a1, w2, Post.later hk hf hx ⟨.ret, st', I', η', rfl, h2, h3, h4, h5, h6⟩, .pass (x := .inLoop c) rfl (fun _ _ => .inl (by simp)) harr⟩
      | exit id =>
        obtain rfl := h1
        exact ⟨_, a1, w2, Post.later hk hf hx ⟨.exit id, st', I', η', rfl, h2, h3, h4, h5, h6⟩, .pass (x := .inLoop c) rfl (fun _ _ => .inl (by simp)) harr⟩
      | goto l =>
        obtain rfl := h1
        exact ⟨_, a1, w2, Post.later hk hf hx ⟨.goto l, st', I', η', rfl, h2, h3, h4, h5, h6⟩, .pass (x := .inLoop c) rfl (fun _ _ => .inl (by simp)) harr⟩
      | panic v =>
        obtain ⟨u, rfl, hu⟩ := h1
        exact ⟨_, a1, w2, Post.later hk hf hx ⟨.panic v, st', I', η', ⟨u, rfl, hu⟩, h2, h3, h4, h5, h6⟩, .pass (x := .inLoop c) rfl (fun _ _ => .inl (by simp)) harr⟩
  intro b k cs hbro hb hr
  obtain ⟨e, a', w', hq, harr⟩ := key n a w I η st h0 H (.refl U I) (.refl U I w) (.refl η) b k cs hbro hb hr
  exact ⟨e, a', w', hq, .of_steps (.one (fenced_calm hb hr rfl) stepR_loop) harr⟩

/-! ### Regions -/
theorem W.region {id : Nat} {l : List Oper} (h : WL P rd l.toArray l Q st) : W P rd (.region id l.toArray false) Q st :=
  fun a w U I η r hr H => wpP_region_lit (h a w U I η r hr H)
theorem WL.nil {ops : Array Oper} (h : Q .normal st) : WL P rd ops [] Q st :=
  fun a w U I η r hr H => ⟨.normal, st, I, η, rfl, h, H, .refl U I, .refl U I w, .refl η⟩

theorem WR.wanted {a : Act} {w : World} {U I : Nat → Prop} {η : List Blk} (H : WR st a w U I η) {ops : Array Oper} {o : Oper} {j : Nat} {want : Bool} {y : Option Bool} (hg : o.guard = some (j, want)) (hy : yieldA ops st j = some y) :
    Region.wanted o (yielded ops a.tmps) = decide (y = some want) := by
  simp only [Region.wanted, hg, yieldA_run H hy]
  cases y with
  | none => simp
  | some b => cases b <;> cases want <;> rfl

theorem WL.step {ops : Array Oper} {o : Oper} {rest : List Oper} {st' : St} (hs : absStep P ops o st = some st') (hnd : ∀ c, o.op ≠ .defer c) (h : WL P rd ops rest Q st') : WL P rd ops (o :: rest) Q st := by
  intro a w U I η r hro H
  have exec : absExec P o st = some st' → o.wpIn (wd P r) 0 P a w (wpListIn (wd P r) 0 P ops (Post Q w U I η) rest) (Post Q w U I η) := by
    intro he
    unfold absExec at he
    obtain ⟨⟨v, st1⟩, hax, hp⟩ := Option.bind_eq_some_iff.1 he
    obtain ⟨nx, u, w', η', hr, hnx, hv, H', hk, hx⟩ := absX_run (P := P) H hax
    obtain ⟨H2, hd2⟩ := H'.put hv hp
    have hgo : wpListIn (wd P r) 0 P ops (Post Q w U I η) rest (a.put o.dst u) w' :=
      wpListIn_mono (fun _ _ _ hp => hp.later hk (.refl U I) hx) rest _ _ (h _ w' U I η' r (hro.ext hx) H2)
    refine ⟨fun f hf => (by rw [about_quiet hax] at hf; cases hf), ?_⟩
    rw [Oper.semAt_eq _ _ _ hnd, hr]
    rcases hnx with rfl | ⟨rfl, rfl⟩ <;> exact hgo
  unfold wpListIn
  unfold absStep at hs
  cases hg : o.guard with
  | none =>
    rw [hg] at hs
    rw [if_pos (by simp [Region.wanted, hg])]
    exact exec hs
  | some jw =>
    obtain ⟨j, want⟩ := jw
    rw [hg] at hs
    obtain ⟨y, hy, hs⟩ := Option.bind_eq_some_iff.1 hs
    have hw := H.wanted (ops := ops) hg hy
    split at hs
    · rename_i hyw
      rw [if_pos (by rw [hw]; simpa using hyw)]
      exact exec hs
    · rename_i hyw
      rw [if_neg (by rw [hw]; simpa using hyw)]
      split at hs
      case isFalse => cases hs
      rename_i hab
      obtain ⟨H2, hd2⟩ := H.put (u := undef) (.tup [] #[] rfl (fun i v u h => by simp at h)) hs
      exact ⟨aboutOk_run H hab, h _ w U I η r hro H2⟩
end rules
end Go.Ab
