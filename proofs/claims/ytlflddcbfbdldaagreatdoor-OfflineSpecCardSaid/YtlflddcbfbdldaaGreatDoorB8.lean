/- Ab, part 17: regions that draw their order: one walk of the text's order serves every order. -/
import Derived.Test.YtlflddcbfbdldaaGreatDoorB7
namespace Go.Ab
open Go

section
variable {P : Program} {ops : Array Oper}

/-- Is an operation wanted? none: not known. -/
def wantA (ops : Array Oper) (st : St) (o : Oper) : Option Bool :=
  match o.guard with
  | none => some true
  | some (j, want) => (yieldA ops st j).map fun y => decide (y = some want)

/-- What one operation makes: a value, the objects behind it. -/
inductive Act1 (P : Program) (o : Oper) (st : St) : V → List Ob → Prop
  | x {v : V} {st' : St} (h : absX P st o.op = some (v, st')) (hnd : ∀ c, o.op ≠ .defer c) : Act1 P o st v st'.G
  | call {c : Call} {g : Operand} {f : FuncId} {first caps : List V} {v : V} {G1 : List Ob} (ho : o.op = .call c) (hc : c.callee = .value g) (hg : st.ev g = .fn (.func f) first caps) (hent : enters P f = true)
      (h : Cal P f (first ++ c.args.toList.map st.ev ++ caps) st.G (fun x G' => x = .ret v ∧ G' = G1)) (hge : GE st.G G1) : Act1 P o st v G1
inductive EffV (P : Program) (ops : Array Oper) (o : Oper) (st : St) : V → List Ob → Prop
  | act {v : V} {G1 : List Ob} (hw : wantA ops st o = some true) (h : Act1 P o st v G1) : EffV P ops o st v G1
  | skip (hw : wantA ops st o = some false) (ha : aboutOk P st o.op = true) : EffV P ops o st (.tup []) st.G

def EffA (P : Program) (ops : Array Oper) (o : Oper) (st st' : St) : Prop := ∃ v G1, EffV P ops o st v G1 ∧ ({ st with G := G1 } : St).put o.dst v = some st'

theorem absX_same {st st' : St} {op : Op} {v : V} (h : absX P st op = some (v, st')) : st' = { st with G := st'.G } := by
  have := absX_agree (P := P) (N := st.N) (N2 := st.N) (s := st.s) (s2 := st.s) (G := st.G) (D := st.D) (D2 := st.D) (op := op) (fun _ _ => rfl)
  have h' : absX P ⟨st.N, st.s, st.G, st.D⟩ op = some (v, st') := h
  rw [h'] at this
  simp only [Option.map_some, Option.some.injEq, Prod.mk.injEq, true_and] at this
  exact this

theorem Act1.xw {o : Oper} {st : St} {v : V} {G1 : List Ob} (h : Act1 P o st v G1) : XW P o st (fun x s => x = .ret v ∧ s = { st with G := G1 }) := by
  cases h with
  | x h hnd => exact XW.quiet h hnd ⟨rfl, absX_same h⟩
  | call ho hc hg hent h hge => exact XW.call ho hc hg hent h (fun x G' hx => ⟨hx.1, by rw [hx.2]⟩)

theorem XW.mono {o : Oper} {st : St} {Q Q' : Out → St → Prop} (h : XW P o st Q) (hq : ∀ x s, Q x s → Q' x s) : XW P o st Q' :=
  fun a w U I η r next q H h1 h2 => h a w U I η r next q H (fun v u st' w' I' η' k => h1 v u st' w' I' η' (hq _ _ k)) (fun v u st' w' I' η' k => h2 v u st' w' I' η' (hq _ _ k))

/-- One operation, in a walk of the text's order. -/
theorem WL.eff {rd : Option Nat} {o : Oper} {rest : List Oper} {Q : Ex → St → Prop} {st st' : St} (h : EffA P ops o st st') (hn : WL P rd ops rest Q st') : WL P rd ops (o :: rest) Q st := by
  obtain ⟨v, G1, he, hp⟩ := h
  cases he with
  | act hw h =>
    refine WL.op ?_ h.xw (fun v' s hs => ?_) (fun v' s hs => by cases hs.1)
    · intro j want hg
      unfold wantA at hw
      rw [hg] at hw
      obtain ⟨y, hy, hyw⟩ := Option.map_eq_some_iff.1 hw
      rw [hy]
      simpa using hyw
    · obtain ⟨h1, rfl⟩ := hs
      injection h1 with h1
      subst h1
      exact ⟨st', hp, hn⟩
  | skip hw ha =>
    intro a w U I η r hro H
    unfold wpListIn
    unfold wantA at hw
    cases hg : o.guard with
    | none => rw [hg] at hw; simp at hw
    | some jw =>
      obtain ⟨j, want⟩ := jw
      rw [hg] at hw
      obtain ⟨y, hy, hyw⟩ := Option.map_eq_some_iff.1 hw
      rw [if_neg (by rw [H.wanted hg hy]; simpa using hyw)]
      obtain ⟨H2, _⟩ := H.put (u := undef) (.tup [] #[] rfl (fun i v u h => by simp at h)) hp
      exact ⟨aboutOk_run H ha, hn _ w U I η r hro H2⟩

/-! ### Every order -/
def OpA (P : Program) (ops : Array Oper) (i : Nat) (st : St) (K : St → Prop) : Prop :=
  match ops[i]? with
  | none => K st
  | some o => ∃ st', EffA P ops o st st' ∧ K st'
def AnyA (P : Program) (ops : Array Oper) (Q : St → Prop) : Nat → Array Bool → St → Prop
  | 0, listed, st => Region.ready .any ops listed = [] ∧ Q st
  | fuel + 1, listed, st => (Region.ready .any ops listed = [] → Q st) ∧ ∀ i ∈ Region.ready .any ops listed, OpA P ops i st (AnyA P ops Q fuel (listed.setIfInBounds i true))

theorem AnyA.run {Q : Ex → St → Prop} {w0 : World} {U I0 : Nat → Prop} {η0 : List Blk} {rd r : Option Nat} : ∀ (fuel : Nat) (listed : Array Bool) (st : St) (a : Act) (w : World) (I : Nat → Prop) (η : List Blk), AnyA P ops (Q .normal) fuel listed st → Ro η rd r → WR st a w U I η →
    Foot U I0 I → Keep U I0 w0 w → Ext η0 η → wpAnyIn (wd P r) 0 P .any ops (Post Q w0 U I0 η0) fuel listed a w
  | 0, listed, st, a, w, I, η, h, hro, H, hf, hk, he => ⟨h.1, .normal, st, I, η, rfl, h.2, H, hf, hk, he⟩
  | fuel + 1, listed, st, a, w, I, η, h, hro, H, hf, hk, he => by
    refine ⟨fun h0 => ⟨.normal, st, I, η, rfl, h.1 h0, H, hf, hk, he⟩, fun i hi => ?_⟩
    have hop := h.2 i hi
    unfold OpA at hop
    unfold wpOpIn
    cases ho : ops[i]? with
    | none =>
      rw [ho] at hop
      exact AnyA.run fuel _ st a w I η hop hro H hf hk he
    | some o =>
      rw [ho] at hop
      obtain ⟨st', ⟨v, G1, hE, hp⟩, hK⟩ := hop
      simp only
      cases hE with
      | act hw hact =>
        have hwt : Region.wanted o (yielded ops a.tmps) = true := by
          unfold wantA at hw
          cases hg : o.guard with
          | none => simp [Region.wanted, hg]
          | some jw =>
            obtain ⟨j, want⟩ := jw
            rw [hg] at hw
            obtain ⟨y, hy, hyw⟩ := Option.map_eq_some_iff.1 hw
            rw [H.wanted hg hy]
            exact hyw
        rw [if_pos hwt]
        refine hact.xw a w U I η r _ _ H ?_ ?_
        · rintro v' u s w' I' η' ⟨h1, rfl⟩ hu H' hf' hk' he'
          injection h1 with h1
          subst h1
          obtain ⟨H2, _⟩ := H'.put hu hp
          exact AnyA.run fuel _ st' _ w' I' η' hK (hro.ext he') H2 (hf.trans hf') (hk.trans hk' hf.le) (he.trans he')
        · rintro v' u s w' I' η' ⟨h1, _⟩
          cases h1
      | skip hw ha =>
        have hwt : Region.wanted o (yielded ops a.tmps) = false := by
          unfold wantA at hw
          cases hg : o.guard with
          | none => rw [hg] at hw; simp at hw
          | some jw =>
            obtain ⟨j, want⟩ := jw
            rw [hg] at hw
            obtain ⟨y, hy, hyw⟩ := Option.map_eq_some_iff.1 hw
            rw [H.wanted hg hy]
            exact hyw
        rw [if_neg (by rw [hwt]; simp)]
        obtain ⟨H2, _⟩ := H.put (u := undef) (.tup [] #[] rfl (fun i v u h => by simp at h)) hp
        exact ⟨aboutOk_run H ha, AnyA.run fuel _ st' _ w I η hK hro H2 hf hk he⟩

/-! ### What moves past what -/
def updS (s : Nat → V) (d : Option Nat) (v : V) : Nat → V := match d with
  | some d => fun t => if t = d then v else s t
  | none => s
theorem put_iff {st st' : St} {d : Option Nat} {v : V} : st.put d v = some st' ↔ (∀ t, d = some t → t < st.N) ∧ st' = { st with s := updS st.s d v } := by
  cases d with
  | none =>
    simp only [St.put, updS, Option.some.injEq, reduceCtorEq, false_implies, implies_true, true_and]
    exact eq_comm
  | some d =>
    simp only [St.put, St.set, updS]
    constructor
    · intro h
      split at h
      · rename_i hd
        injection h with h
        exact ⟨fun t ht => by injection ht with ht; subst ht; exact hd, h.symm⟩
      · cases h
    · rintro ⟨h1, rfl⟩
      rw [if_pos (h1 d rfl)]

theorem ev_upd {N : Nat} {s : Nat → V} {G : List Ob} {D : List Df} {d : Option Nat} {v : V} {x : Operand} (h : ∀ t, d = some t → x ≠ .tmp t) : St.ev ⟨N, updS s d v, G, D⟩ x = St.ev ⟨N, s, G, D⟩ x := by
  cases x with
  | tmp t =>
    cases d with
    | none => rfl
    | some d =>
      have : t ≠ d := fun e => h d rfl (by rw [e])
      simp [St.ev, updS, this]
  | const c => rfl
  | global g => rfl
  | func f => rfl

theorem ev_looks {N : Nat} {s : Nat → V} {G : List Ob} {D : List Df} {d : Option Nat} {v : V} {o : Oper} (h : ∀ t, d = some t → t ∉ o.looksAt ops) : ∀ x ∈ o.op.operands.toList, St.ev ⟨N, updS s d v, G, D⟩ x = St.ev ⟨N, s, G, D⟩ x := by
  intro x hx
  refine ev_upd fun t ht hxt => h t ht ?_
  subst hxt
  exact List.mem_append_left _ (List.mem_filterMap.2 ⟨.tmp t, hx, rfl⟩)
theorem want_looks {N : Nat} {s : Nat → V} {G G' : List Ob} {D : List Df} {d : Option Nat} {v : V} {o : Oper} (h : ∀ t, d = some t → t ∉ o.looksAt ops) : wantA ops ⟨N, updS s d v, G', D⟩ o = wantA ops ⟨N, s, G, D⟩ o := by
  unfold wantA
  cases hg : o.guard with
  | none => rfl
  | some jw =>
    obtain ⟨j, want⟩ := jw
    simp only
    unfold yieldA
    cases hj : (ops[j]?).bind (·.dst) with
    | none => rfl
    | some e =>
      simp only
      have : updS s d v e = s e := by
        cases d with
        | none => rfl
        | some d =>
          have : e ≠ d := by
            intro hed
            refine h d rfl (List.mem_append_right _ ?_)
            simp only [hg, hj, hed]
            simp
          simp [updS, this]
      rw [this]

theorem about_looks {N : Nat} {s : Nat → V} {G G' : List Ob} {D : List Df} {d : Option Nat} {v : V} {o : Oper} (h : ∀ t, d = some t → t ∉ o.looksAt ops) : aboutOk P ⟨N, updS s d v, G', D⟩ o.op = aboutOk P ⟨N, s, G, D⟩ o.op := by
  rfl

/-- The slots that are not looked at do not count. -/
theorem EffV.looks {N : Nat} {s : Nat → V} {G : List Ob} {D : List Df} {d : Option Nat} {v : V} {o : Oper} (h : ∀ t, d = some t → t ∉ o.looksAt ops) {u : V} {G1 : List Ob} :
    EffV P ops o ⟨N, updS s d v, G, D⟩ u G1 ↔ EffV P ops o ⟨N, s, G, D⟩ u G1 := by
  have he := ev_looks (ops := ops) (N := N) (s := s) (G := G) (D := D) (v := v) h
  have hw := want_looks (ops := ops) (N := N) (s := s) (G := G) (G' := G) (D := D) (v := v) h
  have ha := about_looks (P := P) (ops := ops) (N := N) (s := s) (G := G) (G' := G) (D := D) (v := v) h
  have hx : absX P ⟨N, updS s d v, G, D⟩ o.op = (absX P ⟨N, s, G, D⟩ o.op).map fun r => (r.1, ⟨N, updS s d v, r.2.G, D⟩) := absX_agree he
  have hm : ∀ {c : Call}, o.op = .call c → c.args.toList.map (St.ev ⟨N, updS s d v, G, D⟩) = c.args.toList.map (St.ev ⟨N, s, G, D⟩) := fun {c} ho => by
    rw [ho] at he
    exact List.map_congr_left fun x hx => he x (by simp [Op.operands, Call.operands]; exact .inr (by simpa using hx))
  have hg' : ∀ {c : Call} {g : Operand}, o.op = .call c → c.callee = .value g → St.ev ⟨N, updS s d v, G, D⟩ g = St.ev ⟨N, s, G, D⟩ g := fun {c g} ho hc => by
    rw [ho] at he
    exact he g (by simp [Op.operands, Call.operands, hc])
  constructor
  · intro k
    cases k with
    | act k1 k2 =>
      refine .act (by rw [← hw]; exact k1) ?_
      cases k2 with
      | x hh hnd =>
        rw [hx] at hh
        obtain ⟨⟨v', s'⟩, h1, h2⟩ := Option.map_eq_some_iff.1 hh
        simp only [Prod.mk.injEq] at h2
        obtain ⟨rfl, rfl⟩ := h2
        exact Act1.x (st' := s') h1 hnd
      | call ho hc hg hent hh hge => exact .call ho hc (by rw [← hg' ho hc]; exact hg) hent (by rw [← hm ho]; exact hh) hge
    | skip k1 k2 => exact .skip (by rw [← hw]; exact k1) (by rw [← ha]; exact k2)
  · intro k
    cases k with
    | act k1 k2 =>
      refine .act (by rw [hw]; exact k1) ?_
      cases k2 with
      | x hh hnd =>
        rename_i s'
        exact .x (st' := ⟨N, updS s d v, s'.G, D⟩) (by rw [hx, hh]; rfl) hnd
      | call ho hc hg hent hh hge => exact .call ho hc (by rw [hg' ho hc]; exact hg) hent (by rw [hm ho]; exact hh) hge
    | skip k1 k2 => exact .skip (by rw [hw]; exact k1) (by rw [ha]; exact k2)

theorem want_G {N : Nat} {s : Nat → V} {G G' : List Ob} {D : List Df} {o : Oper} : wantA ops ⟨N, s, G', D⟩ o = wantA ops ⟨N, s, G, D⟩ o := rfl
theorem about_G {N : Nat} {s : Nat → V} {G G' : List Ob} {D : List Df} {op : Op} : aboutOk P ⟨N, s, G', D⟩ op = aboutOk P ⟨N, s, G, D⟩ op := by
  rfl

/-- Quiet operations leave the objects. -/
theorem EffV.quiet {st : St} {o : Oper} {v : V} {G1 : List Ob} (hk : kindOf o.op = .pure ∨ kindOf o.op = .read) (h : EffV P ops o st v G1) : G1 = st.G := by
  cases h with
  | act hw h =>
    cases h with
    | x h hnd =>
      rw [absX_quietK hk] at h
      obtain ⟨v', _, h2⟩ := Option.map_eq_some_iff.1 h
      simp only [Prod.mk.injEq] at h2
      rw [← h2.2]
    | call ho hc hg hent h hge =>
      rw [ho] at hk
      simp [kindOf, hc] at hk
  | skip hw ha => rfl
theorem EffV.ge {N : Nat} {s : Nat → V} {G : List Ob} {D : List Df} {o : Oper} {v : V} {G1 : List Ob} (hk : kindOf o.op = .pure ∨ kindOf o.op = .read ∨ kindOf o.op = .mild) (h : EffV P ops o ⟨N, s, G, D⟩ v G1) : GE G G1 := by
  cases h with
  | act hw h =>
    cases h with
    | x h hnd =>
      rcases hk with hk | hk | hk
      · rw [absX_quietK (.inl hk)] at h
        obtain ⟨v', _, h2⟩ := Option.map_eq_some_iff.1 h
        simp only [Prod.mk.injEq] at h2
        rw [← h2.2]
        exact .refl G
      · rw [absX_quietK (.inr hk)] at h
        obtain ⟨v', _, h2⟩ := Option.map_eq_some_iff.1 h
        simp only [Prod.mk.injEq] at h2
        rw [← h2.2]
        exact .refl G
      · obtain ⟨l, rfl⟩ := absX_mild hk h
        exact .push G l
    | call ho hc hg hent h hge => exact hge
  | skip hw ha => exact .refl G
/-- A quiet operation yields the same with more objects. -/
theorem EffV.up {N : Nat} {s : Nat → V} {G G' : List Ob} {D : List Df} {o : Oper} {v : V} {G1 : List Ob} (hk : kindOf o.op = .pure ∨ (kindOf o.op = .read ∧ GE G G')) (h : EffV P ops o ⟨N, s, G, D⟩ v G1) : EffV P ops o ⟨N, s, G', D⟩ v G' := by
  have hk' : kindOf o.op = .pure ∨ kindOf o.op = .read := hk.imp id And.left
  cases h with
  | act hw h =>
    refine .act hw ?_
    cases h with
    | x h hnd =>
      rw [absX_quietK hk'] at h
      obtain ⟨v', h1, h2⟩ := Option.map_eq_some_iff.1 h
      simp only [Prod.mk.injEq] at h2
      obtain ⟨rfl, rfl⟩ := h2
      have h3 : absQ P ⟨N, s, G', D⟩ o.op = some v' := by
        rcases hk with hk | ⟨hk, hg⟩
        · rw [absQ_pure (G := G) hk]; exact h1
        · exact absQ_up (.inr hk) hg h1
      exact Act1.x (st' := ⟨N, s, G', D⟩) (by rw [absX_quietK hk', h3]; rfl) hnd
    | call ho hc hg hent h hge =>
      rw [ho] at hk'
      simp [kindOf, hc] at hk'
  | skip hw ha => exact .skip hw (by rw [about_G (G := G)]; exact ha)
theorem EffV.back {N : Nat} {s : Nat → V} {G G' : List Ob} {D : List Df} {o : Oper} {v : V} {G1 : List Ob} (hk : kindOf o.op = .pure ∨ (kindOf o.op = .read ∧ GE G G' ∧ St.low ⟨N, s, G, D⟩)) (h : EffV P ops o ⟨N, s, G', D⟩ v G1) : EffV P ops o ⟨N, s, G, D⟩ v G := by
  have hk' : kindOf o.op = .pure ∨ kindOf o.op = .read := hk.imp id And.left
  cases h with
  | act hw h =>
    refine .act hw ?_
    cases h with
    | x h hnd =>
      rw [absX_quietK hk'] at h
      obtain ⟨v', h1, h2⟩ := Option.map_eq_some_iff.1 h
      simp only [Prod.mk.injEq] at h2
      obtain ⟨rfl, rfl⟩ := h2
      have h3 : absQ P ⟨N, s, G, D⟩ o.op = some v' := by
        rcases hk with hk | ⟨hk, hg, hl⟩
        · rw [absQ_pure (G := G') hk]; exact h1
        · rw [← absQ_back (.inr hk) hg hl]; exact h1
      exact Act1.x (st' := ⟨N, s, G, D⟩) (by rw [absX_quietK hk', h3]; rfl) hnd
    | call ho hc hg hent h hge =>
      rw [ho] at hk'
      simp [kindOf, hc] at hk'
  | skip hw ha => exact .skip hw (by rw [about_G (G := G')]; exact ha)

theorem updS_comm {s : Nat → V} {d e : Option Nat} {v u : V} (h : ∀ t, d = some t → e ≠ some t) : updS (updS s d v) e u = updS (updS s e u) d v := by
  cases d with
  | none => rfl
  | some d =>
    cases e with
    | none => rfl
    | some e =>
      have hne : d ≠ e := fun he => h d rfl (by rw [he])
      funext t
      simp only [updS]
      by_cases h1 : t = e
      · subst h1
        simp [Ne.symm hne]
      · by_cases h2 : t = d
        · subst h2; simp [h1]
        · simp [h1, h2]

/-- An operation, and one behind it that is apart from it: they may come the other way round. -/
theorem EffA.swap {oi oj : Oper} {st st1 st2 : St} (hl : st.low) (hap : oi.apart ops oj = true) (hc : compat oi oj = true) (h1 : EffA P ops oi st st1) (h2 : EffA P ops oj st1 st2) :
    ∃ st3, EffA P ops oj st st3 ∧ EffA P ops oi st3 st2 := by
  obtain ⟨v, Gi, hi, pi⟩ := h1
  obtain ⟨u, Gij, hj, pj⟩ := h2
  obtain ⟨a1, a2, a3⟩ := Oper.apart_spec hap
  obtain ⟨ni, rfl⟩ := put_iff.1 pi
  obtain ⟨nj, rfl⟩ := put_iff.1 pj
  obtain ⟨N, s, G, D⟩ := st
  simp only at hj ni nj pi pj ⊢
  have hj' := (EffV.looks (P := P) (ops := ops) (N := N) (s := s) (G := Gi) (D := D) (v := v) a1).1 hj
  by_cases q : (kindOf oi.op = .pure ∨ kindOf oi.op = .read) ∧ (kindOf oi.op = .pure ∨ kindOf oj.op = .pure ∨ kindOf oj.op = .read ∨ kindOf oj.op = .mild)
  · have hGi : Gi = G := EffV.quiet q.1 hi
    subst hGi
    refine ⟨⟨N, updS s oj.dst u, Gij, D⟩, ⟨u, Gij, hj', put_iff.2 ⟨nj, rfl⟩⟩, v, Gij, ?_, put_iff.2 ⟨ni, ?_⟩⟩
    · refine (EffV.looks a3).2 (EffV.up ?_ hi)
      rcases q.2 with h | h
      · exact .inl h
      · exact q.1.elim .inl fun hr => .inr ⟨hr, EffV.ge h hj'⟩
    · simp only [updS_comm a2]
  · have q2 : (kindOf oj.op = .pure ∨ (kindOf oj.op = .read ∧ kindOf oi.op = .mild)) := by
      unfold compat at hc
      cases hki : kindOf oi.op <;> cases hkj : kindOf oj.op <;> simp_all
    have hk : kindOf oj.op = .pure ∨ kindOf oj.op = .read := q2.imp id And.left
    have hGij : Gij = Gi := EffV.quiet (st := ⟨N, s, Gi, D⟩) hk hj'
    subst hGij
    have hj'' : EffV P ops oj ⟨N, s, G, D⟩ u G := EffV.back (q2.imp id fun h => ⟨h.1, EffV.ge (.inr (.inr h.2)) hi, hl⟩) hj'
    refine ⟨⟨N, updS s oj.dst u, G, D⟩, ⟨u, G, hj'', put_iff.2 ⟨nj, rfl⟩⟩, v, Gij, (EffV.looks a3).2 hi, put_iff.2 ⟨ni, ?_⟩⟩
    simp only [updS_comm a2]
end
end Go.Ab
