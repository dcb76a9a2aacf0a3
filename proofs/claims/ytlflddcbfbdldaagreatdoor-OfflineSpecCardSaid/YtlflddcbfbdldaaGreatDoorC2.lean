/- Ab, part 20: what a run on abstract states shows. -/
import Derived.Test.YtlflddcbfbdldaaGreatDoorC1
namespace Go.Ab
open Go

section
variable {P : Program}

theorem T.setK_spec {α : Type} : ∀ (t : T) (n : Nat) (v : V) (k : T → M α) (r : α), t.setK n v k = some r → ∃ t' : T, (∀ i, t'.get i = if i = n then v else t.get i) ∧ k t' = some r
  | .nil, n, v, k, r, h => by simp [T.setK, fail] at h
  | .node l w q, n, v, k, r, h => by
    cases n with
    | zero =>
      refine ⟨_, fun i => ?_, h⟩
      cases i with
      | zero => rfl
      | succ m => rfl
    | succ m =>
      have hdm := Nat.div_add_mod m 2
      have hlt : m % 2 < 2 := Nat.mod_lt _ (by omega)
      unfold T.setK at h
      simp only at h
      split at h
      · rename_i hm
        obtain ⟨t', ht, hk⟩ := T.setK_spec l (m / 2) v _ r h
        refine ⟨_, fun i => ?_, hk⟩
        cases i with
        | zero => rfl
        | succ a =>
          have hda := Nat.div_add_mod a 2
          simp only [T.get]
          split
          · rename_i ha
            rw [ht]
            by_cases hq : a / 2 = m / 2
            · rw [if_pos hq, if_pos (by simp at ha hm; omega)]
            · rw [if_neg hq, if_neg (by omega)]
          · rename_i y ha
            rw [if_neg (by simp at ha hm; omega)]
      · rename_i y hm
        obtain ⟨t', ht, hk⟩ := T.setK_spec q (m / 2) v _ r h
        refine ⟨_, fun i => ?_, hk⟩
        cases i with
        | zero => rfl
        | succ a =>
          have hda := Nat.div_add_mod a 2
          have hla : a % 2 < 2 := Nat.mod_lt _ (by omega)
          simp only [T.get]
          split
          · rename_i ha
            rw [if_neg (by simp at ha hm; omega)]
          · rename_i y' ha
            rw [ht]
            by_cases hq : a / 2 = m / 2
            · rw [if_pos hq, if_pos (by simp at ha hm; omega)]
            · rw [if_neg hq, if_neg (by omega)]
theorem CSt.putK_spec {α : Type} {c : CSt} {G : List Ob} {d : Option Nat} {v : V} {k : CSt → M α} {r : α} (h : c.putK G d v k = some r) : ∃ c' : CSt, ({ c.st with G := G } : St).put d v = some c'.st ∧ c'.G = G ∧ k c' = some r := by
  unfold CSt.putK at h
  cases d with
  | none => exact ⟨_, rfl, rfl, h⟩
  | some d =>
    simp only at h
    split at h
    · rename_i hd
      obtain ⟨t', ht, hk⟩ := T.setK_spec _ _ _ _ _ h
      refine ⟨_, ?_, rfl, hk⟩
      have : t'.get = fun i => if i = d then v else c.tm.get i := funext ht
      have hd' : d < ({ c.st with G := G } : St).N := hd
      simp only [St.put]
      rw [if_pos hd']
      simp only [CSt.st, St.set, this]
    · cases h
theorem T.ofLK_spec {α : Type} : ∀ (vs : List V) (i : Nat) (t : T) (k : T → M α) (r : α), T.ofLK vs i t k = some r → ∃ t' : T, (∀ j, t'.get j = if i ≤ j ∧ j < i + vs.length then vs.getD (j - i) .undef else t.get j) ∧ k t' = some r
  | [], i, t, k, r, h => ⟨t, fun j => by rw [if_neg (by simp)], h⟩
  | v :: vs, i, t, k, r, h => by
    obtain ⟨t1, h1, h⟩ := T.setK_spec _ _ _ _ _ h
    obtain ⟨t2, h2, h⟩ := T.ofLK_spec vs (i + 1) t1 k r h
    refine ⟨t2, fun j => ?_, h⟩
    rw [h2, h1]
    simp only [List.length_cons]
    by_cases hj : j = i
    · subst hj
      rw [if_neg (by omega), if_pos rfl, if_pos (by omega)]
      simp
    · rw [if_neg hj]
      by_cases hr : i + 1 ≤ j ∧ j < i + 1 + vs.length
      · rw [if_pos hr, if_pos (by omega), show j - i = (j - (i + 1)) + 1 by omega]
        simp
      · rw [if_neg hr, if_neg (by omega)]
theorem CSt.ofK_spec {α : Type} {N : Nat} {vs : List V} {G : List Ob} {k : CSt → M α} {r : α} (h : CSt.ofK N vs G k = some r) : ∃ c : CSt, c.st = ⟨N, fun t => vs.getD t .undef, G, []⟩ ∧ c.G = G ∧ k c = some r := by
  unfold CSt.ofK at h
  rw [natK_eq] at h
  obtain ⟨t', ht, hk⟩ := T.ofLK_spec _ _ _ _ _ h
  refine ⟨_, ?_, rfl, hk⟩
  have : t'.get = fun t => vs.getD t .undef := by
    funext j
    rw [ht, T.get_full]
    by_cases hj : j < vs.length
    · rw [if_pos (by omega)]; rfl
    · rw [if_neg (by omega), List.getD_eq_getElem?_getD, List.getElem?_eq_none (by omega)]; rfl
  simp only [CSt.st, this]
theorem T.listK_eq {α : Type} (t : T) : ∀ (n i : Nat) (k : List V → α), T.listK t i n k = k ((List.range' i n).map t.get)
  | 0, i, k => rfl
  | n + 1, i, k => by
    simp only [T.listK, V.wh_eq]
    rw [T.listK_eq t n (i + 1)]
    simp [List.range'_succ]
theorem CSt.listK_eq {α : Type} (c : CSt) (k : List V → α) : T.listK c.tm 0 c.N k = k ((List.range c.st.N).map c.st.s) := by
  rw [T.listK_eq, List.range_eq_range']
  rfl

def EqC (r : Ex × CSt) : Ex → St → Prop := fun x s => x = r.1 ∧ s = r.2.st
def EqO (r : Out × List Ob) : Out → List Ob → Prop := fun x G => x = r.1 ∧ G = r.2
structure Sound (P : Program) (E : Ev) : Prop where
  code : ∀ rd b c r, E.code rd b c = some r → W P rd b (EqC r) c.st
  call : ∀ f args G r, E.call f args G = some r → Cal P f args G (EqO r)
  lib : ∀ f args v, E.lib f args = some v → Fn1 P f args v

theorem outData_isData {x : Out} (h : outData x = true) : x.isData := by cases x <;> exact h

theorem evCallQ_sound {E : Ev} (S : Sound P E) {f : FuncId} {args : List V} {x : Out} (h : evCallQ E f args = some x) (G : List Ob) : Cal P f args G (EqO (x, G)) := by
  unfold evCallQ at h
  split at h
  · rename_i v hv
    injection h with h
    subst h
    exact S.lib f args v hv G
  · split at h
    · rename_i hall
      split at h
      · rename_i r0 h0
        split at h
        · rename_i hd
          injection h with h
          subst h
          have hc := S.call f args [] r0 h0
          have hda : dataL args := fun v hv => List.all_eq_true.1 hall v hv
          refine (Cal.frame hda (Φ := fun x => x = r0.1) (hc.mono fun x G' hx => ⟨hx.1, by rw [hx.1]; exact outData_isData hd⟩) G).mono ?_
          exact fun x G' hx => ⟨hx.1, hx.2.2⟩
        · cases h
      · cases h
    · cases h
theorem evCall_sound {E : Ev} (S : Sound P E) {f : FuncId} {args : List V} {G : List Ob} {r : Out × List Ob} (h : evCall E f args G = some r) : Cal P f args G (EqO r) := by
  unfold evCall at h
  split at h
  · rename_i x hx
    injection h with h
    subst h
    exact evCallQ_sound S hx G
  · exact S.call f args G r h

theorem evRound_sound {i : Nat} {r : Ex × CSt} {q : Out × List Ob} (h : evRound i r = some q) {x : Ex} {s : St} (hx : EqC r x s) : RoundQ i (EqO q) x s := by
  obtain ⟨rfl, rfl⟩ := hx
  obtain ⟨x, s⟩ := r
  unfold evRound at h
  simp only [obsK_eq] at h
  have fin : ∀ jump : Option Code, (match s.G[i]? with
      | some (.obj (.loop nf _ _ tm ps as bd d)) => (pure (.ret (.bool jump.isNone), s.G.set i (.obj (.loop nf (if jump.isNone then .ready else .done) jump tm ps as bd d))) : M (Out × List Ob))
      | _ => fail "round: no loop") = some q →
      ∃ nf state pend tm ps assign body d, s.st.G[i]? = some (.obj (.loop nf state pend tm ps assign body d)) ∧
        EqO q (.ret (.bool jump.isNone)) (s.st.G.set i (.obj (.loop nf (if jump.isNone then .ready else .done) jump tm ps assign body d))) := by
    intro jump h
    split at h
    · rename_i hG
      injection h with h
      subst h
      exact ⟨_, _, _, _, _, _, _, _, hG, rfl, rfl⟩
    · cases h
  cases x with
  | normal => exact fin none h
  | ret => exact fin (some .ret) h
  | exit id => exact fin (some (.exit id)) h
  | goto l => exact fin (some (.goto l)) h
  | panic v =>
    simp only at h
    split at h
    · rename_i hD
      injection h with h
      subst h
      exact ⟨hD, rfl, rfl⟩
    · cases h

theorem evOp_sound {E : Ev} (S : Sound P E) {o : Oper} {c : CSt} {r : Out × List Ob} (hnd : ∀ c, o.op ≠ .defer c) (h : evOp P E o c = some r) : XW P o c.st (fun x s => x = r.1 ∧ s = { c.st with G := r.2 }) := by
  unfold evOp at h
  split at h
  · rename_i v N s G D hx
    rw [resK_eq, objK_eq] at h
    injection h with h
    subst h
    have hs := absX_same hx
    exact XW.quiet hx hnd ⟨rfl, hs⟩
  · split at h
    · rename_i cl ho
      split at h
      · rename_i g hc
        split at h
        · rename_i f first caps hg
          split at h
          · rename_i hent
            rw [spK_eq] at h
            exact XW.call ho hc hg hent (evCall_sound S h) (fun x G' hx => ⟨hx.1, by rw [hx.2]⟩)
          · cases h
        · rename_i i hg
          split at h
          · rename_i nf state pend tm ps assign body d hG
            split at h
            · rename_i hcond
              rw [spK_eq] at h
              obtain ⟨c0, hc0, _, h⟩ := CSt.ofK_spec h
              obtain ⟨q0, hq0, h⟩ := Option.bind_eq_some_iff.1 h
              split at h
              · rename_i nf1 pend1 tm1 ps1 as1 bd1 d1 hn1 hG1
                rw [obsK_eq] at h
                obtain ⟨q, hq, h⟩ := Option.bind_eq_some_iff.1 h
                have hA := S.code _ _ _ _ hq0
                rw [hc0] at hA
                refine XW.yield ho hc hg hG hcond (Φ := EqO r) (W.mono hA ?_) (fun x G' hx => ⟨hx.1, by rw [hx.2]⟩)
                rintro x s ⟨rfl, rfl⟩
                exact ⟨hn1, nf1, pend1, tm1, ps1, as1, bd1, d1, hG1, (S.code _ _ _ _ hq).mono fun x s hx => evRound_sound h hx⟩
              · cases h
            · cases h
          · cases h
        · cases h
      · cases h
    · rename_i x ho
      split at h
      · rename_i t v hx
        injection h with h
        subst h
        exact XW.panic ho hx ⟨rfl, rfl⟩
      · cases h
    · cases h

theorem want_true {ops : Array Oper} {st : St} {o : Oper} (hw : wantA ops st o = some true) : ∀ j want, o.guard = some (j, want) → yieldA ops st j = some (some want) := by
  intro j want hg
  unfold wantA at hw
  rw [hg] at hw
  obtain ⟨y, hy, hyw⟩ := Option.map_eq_some_iff.1 hw
  rw [hy]
  simpa using hyw

theorem evList_sound {E : Ev} (S : Sound P E) {rd : Option Nat} {ops : Array Oper} : ∀ (l : List Oper) (c : CSt) (r : Ex × CSt), evList P E rd ops l c = some r → WL P rd ops l (EqC r) c.st
  | [], c, r, h => by
    simp only [evList] at h
    injection h with h
    subst h
    exact WL.nil ⟨rfl, rfl⟩
  | o :: rest, c, r, h => by
    simp only [evList] at h
    split at h
    · rename_i hw
      obtain ⟨c', hp, _, h⟩ := CSt.putK_spec h
      exact WL.eff ⟨.tup [], c.st.G, .skip hw rfl, hp⟩ (evList_sound S rest c' r h)
    · rename_i hw
      split at h
      · rename_i cl ho
        split at h
        · rename_i hgd hc
          split at h
          · rename_i f first caps hg
            rw [spK_eq] at h
            obtain ⟨c', hp, _, h⟩ := CSt.putK_spec h
            exact WL.defer hgd ho hc hg hp (evList_sound S rest c' r h)
          · cases h
        · cases h
      · rename_i hnd
        obtain ⟨⟨x, G⟩, hq, h⟩ := Option.bind_eq_some_iff.1 h
        refine WL.op (want_true hw) (evOp_sound S (fun c hc => hnd c hc) hq) ?_ ?_
        · rintro v s ⟨h1, rfl⟩
          simp only at h1
          subst h1
          simp only at h
          obtain ⟨c', hp, _, h⟩ := CSt.putK_spec h
          exact ⟨c'.st, hp, evList_sound S rest c' r h⟩
        · rintro v s ⟨h1, rfl⟩
          simp only at h1
          subst h1
          injection h with h
          subst h
          exact ⟨rfl, rfl⟩
    · cases h

theorem evLex_sound {E : Ev} (S : Sound P E) {ops : Array Oper} {Q : St → Prop} : ∀ (l : List Oper) (c c' : CSt), evLex P E ops l c = some c' → Q c'.st → LexA P ops Q l c.st
  | [], c, c', h, hq => by
    simp only [evLex] at h
    injection h with h
    subst h
    exact hq
  | o :: rest, c, c', h, hq => by
    simp only [evLex] at h
    split at h
    · rename_i hw
      obtain ⟨s, hp, _, h⟩ := CSt.putK_spec h
      exact ⟨s.st, ⟨.tup [], c.st.G, .skip hw rfl, hp⟩, evLex_sound S rest s c' h hq⟩
    · rename_i hw
      split at h
      · rename_i v N s G D hx
        split at h
        · cases h
        · rename_i hnd
          rw [resK_eq, objK_eq] at h
          obtain ⟨s', hp, _, h⟩ := CSt.putK_spec h
          have hs := absX_same hx
          exact ⟨s'.st, ⟨v, G, .act hw (.x hx (fun c hc => hnd c hc)), hp⟩, evLex_sound S rest s' c' h hq⟩
      · split at h
        · rename_i cl ho
          split at h
          · rename_i g hc
            split at h
            · rename_i f first caps hg
              split at h
              · rename_i hent
                rw [spK_eq] at h
                split at h
                · rename_i v hq1
                  obtain ⟨s, hp, _, h⟩ := CSt.putK_spec h
                  exact ⟨s.st, ⟨v, c.st.G, .act hw (.call ho hc hg hent (evCallQ_sound S hq1 c.st.G) (GE.refl _)), hp⟩, evLex_sound S rest s c' h hq⟩
                · cases h
                · obtain ⟨⟨x, G⟩, hq1, h⟩ := Option.bind_eq_some_iff.1 h
                  split at h
                  · rename_i v G1 he
                    injection he with h1 h2
                    subst h1
                    subst h2
                    split at h
                    · rename_i hge
                      rw [obsK_eq] at h
                      obtain ⟨s, hp, _, h⟩ := CSt.putK_spec h
                      refine ⟨s.st, ⟨v, showL c.G G, .act hw (.call ho hc hg hent ((Cal.hide (S.call f _ (hideL c.G) _ hq1)).mono fun x G' hx => by
                        obtain ⟨G3, ⟨rfl, rfl⟩, rfl⟩ := hx
                        exact ⟨rfl, rfl⟩) (showL_ge _ _ (geB_ge _ _ hge))), hp⟩, evLex_sound S rest s c' h hq⟩
                    · cases h
                  · cases h
              · cases h
            · cases h
          · cases h
        · cases h
    · cases h

theorem evRange_sound {rd : Option Nat} {L : Nat} {c : CSt} {D : List Df} {r : Out × List Ob} {q : Ex × CSt} (h : evRange L c D r = some q) {x : Out} {G' : List Ob} (hx : EqO r x G') : RangeQ P rd (EqC q) L c.st D x G' := by
  obtain ⟨rfl, rfl⟩ := hx
  obtain ⟨x, G'⟩ := r
  unfold evRange at h
  cases x with
  | ret v =>
    simp only at h
    split at h
    · rename_i nf state pend tm ps as bd d hG
      split at h
      · cases h
      · rename_i hs
        rw [obsK_eq] at h
        refine ⟨nf, state, pend, tm, ps, as, bd, d, hG, hs, ?_⟩
        cases pend with
        | none =>
          injection h with h
          subst h
          exact ⟨rfl, rfl⟩
        | some b =>
          cases b <;> simp only at h <;> first | (cases h; done) | skip
          · injection h with h; subst h; exact W.exit ⟨rfl, rfl⟩
          · injection h with h; subst h; exact W.goto ⟨rfl, rfl⟩
          · injection h with h; subst h; exact W.ret ⟨rfl, rfl⟩
    · cases h
  | panic v =>
    injection h with h
    subst h
    exact ⟨rfl, rfl⟩

theorem view_same {st st1 : St} {v d : V} (h : st.view v = some (d, st1)) : st1 = { st with G := st1.G } := by
  unfold St.view at h
  split at h
  · split at h
    · split at h
      · injection h with h; injection h with _ h; subst h; rfl
      · cases h
    · cases h
  · split at h
    · split at h
      · injection h with h; injection h with _ h; subst h; rfl
      · cases h
    · cases h
  · split at h
    · injection h with h; injection h with _ h; subst h; rfl
    · cases h
theorem freezeK_sound {α : Type} {rd : Option Nat} {b : Code} {Q : Ex → St → Prop} {k : CSt → M α} {r : α} : ∀ (ts : List Nat) (c : CSt), freezeK ts c k = some r → (∀ c', k c' = some r → W P rd b Q c'.st) → W P rd b Q c.st
  | [], c, h, hk => hk c h
  | t :: ts, c, h, hk => by
    unfold freezeK at h
    split at h
    · rename_i i len hs
      split at h
      · rename_i d N s G D hv
        rw [V.wh_eq, obsK_eq] at h
        obtain ⟨c', hp, _, h⟩ := CSt.putK_spec h
        have hst : ({ c.st with G := G } : St).set t d = c'.st := by
          simp only [St.put] at hp
          split at hp
          · injection hp
          · cases hp
        have hsame : (⟨N, s, G, D⟩ : St) = { c.st with G := G } := by
          have := view_same hv
          exact this
        refine W.freeze (t := t) (d := d) (st1 := ⟨N, s, G, D⟩) (by rw [show c.st.s t = c.tm.get t from rfl, hs]; exact hv) ?_
        rw [hsame, hst]
        exact freezeK_sound ts c' h hk
      · exact freezeK_sound ts c h hk
    · exact freezeK_sound ts c h hk

theorem code_sound {lib : FuncId → List V → Option V} (hm : P.follows .mixedOrders = true) {N : Nat} (IH : ∀ m ≤ N, Sound P (evN P lib m)) : ∀ (c : Code) (n : Nat), n ≤ N → ∀ (rd : Option Nat) (st : CSt) (r : Ex × CSt), evCode P (evN P lib n) rd c st = some r → W P rd c (EqC r) st.st := by
  intro c
  induction c with
  | skip => intro n hn rd st r h; simp only [evCode] at h; injection h with h; subst h; exact W.skip ⟨rfl, rfl⟩
  | exit i => intro n hn rd st r h; simp only [evCode] at h; injection h with h; subst h; exact W.exit ⟨rfl, rfl⟩
  | ret => intro n hn rd st r h; simp only [evCode] at h; injection h with h; subst h; exact W.ret ⟨rfl, rfl⟩
  | goto l => intro n hn rd st r h; simp only [evCode] at h; injection h with h; subst h; exact W.goto ⟨rfl, rfl⟩
  | label l => intro n hn rd st r h; simp only [evCode] at h; injection h with h; subst h; exact W.label ⟨rfl, rfl⟩
  | seq x y ihx ihy =>
    intro n hn rd st r h
    simp only [evCode] at h
    obtain ⟨q, hq, h⟩ := Option.bind_eq_some_iff.1 h
    refine W.seq ((ihx n hn rd st q hq).mono ?_)
    rintro x s ⟨rfl, rfl⟩
    obtain ⟨qx, qs⟩ := q
    cases qx with
    | normal => exact ihy n hn rd qs r h
    | _ => injection h with h; subst h; exact ⟨rfl, rfl⟩
  | cond c x y ihx ihy =>
    intro n hn rd st r h
    simp only [evCode] at h
    split at h
    · rename_i b hb
      refine W.cond hb ?_
      cases b
      · exact ihy n hn rd st r (by simpa using h)
      · exact ihx n hn rd st r (by simpa using h)
    · cases h
  | block id c ih =>
    intro n hn rd st r h
    simp only [evCode] at h
    obtain ⟨q, hq, h⟩ := Option.bind_eq_some_iff.1 h
    refine W.block ((ih n hn rd st q hq).mono ?_)
    rintro x s ⟨rfl, rfl⟩
    obtain ⟨qx, qs⟩ := q
    cases qx with
    | exit i =>
      simp only at h
      simp only [Ex.inBlock]
      split at h
      · rename_i hi
        injection h with h
        subst h
        rw [if_pos hi]
        exact ⟨rfl, rfl⟩
      · rename_i hi
        injection h with h
        subst h
        rw [if_neg hi]
        exact ⟨rfl, rfl⟩
    | _ => injection h with h; subst h; exact ⟨rfl, rfl⟩
  | loop c ih =>
    intro n hn rd st r h
    refine W.loop (fun m s => m ≤ N + 1 ∧ ∃ s' : CSt, s = s'.st ∧ (evN P lib m).code rd (.loop c) s' = some r) (n := n + 1) ⟨by omega, st, rfl, h⟩ ?_
    rintro m s0 ⟨hm1, s, rfl, hms⟩
    cases m with
    | zero => cases hms
    | succ m =>
      have hms' : evCode P (evN P lib m) rd (.loop c) s = some r := hms
      simp only [evCode] at hms'
      obtain ⟨q, hq, h⟩ := Option.bind_eq_some_iff.1 hms'
      refine (ih m (by omega) rd s q hq).mono ?_
      rintro x s' ⟨rfl, rfl⟩
      obtain ⟨qx, qs⟩ := q
      cases qx with
      | normal => exact ⟨m, by omega, by omega, qs, rfl, h⟩
      | _ => injection h with h; subst h; exact ⟨rfl, rfl⟩
  | region id ops draw =>
    intro n hn rd st0 r h
    simp only [evCode] at h
    refine freezeK_sound (P := P) (sliceTmps ops) st0 h (fun st h => ?_)
    cases draw with
    | true =>
      rw [if_pos rfl] at h
      split at h
      · rename_i hlex
        obtain ⟨s, hs, h⟩ := Option.bind_eq_some_iff.1 h
        injection h with h
        subst h
        exact W.regionDrawQ [] (fun q hq => by cases hq) hm hlex (evLex_sound (IH n hn) _ _ _ hs ⟨rfl, rfl⟩)
      · split at h
        · rename_i hlex
          obtain ⟨s, hs, h⟩ := Option.bind_eq_some_iff.1 h
          injection h with h
          subst h
          exact W.regionDrawQ _ (apartL_spec hlex.1) hm hlex.2 (evLex_sound (IH n hn) _ _ _ hs ⟨rfl, rfl⟩)
        · cases h
    | false =>
      rw [if_neg (by simp)] at h
      exact W.regionLit (evList_sound (IH n hn) _ _ _ h)
  | rangeFunc g ps assign body iha ihb =>
    intro n hn rd st r h
    simp only [evCode] at h
    split at h
    · rename_i f first caps hg
      split at h
      · rename_i hent
        rw [CSt.listK_eq] at h
        cases rd with
        | none =>
          simp only [spK_eq, obsK_eq, natK_eq] at h
          obtain ⟨q, hq, h⟩ := Option.bind_eq_some_iff.1 h
          exact W.rangeOuter hg hent ((IH n hn).call _ _ _ _ hq) (fun x G' hx => evRange_sound h hx)
        | some i =>
          simp only at h
          split at h
          · rename_i hG
            simp only [spK_eq, obsK_eq, natK_eq] at h
            obtain ⟨q, hq, h⟩ := Option.bind_eq_some_iff.1 h
            exact W.rangeInner hG hg hent ((IH n hn).call _ _ _ _ hq) (fun x G' hx => evRange_sound h hx)
          · cases h
      · cases h
    · cases h
  | _ => intro n hn rd st r h; simp only [evCode] at h; cases h

theorem recParts_spec {fn : Func} {d0 d1 : Nat} {rest : Code} (h : recParts fn = some (d0, d1, rest)) :
    ∃ id o0 o1, fn.body = some ((Code.region id #[o0, o1] false).seq rest) ∧ o0.op = .call { callee := .builtin .recover, args := #[], argTypes := #[] } ∧ o0.guard = none ∧ o0.dst = some d0 ∧
      o1.op = .assign (.tmp d0) ∧ o1.guard = none ∧ o1.dst = some d1 := by
  unfold recParts at h
  split at h
  · rename_i id o0 o1 rest' hb
    split at h
    · rename_i e0 t e1 h1 h2 h3 h4 h5 h6
      split at h
      · rename_i ht
        subst ht
        simp only [Option.some.injEq, Prod.mk.injEq] at h
        obtain ⟨rfl, rfl, rfl⟩ := h
        exact ⟨id, o0, o1, hb, h1, h2, h3, h4, h5, h6⟩
      · cases h
    · cases h
  · cases h

theorem evLeave_sound {E : Ev} (S : Sound P E) {fn : Func} : ∀ (ds : List Df) (m : Option V) (c : CSt) (r : Out × List Ob), evLeave P E fn ds m c = some r → LeaveA P fn (EqO r) ds m c.st
  | [], none, c, r, h => by
    simp only [evLeave] at h
    obtain ⟨v, hv, h⟩ := Option.bind_eq_some_iff.1 h
    rw [V.sh_eq] at h
    injection h with h
    subst h
    exact ⟨v, hv, rfl, rfl⟩
  | [], some v, c, r, h => by
    simp only [evLeave] at h
    injection h with h
    subst h
    exact ⟨rfl, rfl⟩
  | .mark i :: ds, m, c, r, h => by
    simp only [evLeave, obsK_eq] at h
    split at h
    · rename_i hG
      exact ⟨hG, evLeave_sound S ds m _ r h⟩
    · cases h
  | .call f caps args :: ds, m, c, r, h => by
    cases f <;> simp only [evLeave] at h <;> first | (cases h; done) | skip
    rename_i f
    split at h
    · rename_i hent
      split at h
      · rename_i gn hgn
        split at h
        · rename_i d0 d1 rest hrec
          rw [spK_eq] at h
          obtain ⟨c0, hc0, _, h⟩ := CSt.ofK_spec h
          obtain ⟨c1, hp1, _, h⟩ := CSt.putK_spec h
          obtain ⟨c2, hp2, _, h⟩ := CSt.putK_spec h
          obtain ⟨q, hq, h⟩ := Option.bind_eq_some_iff.1 h
          obtain ⟨id, o0, o1, hb, h0, g0, e0, h1, g1, e1⟩ := recParts_spec hrec
          have e1' : c1.st = c0.st.set d0 (recV m) ∧ d0 < c0.st.N := by
            simp only [St.put] at hp1
            split at hp1
            · rename_i hlt
              injection hp1 with hp1
              exact ⟨hp1.symm, hlt⟩
            · cases hp1
          have e2' : c2.st = c1.st.set d1 (recV m) ∧ d1 < c1.st.N := by
            simp only [St.put] at hp2
            split at hp2
            · rename_i hlt
              injection hp2 with hp2
              exact ⟨hp2.symm, hlt⟩
            · cases hp2
          have hN1 : c1.st.N = c0.st.N := by rw [e1'.1]; rfl
          have hd0 : d0 < (args ++ caps).length + (gn.ntmps - (args ++ caps).length) := by have := e1'.2; rw [hc0] at this; exact this
          have hd1 : d1 < (args ++ caps).length + (gn.ntmps - (args ++ caps).length) := by have := e2'.2; rw [hN1, hc0] at this; exact this
          have hcode := S.code _ _ _ _ hq
          rw [e2'.1, e1'.1, hc0] at hcode
          have key : ∀ (hres : (resA P gn q.2.st).isSome = true) (hD : q.2.D = []) (hn : q.1 = .normal ∨ q.1 = .ret) (h : evLeave P E fn ds none ⟨c.N, c.tm, q.2.G, c.D⟩ = some r), LeaveA P fn (EqO r) (.call (.func f) caps args :: ds) m c.st := by
            intro hres hD hn h
            refine ⟨fun G' => G' = q.2.st.G, hent, CalD.of hgn hb h0 g0 e0 h1 g1 e1 hd0 hd1 (W.mono hcode ?_), ?_⟩
            · rintro x s ⟨rfl, rfl⟩
              rcases hn with hn | hn <;> rw [hn] <;> exact ⟨hD, hres, rfl⟩
            · rintro G' rfl
              exact evLeave_sound S ds none _ r h
          split at h
          · rename_i hx hD
            split at h
            · rename_i hres; exact key hres hD (.inl hx) h
            · cases h
          · rename_i hx hD
            split at h
            · rename_i hres; exact key hres hD (.inr hx) h
            · cases h
          · cases h
        · cases h
      · cases h
    · cases h

theorem fn_sound {lib : FuncId → List V → Option V} (hm : P.follows .mixedOrders = true) {N : Nat} (IH : ∀ m ≤ N, Sound P (evN P lib m)) (f : FuncId) (args : List V) (G : List Ob) (r : Out × List Ob) (h : evFn P (evN P lib N) f args G = some r) : Cal P f args G (EqO r) := by
  unfold evFn at h
  split at h
  · rename_i fn hf
    split at h
    · rename_i c hb
      obtain ⟨c0, hc0, _, h⟩ := CSt.ofK_spec h
      obtain ⟨q, hq, h⟩ := Option.bind_eq_some_iff.1 h
      have hcode := code_sound hm IH c N (Nat.le_refl _) none _ q hq
      rw [hc0] at hcode
      refine Cal.ofM hf hb (W.mono hcode ?_)
      rintro x s ⟨rfl, rfl⟩
      obtain ⟨qx, qs⟩ := q
      cases qx <;> simp only at h <;> first | (cases h; done) | exact evLeave_sound (IH N (Nat.le_refl _)) _ _ _ r h
    · cases h
  · cases h

theorem evN_sound {lib : FuncId → List V → Option V} (hm : P.follows .mixedOrders = true) (hlib : ∀ f args v, lib f args = some v → Fn1 P f args v) : ∀ n, ∀ m ≤ n, Sound P (evN P lib m)
  | 0, m, hle => by
    obtain rfl : m = 0 := by omega
    exact ⟨fun _ _ _ _ h => (by cases h), fun _ _ _ _ h => (by cases h), hlib⟩
  | n + 1, m, hle => by
    have IH := evN_sound hm hlib n
    by_cases hmn : m ≤ n
    · exact IH m hmn
    · obtain rfl : m = n + 1 := by omega
      exact ⟨fun rd c st r h => code_sound hm IH c n (Nat.le_refl _) rd st r h, fun f args G r h => fn_sound hm IH f args G r h, hlib⟩

/-- **A RUN ON ABSTRACT STATES IS A CONTRACT.** -/
theorem Cal.run {lib : FuncId → List V → Option V} (hm : P.follows .mixedOrders = true) (hlib : ∀ f args v, lib f args = some v → Fn1 P f args v) (n : Nat) {f : FuncId} {args : List V} {G : List Ob} {r : Out × List Ob}
    (h : (evN P lib n).call f args G = some r) : Cal P f args G (EqO r) := (evN_sound hm hlib n n (Nat.le_refl _)).call f args G r h
end
end Go.Ab
