/- Ab, part 10a: walks of code that tell of a panic where it left the frame (turned from the kit's own laws of control: one word more at a panic). -/
import Derived.Test.YtlflddcbfbdldaaGreatDoorB1
import Derived.RangeFuncIn
import Derived.OrdersIn
namespace Go.Ab
open Go

def isCall : Item → Bool
  | .call .. => true
  | _ => false
def ArrP (I : Machine → Prop) (P : Program) (m : Machine) (b : Frame) (k : List Item) (cs : List Frame) : Exit → Act → World → Prop
  | .panic chain, a, w => ∃ x todo, isCall x = false ∧ StepsIn I P m (lone { b.atR a (x :: todo) with mode := .panicking chain } cs w)
  | e, a, w => ArrivesIn I P m b k cs e a w
theorem ArrP.forget {I : Machine → Prop} {P : Program} {m : Machine} {b : Frame} {k : List Item} {cs : List Frame} {e : Exit} {a : Act} {w : World} (h : ArrP I P m b k cs e a w) : ArrivesIn I P m b k cs e a w := by
  cases e with
  | panic chain => obtain ⟨x, todo, _, hs⟩ := h; exact ⟨x :: todo, hs⟩
  | _ => exact h
theorem ArrP.of_steps {I : Machine → Prop} {P : Program} {m m₁ : Machine} {b : Frame} {k : List Item} {cs : List Frame} {e : Exit} {a : Act} {w : World}
    (h : StepsIn I P m m₁) (h' : ArrP I P m₁ b k cs e a w) : ArrP I P m b k cs e a w := by
  cases e with
  | panic chain => obtain ⟨x, todo, hx, hs⟩ := h'; exact ⟨x, todo, hx, h.trans hs⟩
  | normal => exact ArrivesIn.of_steps (b := b) (k := k) (cs := cs) (e := .normal) (a := a) (w := w) h h'
  | exit id => exact ArrivesIn.of_steps (b := b) (k := k) (cs := cs) (e := .exit id) (a := a) (w := w) h h'
  | goto l => exact ArrivesIn.of_steps (b := b) (k := k) (cs := cs) (e := .goto l) (a := a) (w := w) h h'
  | ret => exact ArrivesIn.of_steps (b := b) (k := k) (cs := cs) (e := .ret) (a := a) (w := w) h h'
  | outgrown => exact ArrivesIn.of_steps (b := b) (k := k) (cs := cs) (e := .outgrown) (a := a) (w := w) h h'
theorem ArrP.pass {I : Machine → Prop} {P : Program} {m : Machine} {b : Frame} {x : Item} {k : List Item} {cs : List Frame} {e : Exit} {a : Act} {w : World}
    (hx : x.plain = true) (he : ∀ a w, e ≠ .normal ∨ ArrP I P m b k cs e a w) (h : ArrP I P m b (x :: k) cs e a w) : ArrP I P m b k cs e a w := by
  cases e with
  | panic chain => exact h
  | normal => exact (he a w).resolve_left (by simp)
  | exit id => exact ArrivesIn.pass (b := b) (x := x) (k := k) (cs := cs) (e := .exit id) (a := a) (w := w) hx (fun _ _ => .inl (by simp)) h
  | goto l => exact ArrivesIn.pass (b := b) (x := x) (k := k) (cs := cs) (e := .goto l) (a := a) (w := w) hx (fun _ _ => .inl (by simp)) h
  | ret => exact ArrivesIn.pass (b := b) (x := x) (k := k) (cs := cs) (e := .ret) (a := a) (w := w) hx (fun _ _ => .inl (by simp)) h
  | outgrown => exact h

def wpP (F : Fence) (n : Nat) (P : Program) (c : Code) (Q : Exit → Act → World → Prop) (a : Act) (w : World) : Prop :=
  ∀ (b : Frame) (k : List Item) (cs : List Frame), b.roundOf = F.round → F.fn b.fn → F.room (cs.length + 1 + n) →
    ∃ e a' w', Q e a' w' ∧ ArrP (Machine.fenced P F) P (lone (b.atR a (.code c :: k)) cs w) b k cs e a' w'
theorem wpP.forget {F : Fence} {n : Nat} {P : Program} {c : Code} {Q : Exit → Act → World → Prop} {a : Act} {w : World} (h : wpP F n P c Q a w) : c.wpIn F n P Q a w :=
  fun b k cs h1 h2 h3 => let ⟨e, a', w', q, r⟩ := h b k cs h1 h2 h3; ⟨e, a', w', q, r.forget⟩

section rules
variable {F : Fence} {n : Nat} {P : Program} {Q : Exit → Act → World → Prop} {a : Act} {w : World}
theorem wpP_mono {c : Code} {Q' : Exit → Act → World → Prop} (h : wpP F n P c Q a w) (hq : ∀ e a w, Q e a w → Q' e a w) : wpP F n P c Q' a w :=
  fun b k cs hro hb hr => let ⟨e, a', w', q, r⟩ := h b k cs hro hb hr; ⟨e, a', w', hq _ _ _ q, r⟩
theorem wpP_skip (h : Q .normal a w) : wpP F n P .skip Q a w := fun _ _ _ _ hb hr => ⟨.normal, a, w, h, .one (fenced_calm hb hr rfl) stepR_skip⟩
theorem wpP_label {l : Nat} (h : Q .normal a w) : wpP F n P (.label l) Q a w := fun _ _ _ _ hb hr => ⟨.normal, a, w, h, .one (fenced_calm hb hr rfl) stepR_label⟩
theorem wpP_exit {id : Nat} (h : Q (.exit id) a w) : wpP F n P (.exit id) Q a w :=
  fun _ k _ _ hb hr => ⟨.exit id, a, w, h, fun _ hk => .one (fenced_calm hb hr rfl) (stepR_exit hk), fun _ hk => ⟨k, hk, .refl _⟩⟩
theorem wpP_goto {l : Nat} (h : Q (.goto l) a w) : wpP F n P (.goto l) Q a w :=
  fun _ k _ _ hb hr => ⟨.goto l, a, w, h, fun _ hk => .one (fenced_calm hb hr rfl) (stepR_goto hk), fun _ hk => ⟨k, hk, .refl _⟩⟩
theorem wpP_ret (h : Q .ret a w) : wpP F n P .ret Q a w :=
  fun _ k _ _ hb hr => ⟨.ret, a, w, h, fun hn => ⟨_, .one (fenced_calm hb hr rfl) (stepR_ret hn)⟩, fun _ => ⟨k, .refl _⟩⟩
theorem wpP_seq {x y : Code} (h : wpP F n P x (Exit.then (wpP F n P y Q) Q) a w) : wpP F n P (.seq x y) Q a w := by
  intro b k cs hro hb hr
  have h0 : (lone (b.atR a (.code (.seq x y) :: k)) cs w).fenced P F := fenced_calm hb hr rfl
  obtain ⟨e, a₁, w₁, hq, harr⟩ := h b (.code y :: k) cs hro hb hr
  cases e with
  | normal =>
    obtain ⟨e₂, a₂, w₂, hq₂, harr₂⟩ := hq b k cs hro hb hr
    exact ⟨e₂, a₂, w₂, hq₂, .of_steps (.head h0 stepR_seq harr) harr₂⟩
  | exit id => exact ⟨_, a₁, w₁, hq, .of_steps (.one h0 stepR_seq) (.pass (x := .code y) rfl (fun _ _ => .inl (by simp)) harr)⟩
  | goto l => exact ⟨_, a₁, w₁, hq, .of_steps (.one h0 stepR_seq) (.pass (x := .code y) rfl (fun _ _ => .inl (by simp)) harr)⟩
  | ret => exact ⟨_, a₁, w₁, hq, .of_steps (.one h0 stepR_seq) (.pass (x := .code y) rfl (fun _ _ => .inl (by simp)) harr)⟩
  | panic ch => exact ⟨_, a₁, w₁, hq, .of_steps (.one h0 stepR_seq) (.pass (x := .code y) rfl (fun _ _ => .inl (by simp)) harr)⟩
  | outgrown => exact ⟨_, a₁, w₁, hq, .of_steps (.one h0 stepR_seq) (.pass (x := .code y) rfl (fun _ _ => .inl (by simp)) harr)⟩
theorem wpP_cond {c : Operand} {x y : Code} {t : Bool} (hc : a.eval c = .bool t) (h : wpP F n P (if t then x else y) Q a w) : wpP F n P (.cond c x y) Q a w :=
  fun b k cs hro hb hr => let ⟨e, a', w', q, r⟩ := h b k cs hro hb hr; ⟨e, a', w', q, .of_steps (.one (fenced_calm hb hr rfl) (stepR_cond hc)) r⟩
theorem wpP_block {id : Nat} {c : Code} (h : wpP F n P c (Exit.inBlock id Q) a w) : wpP F n P (.block id c) Q a w := by
  intro b k cs hro hb hr
  have h0 : (lone (b.atR a (.code (.block id c) :: k)) cs w).fenced P F := fenced_calm hb hr rfl
  obtain ⟨e, a₁, w₁, hq, harr⟩ := h b (.inBlock id :: k) cs hro hb hr
  cases e with
  | normal => exact ⟨.normal, a₁, w₁, hq, .head h0 stepR_block (StepsIn.trans harr (.one (fenced_calm hb hr rfl) stepR_inBlock))⟩
  | exit id' =>
    by_cases hid : id' = id
    · simp only [Exit.inBlock, hid, if_true] at hq
      exact ⟨.normal, a₁, w₁, hq, .head h0 stepR_block (harr.1 k (by simp [exitTo, hid]))⟩
    · simp only [Exit.inBlock, hid, if_false] at hq
      have this : (id == id') = false := by simp; exact fun h => hid h.symm
      have hx : exitTo id' (.inBlock id :: k) = exitTo id' k := by simp [exitTo, this]
      exact ⟨.exit id', a₁, w₁, hq, fun k' hk => .head h0 stepR_block (harr.1 k' (by rw [hx]; exact hk)),
        fun hr' hk => let ⟨k₁, h1, h2⟩ := harr.2 hr' (by rw [hx]; exact hk); ⟨k₁, h1, .head h0 stepR_block h2⟩⟩
  | goto l =>
    have hx : gotoIn l (.inBlock id :: k) = gotoIn l k := by simp [gotoIn]
    exact ⟨_, a₁, w₁, hq, fun k' hk => .head h0 stepR_block (harr.1 k' (by rw [hx]; exact hk)),
      fun hr' hk => let ⟨k₁, h1, h2⟩ := harr.2 hr' (by rw [hx]; exact hk); ⟨k₁, h1, .head h0 stepR_block h2⟩⟩
  | ret => exact ⟨_, a₁, w₁, hq, .of_steps (.one h0 stepR_block) harr⟩
  | panic ch => exact ⟨_, a₁, w₁, hq, .of_steps (.one h0 stepR_block) harr⟩
  | outgrown => exact ⟨_, a₁, w₁, hq, .of_steps (.one h0 stepR_block) harr⟩
end rules

theorem wp_opsP {F : Fence} {n : Nat} {P : Program} {ops : Array Oper} {Q : Exit → Act → World → Prop} (l : List Nat) :
    ∀ (a : Act) (w : World), wpOpsIn F n P ops Q l a w → ∀ (b : Frame) (k : List Item) (cs : List Frame), b.roundOf = F.round → F.fn b.fn → F.room (cs.length + 1 + n) →
      ∃ e a' w', Q e a' w' ∧ ArrP (Machine.fenced P F) P (lone (b.atR a (.inRegion ops l :: k)) cs w) b k cs e a' w' := by
  induction l with
  | nil => exact fun a w h b k cs _ hb hr => ⟨.normal, a, w, h, .one (fenced_calm hb hr rfl) stepR_region_end⟩
  | cons i rest ih =>
    intro a w h b k cs hro hb hr
    simp only [wpOpsIn] at h
    cases ho : ops[i]? with
    | none =>
      simp only [ho] at h
      obtain ⟨e, a', w', hq, harr⟩ := ih a w h b k cs hro hb hr
      have hs := stepR_op_skip (P := P) (b := b) (a := a) (k := k) (cs := cs) (w := w) (ops := ops) (i := i) (rest := rest) (by simp [ho])
      simp only [ho, Option.bind_none, Act.put] at hs
      exact ⟨e, a', w', hq, .of_steps (.one (fenced_noOper hb hr ho) hs) harr⟩
    | some o =>
      simp only [ho] at h
      by_cases hw : Region.wanted o (yielded ops a.tmps) = true
      · simp only [hw, if_true, Oper.wpIn] at h
        obtain ⟨habout, h⟩ := h
        have h0 : (lone (b.atR a (.inRegion ops (i :: rest) :: k)) cs w).fenced P F := fenced_oper hb hr ho habout
        simp only [Oper.uponIn] at h
        have hg := stepGR_op (P := P) (b := b) (k := k) (cs := cs) (w := w) (rest := rest) ho hw
        rw [hro] at hg
        have hfin : ∀ v, (b.atR a (.inRegion ops (i :: rest) :: k)).finish v = b.atR (a.put o.dst v) (.inRegion ops rest :: k) := by
          intro v; rw [Frame.finish_atR, ho]; rfl
        split at h
        · rename_i v w' hr'
          obtain ⟨e, a', w'', hq, harr⟩ := ih _ _ h b k cs hro hb hr
          refine ⟨e, a', w'', hq, .of_steps (.one h0 (step_lone_go ?_)) harr⟩
          rw [hg, ← hfin]; simp [stepG.apply, hr']
        · rename_i w' hr'
          obtain ⟨e, a', w'', hq, harr⟩ := ih _ _ h b k cs hro hb hr
          refine ⟨e, a', w'', hq, .of_steps (.one h0 (step_lone_go ?_)) harr⟩
          rw [hg, ← hfin]; simp [stepG.apply, hr']
        · rename_i d w' hr'
          obtain ⟨e, a', w'', hq, harr⟩ := ih _ _ h b k cs hro hb hr
          refine ⟨e, a', w'', hq, .of_steps (.one h0 (step_lone_go ?_)) harr⟩
          have : ({ b.atR a (.inRegion ops (i :: rest) :: k) with defers := d :: a.defers } : Frame).finish undef =
              b.atR ({ a with defers := d :: a.defers }.put o.dst undef) (.inRegion ops rest :: k) := by
            have := Frame.finish_atR b { a with defers := d :: a.defers } ops i rest k undef
            rw [ho] at this; exact this
          rw [hg]; simp only [stepG.apply, Sem.runT_eq, hr', GStep.bare_after]
          exact congrArg (fun fr => GStep.go { frame := fr, callers := cs, status := .running, dying := none } w') this
        · rename_i f args w' hr'
          obtain ⟨hn, hF, h⟩ := h
          have hroom : F.room ((b.atR a (.inRegion ops (i :: rest) :: k) :: cs).length + 1 + (n - 1)) := Fence.room_enter hr hn
          obtain ⟨e, w'', fr, hR, hsteps, hfn, hleave⟩ := h (b.atR a (.inRegion ops (i :: rest) :: k) :: cs) hroom
          have henter : step P (lone (b.atR a (.inRegion ops (i :: rest) :: k)) cs w) =
              .next (lone (Frame.enter P f args .normal) (b.atR a (.inRegion ops (i :: rest) :: k) :: cs) w') :=
            step_lone_go (by rw [hg]; simp [stepG.apply, hr', Frame.atR])
          cases e with
          | returned v =>
            have hl : (lone fr (b.atR a (.inRegion ops (i :: rest) :: k) :: cs) w'').fenced P F := fenced_leaving (hfn ▸ hF) hroom hleave
            obtain ⟨e, a', w₃, hq, harr⟩ := ih _ _ hR b k cs hro hb hr
            refine ⟨e, a', w₃, hq, .of_steps (.head h0 henter (StepsIn.trans hsteps (.one hl ?_))) harr⟩
            rw [← hfin]; exact step_leave_returned hleave
          | panicked chain =>
            have hl : (lone fr (b.atR a (.inRegion ops (i :: rest) :: k) :: cs) w'').fenced P F := fenced_leaving (hfn ▸ hF) hroom hleave
            refine ⟨.panic chain, a, w'', hR, .inRegion ops (i :: rest), k, rfl, .head h0 henter (StepsIn.trans hsteps (.one hl ?_))⟩
            rw [← Frame.raise_atR]; exact step_leave_panicked hleave
          | outgrown =>
            obtain ⟨a₀, w₀, hq⟩ := hR
            exact ⟨.outgrown, a₀, w₀, hq, .inr (Outgrown.of_steps (.one henter) hsteps)⟩
        · rename_i row args w' hr'
          obtain ⟨hn, h⟩ := h
          obtain ⟨v, w'', hR, hsteps⟩ := h (b.atR a (.inRegion ops (i :: rest) :: k)) cs (Fence.room_enter hr hn)
          have henter : step P (lone (b.atR a (.inRegion ops (i :: rest) :: k)) cs w) =
              .next (lone (Frame.ofRow P row args .normal) (b.atR a (.inRegion ops (i :: rest) :: k) :: cs) w') :=
            step_lone_go (by rw [hg]; simp [stepG.apply, hr', Frame.atR])
          obtain ⟨e, a', w₃, hq, harr⟩ := ih _ _ hR b k cs hro hb hr
          refine ⟨e, a', w₃, hq, .of_steps (.head h0 henter ?_) harr⟩
          rw [← hfin]; exact hsteps
        · rename_i l f tmps assign body w' hr'
          obtain ⟨hn, _, h⟩ := h
          obtain ⟨e, w'', hR, hsteps⟩ := h (b.atR a (.inRegion ops (i :: rest) :: k)) cs (Fence.room_enter hr hn)
          have henter : step P (lone (b.atR a (.inRegion ops (i :: rest) :: k)) cs w) =
              .next (lone (Frame.round l f tmps assign body .normal) (b.atR a (.inRegion ops (i :: rest) :: k) :: cs) w') :=
            step_lone_go (by rw [hg]; simp [stepG.apply, hr', Frame.atR])
          cases e with
          | returned v =>
            obtain ⟨e, a', w₃, hq, harr⟩ := ih _ _ hR b k cs hro hb hr
            refine ⟨e, a', w₃, hq, .of_steps (.head h0 henter ?_) harr⟩
            rw [← hfin]; exact hsteps
          | panicked chain =>
            refine ⟨.panic chain, a, w'', hR, .inRegion ops (i :: rest), k, rfl, .head h0 henter ?_⟩
            rw [← Frame.raise_atR]; exact hsteps
          | outgrown =>
            obtain ⟨a₀, w₀, hq⟩ := hR
            exact ⟨.outgrown, a₀, w₀, hq, .inr (Outgrown.of_steps (.one henter) hsteps)⟩
        · rename_i v w' hr'
          refine ⟨_, a, w', h, .inRegion ops (i :: rest), k, rfl, .one h0 (step_lone_go ?_)⟩
          rw [hg, ← Frame.raise_atR]; simp [stepG.apply, hr']
        · exact h.elim
      · simp only [hw, if_false, Bool.false_eq_true] at h
        obtain ⟨habout, h⟩ := h
        obtain ⟨e, a', w', hq, harr⟩ := ih _ _ h b k cs hro hb hr
        have hs := stepR_op_skip (P := P) (b := b) (a := a) (k := k) (cs := cs) (w := w) (ops := ops) (i := i) (rest := rest)
          (by simp [ho]; simpa using hw)
        simp only [ho, Option.bind_some] at hs
        exact ⟨e, a', w', hq, .of_steps (.one (fenced_oper hb hr ho habout) hs) harr⟩


theorem wpP_region {F : Fence} {n : Nat} {P : Program} {id : Nat} {ops : Array Oper} {Q : Exit → Act → World → Prop} {a : Act} {w : World}
    (h : wpOpsIn F n P ops Q (List.range ops.size) a w) : wpP F n P (.region id ops false) Q a w :=
  fun b k cs hro hb hr => let ⟨e, a', w', q, r⟩ := wp_opsP _ a w h b k cs hro hb hr; ⟨e, a', w', q, .of_steps (.one (fenced_calm hb hr rfl) stepR_region) r⟩
theorem wpP_region_draw {F : Fence} {n : Nat} {P : Program} {id : Nat} {ops : Array Oper} {Q : Exit → Act → World → Prop} {a : Act} {w : World}
    (h : ∀ t, wpOpsIn F n P ops Q (Region.schedule (P.follows .mixedOrders) ops t) a { w with drawn := w.drawn + 1 }) : wpP F n P (.region id ops true) Q a w :=
  fun b k cs hro hb hr => let ⟨e, a', w', q, r⟩ := wp_opsP _ a _ (h _) b k cs hro hb hr; ⟨e, a', w', q, .of_steps (.one (fenced_calm hb hr rfl) stepR_region_draw) r⟩
theorem wpP_region_any {F : Fence} {n : Nat} {P : Program} {ops : Array Oper} {Q : Exit → Act → World → Prop} {id : Nat} {a : Act} {w : World} (hm : P.follows .mixedOrders = true)
    (h : wpAnyIn F n P .any ops Q ops.size (Array.replicate ops.size false) a { w with drawn := w.drawn + 1 }) : wpP F n P (.region id ops true) Q a w :=
  wpP_region_draw fun t => by
    simp only [Region.schedule, hm, Bool.true_or, if_true]
    exact wpAnyIn_sound ops.size t _ a _ h
theorem wpP_region_lit {F : Fence} {n : Nat} {P : Program} {Q : Exit → Act → World → Prop} {id : Nat} {a : Act} {w : World} {l : List Oper} (h : wpListIn F n P l.toArray Q l a w) : wpP F n P (.region id l.toArray false) Q a w :=
  wpP_region (by rw [List.range_eq_range', ← Array.length_toList, wpOpsIn_eq_wpListIn l.toArray.toList 0 (by simp)]; simpa using h)

/-- What is asked when the function that was ranged over has ended. -/
def rangeP (F : Fence) (n : Nat) (P : Program) (l : Nat) (Q : Exit → Act → World → Prop) (a' : Act) : Ending → World → Prop
  | .returned _, w₃ => ∃ jump w₄, (Instr.endLoop l).run P w₃ = .ok jump w₄ ∧
      (match jump with
       | none => Q .normal a' w₄
       | some c => wpP F n P c Q a' w₄)
  | .panicked chain, w₃ => Q (.panic chain) a' w₃
  | .outgrown, _ => LetsOut Q

section
variable {F : Fence} {n : Nat} {P : Program}
theorem wpP_rangeFunc {g : Operand} {ps : Array Tmp} {assign body : Code} {Q : Exit → Act → World → Prop} {a : Act} {w : World}
    (h : ∀ fn, F.fn fn → ∃ (l : Nat) (mark : List Deferred) (w₁ : World) (d : Deferred) (w₁' : World) (f : FuncId) (args : Array Value) (w₂ : World),
      (Instr.enterLoop fn a.tmps ps assign body F.round).run P w = .ok (l, mark) w₁ ∧
      (resolve a.eval (rangeCall g l) 0).run P w₁ = .ok d w₁' ∧
      (∀ f', Target.leads P w₁' d.target d.args = some f' → F.fn f') ∧
      (invoke d.target d.args).run P w₁' = .ok (.enter f args) w₂ ∧
      (F.depth.isSome = true → 1 ≤ n) ∧
      CallsIn F (n - 1) P f args w₂ (rangeP F n P l Q { a with defers := mark ++ a.defers })) :
    wpP F n P (Code.rangeFunc g ps assign body) Q a w := by
  intro b k cs hro hb hr
  obtain ⟨l, mark, w₁, d, w₁', f, args, w₂, he, hres, hlead, hinv, hn, hF, hcall⟩ := h b.fn hb
  rw [← hro] at he
  have h0 : (lone (b.atR a (.code (.rangeFunc g ps assign body) :: k)) cs w).fenced P F := by
    refine fenced_lone (.inl hb) (fun f' hf' => hlead f' ?_) (Fence.room_le hr (by omega))
    have hev := Frame.eval_atR b a (.code (.rangeFunc g ps assign body) :: k)
    simp only [Frame.atR] at hev
    simp only [Frame.about, Frame.atR, he, hev, hres] at hf'
    exact hf'
  have henter := stepR_rangeFunc (P := P) (b := b) (a := a) (k := k) (cs := cs) (w := w) he hres hinv
  have hroom : F.room ((b.atR { a with defers := mark ++ a.defers } (.inRangeFunc l :: k) :: cs).length + 1 + (n - 1)) := Fence.room_enter hr hn
  obtain ⟨e, w₃, fr, hR, hsteps, hfn, hleave⟩ := hcall (b.atR { a with defers := mark ++ a.defers } (.inRangeFunc l :: k) :: cs) hroom
  cases e with
  | outgrown =>
    obtain ⟨a₀, w₀, hq⟩ := hR
    exact ⟨.outgrown, a₀, w₀, hq, .inr (Outgrown.of_steps (.one henter) hsteps)⟩
  | returned v =>
    have hl : (lone fr (b.atR { a with defers := mark ++ a.defers } (.inRangeFunc l :: k) :: cs) w₃).fenced P F := fenced_leaving (hfn ▸ hF) hroom hleave
    obtain ⟨jump, w₄, hend, hj⟩ := hR
    have sback : StepsIn (Machine.fenced P F) P (lone (b.atR a (.code (.rangeFunc g ps assign body) :: k)) cs w) (lone (b.atR { a with defers := mark ++ a.defers } ((jump.map Item.code).toList ++ k)) cs w₄) := by
      refine .head h0 henter (StepsIn.trans hsteps (.head hl ?_ (.one (fenced_calm (fr := b.atR { a with defers := mark ++ a.defers } (.endRangeFunc l :: k)) hb hr rfl) (stepR_endRangeFunc hend))))
      rw [← finish_atR_inRangeFunc l v]; exact step_leave_returned hleave
    cases jump with
    | none => exact ⟨.normal, _, w₄, hj, sback⟩
    | some c =>
      obtain ⟨e', a'', w₅, hq, harr⟩ := hj b k cs hro hb hr
      exact ⟨e', a'', w₅, hq, .of_steps sback harr⟩
  | panicked chain =>
    have hl : (lone fr (b.atR { a with defers := mark ++ a.defers } (.inRangeFunc l :: k) :: cs) w₃).fenced P F := fenced_leaving (hfn ▸ hF) hroom hleave
    refine ⟨.panic chain, _, w₃, hR, .inRangeFunc l, k, rfl, .head h0 henter (StepsIn.trans hsteps (.one hl ?_))⟩
    rw [← Frame.raise_atR]; exact step_leave_panicked hleave


end
end Go.Ab
