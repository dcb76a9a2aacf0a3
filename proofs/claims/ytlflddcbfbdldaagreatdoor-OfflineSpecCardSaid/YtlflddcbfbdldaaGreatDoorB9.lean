/- Ab, part 18: regions that draw their order: the theorem. -/
import Derived.Test.YtlflddcbfbdldaaGreatDoorB8
namespace Go.Ab
open Go

section
variable {P : Program} {ops : Array Oper}

def St.real (st : St) : Prop := ∃ (a : Act) (w : World) (U I : Nat → Prop) (η : List Blk), WR st a w U I η
theorem St.real.low {st : St} (h : st.real) : st.low := by obtain ⟨a, w, U, I, η, H⟩ := h; exact H.low
theorem EffA.real {o : Oper} {st st' : St} (h : EffA P ops o st st') (hr : st.real) : st'.real := by
  obtain ⟨a, w, U, I, η, H⟩ := hr
  obtain ⟨v, G1, he, hp⟩ := h
  cases he with
  | act hw h =>
    cases h with
    | x h hnd =>
      obtain ⟨nx, u, w', η', _, _, hv, H', _⟩ := absX_run (P := P) H h
      rw [absX_same h] at H'
      obtain ⟨H2, _⟩ := H'.put hv hp
      exact ⟨_, _, _, _, _, H2⟩
    | call ho hc hg hent h hge =>
      rename_i c g f first caps
      have hfg := H.fits g
      rw [hg] at hfg
      obtain ⟨us, vs, _, hx, hy, r1, r2⟩ := hfg.fn_inv
      have hargs : RelL w I η (first ++ c.args.toList.map st.ev ++ caps) (us ++ c.args.map a.eval ++ vs) := ((RelL.append ⟨hx, r1⟩ (H.fits.args c.args)).append ⟨hy, r2⟩)
      obtain ⟨e, w', fr, ⟨x, G', I', η', k1, ⟨rfl, rfl⟩, k3, k4, k5, k6⟩, _⟩ := (h _ w U I η H.bare hargs).2 [] (fun d hd => by simp [wd] at hd)
      obtain ⟨u, rfl, hu⟩ := k1
      obtain ⟨H2, _⟩ := (H.back k3 k5 k4 k6).put hu hp
      exact ⟨_, _, _, _, _, H2⟩
  | skip hw ha =>
    obtain ⟨H2, _⟩ := H.put (u := undef) (.tup [] #[] rfl (fun i v u h => by simp at h)) hp
    exact ⟨_, _, _, _, _, H2⟩

/-- Operation k waits for operation x, over others or not. -/
inductive Wt (ops : Array Oper) : Nat → Nat → Prop
  | one {k : Nat} {o : Oper} {e : Edge} (ho : ops[k]? = some o) (he : e ∈ o.after) (hb : Region.binds .any e = true) : Wt ops k e.on
  | more {k x : Nat} {o : Oper} {e : Edge} (ho : ops[k]? = some o) (he : e ∈ o.after) (hb : Region.binds .any e = true) (h : Wt ops e.on x) : Wt ops k x
/-- What was listed had all that it waits for listed. -/
def ClosedL (ops : Array Oper) (listed : Array Bool) : Prop :=
  ∀ (k : Nat) (o : Oper), listed.getD k false = true → ops[k]? = some o → ∀ e ∈ o.after, Region.binds .any e = true → listed.getD e.on false = true
theorem Wt.listed {listed : Array Bool} (hc : ClosedL ops listed) {k x : Nat} (h : Wt ops k x) : ∀ o, ops[k]? = some o → (∀ e ∈ o.after, Region.binds .any e = true → listed.getD e.on false = true) → listed.getD x false = true := by
  induction h with
  | one ho he hb =>
    intro o ho' hall
    rw [ho] at ho'
    injection ho' with ho'
    subst ho'
    exact hall _ he hb
  | @more k' x' o0 e0 ho he hb h ih =>
    intro o ho' hall
    rw [ho] at ho'
    injection ho' with ho'
    subst ho'
    have h1 := hall _ he hb
    cases hx : ops[e0.on]? with
    | none => cases h <;> simp_all
    | some o' => exact ih o' hx (fun e' he' hb' => hc _ o' h1 hx e' he' hb')
theorem ClosedL.add {listed : Array Bool} (hc : ClosedL ops listed) {j : Nat} (hj : j ∈ Region.ready .any ops listed) : ClosedL ops (listed.setIfInBounds j true) := by
  intro k o hk ho e he hb
  obtain ⟨_, oj, hoj, hall⟩ := mem_ready.1 hj
  by_cases hjk : j = k
  · subst hjk
    rw [ho] at hoj
    injection hoj with hoj
    subst hoj
    exact getD_set_true (hall e he hb)
  · rw [getD_set_ne false hjk] at hk
    exact getD_set_true (hc k o hk ho e he hb)

theorem AnyA_first {Q : St → Prop} {i : Nat} {oi : Oper} (hi : ops[i]? = some oi) : ∀ (fuel : Nat) (listed : Array Bool) (st st1 : St), st.real → ClosedL ops listed →
      (∀ j oj, ops[j]? = some oj → j ≠ i → listed.getD j true = false → ¬ Wt ops j i → oi.apart ops oj = true ∧ compat oi oj = true) →
      i ∈ Region.ready .any ops listed → EffA P ops oi st st1 → AnyA P ops Q fuel (listed.setIfInBounds i true) st1 → AnyA P ops Q (fuel + 1) listed st := by
  intro fuel
  induction fuel with
  | zero =>
    intro listed st st1 _ _ _ hr hE H
    refine ⟨fun h => (by rw [h] at hr; cases hr), fun j hj => ?_⟩
    by_cases hji : j = i
    · subst hji
      unfold OpA
      rw [hi]
      exact ⟨st1, hE, H⟩
    · have := ready_mono hj hji
      rw [H.1] at this
      cases this
  | succ fuel ih =>
    intro listed st st1 hreal hcl hfree hr hE H
    refine ⟨fun h => (by rw [h] at hr; cases hr), fun j hj => ?_⟩
    by_cases hji : j = i
    · subst hji
      unfold OpA
      rw [hi]
      exact ⟨st1, hE, H⟩
    · have h1 := H.2 j (ready_mono hj hji)
      obtain ⟨hjun, oj, hoj, hall⟩ := mem_ready.1 hj
      have hnot : ¬ Wt ops j i := fun hw => by
        have h1 := hw.listed hcl oj hoj hall
        have h0 := (mem_ready.1 hr).1
        rcases Nat.lt_or_ge i listed.size with h' | h'
        · simp [h'] at h0 h1; rw [h0] at h1; cases h1
        · simp [Array.getElem?_eq_none h'] at h1
      unfold OpA at h1 ⊢
      rw [hoj] at h1 ⊢
      obtain ⟨st2, hE2, h2⟩ := h1
      obtain ⟨f1, f2⟩ := hfree j oj hoj hji hjun hnot
      obtain ⟨st3, hE3, hE4⟩ := EffA.swap hreal.low f1 f2 hE hE2
      have hfree' : ∀ k ok, ops[k]? = some ok → k ≠ i → (listed.setIfInBounds j true).getD k true = false →
          ¬ Wt ops k i → oi.apart ops ok = true ∧ compat oi ok = true := fun k ok hk hki hun hno => by
        refine hfree k ok hk hki ?_ hno
        by_cases hjk : j = k
        · subst hjk; exact hjun
        · rw [getD_set_ne true hjk] at hun; exact hun
      refine ⟨st3, hE3, ih (listed.setIfInBounds j true) st3 st2 (hE3.real hreal) (hcl.add hj) hfree' (ready_mono hr (Ne.symm hji)) hE4 ?_⟩
      rw [Array.setIfInBounds_comm _ _ hji]
      exact h2

/-- For each operation, those that it waits for, over others or not. -/
def waitOf (acc : List (List Nat)) : List Edge → List Nat
  | [] => []
  | e :: es => if Region.binds .any e = true then e.on :: ((acc.getD e.on []) ++ waitOf acc es) else waitOf acc es
def waitSets : List Oper → List (List Nat) → List (List Nat)
  | [], acc => acc
  | o :: os, acc => waitSets os (acc ++ [(waitOf acc o.after.toList).eraseDups])
theorem waitOf_spec {acc : List (List Nat)} {k : Nat} {o : Oper} (ho : ops[k]? = some o) (hacc : ∀ (j : Nat) (l : List Nat), acc[j]? = some l → ∀ x ∈ l, Wt ops j x) : ∀ (es : List Edge), (∀ e ∈ es, e ∈ o.after) → ∀ x ∈ waitOf acc es, Wt ops k x
  | [], _, x, hx => by simp [waitOf] at hx
  | e :: es, hes, x, hx => by
    simp only [waitOf] at hx
    have ih := waitOf_spec ho hacc es (fun e' he' => hes e' (List.mem_cons_of_mem _ he'))
    split at hx
    · rename_i hb
      rcases List.mem_cons.1 hx with rfl | hx
      · exact .one ho (hes e List.mem_cons_self) hb
      · rcases List.mem_append.1 hx with hx | hx
        · rw [List.getD_eq_getElem?_getD] at hx
          cases hl : acc[e.on]? with
          | none => rw [hl] at hx; simp at hx
          | some l =>
            rw [hl] at hx
            exact .more ho (hes e List.mem_cons_self) hb (hacc e.on l hl x hx)
        · exact ih x hx
    · exact ih x hx
theorem waitSets_spec : ∀ (os : List Oper) (acc : List (List Nat)), (∀ j, os[j]? = ops[acc.length + j]?) → (∀ (j : Nat) (l : List Nat), acc[j]? = some l → ∀ x ∈ l, Wt ops j x) →
    ∀ (j : Nat) (l : List Nat), (waitSets os acc)[j]? = some l → ∀ x ∈ l, Wt ops j x
  | [], acc, _, hacc => hacc
  | o :: os, acc, hl, hacc => by
    have h0 : ops[acc.length]? = some o := by simpa using (hl 0).symm
    refine waitSets_spec os _ (fun j => by have := hl (j + 1); simp at this ⊢; rw [this]; congr 1; omega) ?_
    intro j l hj x hx
    rw [List.getElem?_append] at hj
    split at hj
    · exact hacc j l hj x hx
    · rename_i hge
      have hj0 : j - acc.length = 0 := by
        have := (List.getElem?_eq_some_iff.1 hj).1
        simp at this
        omega
      rw [hj0] at hj
      simp at hj
      subst hj
      have : j = acc.length := by omega
      subst this
      exact waitOf_spec h0 hacc _ (fun e he => by simpa using he) x (List.mem_eraseDups.1 hx)

/-- The walk of the text's order. -/
def LexA (P : Program) (ops : Array Oper) (Q : St → Prop) : List Oper → St → Prop
  | [], st => Q st
  | o :: rest, st => ∃ st', EffA P ops o st st' ∧ LexA P ops Q rest st'

def freeC (ops : Array Oper) (ws : List (List Nat)) (listed : Array Bool) (i : Nat) : Bool :=
  match ops[i]? with
  | none => false
  | some oi => (List.range ops.size).all fun j => j == i || listed.getD j true || match ops[j]? with
      | some oj => (ws.getD j []).contains i || (oi.apart ops oj && compat oi oj)
      | none => true
theorem freeC_spec {ws : List (List Nat)} (hws : ∀ (j : Nat) (l : List Nat), ws[j]? = some l → ∀ x ∈ l, Wt ops j x) {i : Nat} {oi : Oper} {listed : Array Bool} (hi : ops[i]? = some oi) (h : freeC ops ws listed i = true) (j : Nat) (oj : Oper)
    (hj : ops[j]? = some oj) (hne : j ≠ i) (hun : listed.getD j true = false) (hno : ¬ Wt ops j i) :
    oi.apart ops oj = true ∧ compat oi oj = true := by
  simp only [freeC, hi, List.all_eq_true, List.mem_range] at h
  have h1 := h j (Array.getElem?_eq_some_iff.1 hj).1
  simp only [hj, Bool.or_eq_true, beq_iff_eq, Bool.and_eq_true] at h1
  rcases h1 with (h1 | h1) | h1
  · exact absurd h1 hne
  · rw [hun] at h1; cases h1
  · rcases h1 with h1 | h1
    · rw [List.getD_eq_getElem?_getD] at h1
      cases hl : ws[j]? with
      | none => rw [hl] at h1; simp at h1
      | some l => rw [hl] at h1; exact absurd (hws j l hl i (by simpa using h1)) hno
    · exact h1
def lexFromC (ops : Array Oper) (ws : List (List Nat)) : Nat → Nat → Array Bool → Bool
  | 0, _, listed => (Region.ready .any ops listed).isEmpty
  | fuel + 1, k, listed => (Region.ready .any ops listed).contains k && freeC ops ws listed k && lexFromC ops ws fuel (k + 1) (listed.setIfInBounds k true)
def lexC (ops : Array Oper) : Bool := lexFromC ops (waitSets ops.toList []) ops.size 0 (Array.replicate ops.size false)

theorem AnyA_lex {Q : St → Prop} {ws : List (List Nat)} (hws : ∀ (j : Nat) (l : List Nat), ws[j]? = some l → ∀ x ∈ l, Wt ops j x) : ∀ (l : List Oper) (k : Nat) (listed : Array Bool) (st : St), st.real → ClosedL ops listed → (∀ j, l[j]? = ops[k + j]?) →
    lexFromC ops ws l.length k listed = true → LexA P ops Q l st → AnyA P ops Q l.length listed st
  | [], _, _, _, _, _, _, hB, h => ⟨by simpa [lexFromC] using hB, h⟩
  | o :: l, k, listed, st, hreal, hcl, hl, hB, h => by
    have h0 : ops[k]? = some o := by simpa using (hl 0).symm
    simp only [List.length_cons, lexFromC, Bool.and_eq_true] at hB
    obtain ⟨⟨hr, hf⟩, hB'⟩ := hB
    obtain ⟨st', hE, h⟩ := h
    have hr' : k ∈ Region.ready .any ops listed := by simpa using hr
    exact AnyA_first h0 l.length listed st st' hreal hcl (freeC_spec hws h0 hf) hr' hE
      (AnyA_lex hws l (k + 1) _ st' (hE.real hreal) (hcl.add hr') (fun j => by have := hl (j + 1); simpa [Nat.add_assoc, Nat.add_comm 1 j] using this) hB' h)

/-- **ONE WALK OF THE TEXT's ORDER SERVES EVERY ORDER.** -/
theorem W.regionDraw {rd : Option Nat} {id : Nat} {ops : Array Oper} {Q : Ex → St → Prop} {st : St} (hm : P.follows .mixedOrders = true) (hB : lexC ops = true) (h : LexA P ops (Q .normal) ops.toList st) : W P rd (.region id ops true) Q st := by
  intro a w U I η r hro H
  have hk : Keep U I w { w with drawn := w.drawn + 1 } := ⟨rfl, rfl, rfl, Nat.le_refl _, fun _ _ => rfl⟩
  have H' : WR st a { w with drawn := w.drawn + 1 } U I η := H.world hk (fun _ _ _ _ _ _ => rfl) (fun _ h => h) (fun k h => H.lt k (.inr h)) (fun i e o h1 h2 h3 => (H.mt i e o h1 h2 h3).2)
  refine wpP_region_any hm ?_
  have := AnyA_lex (P := P) (Q := Q .normal) (waitSets_spec (ops := ops) ops.toList [] (fun j => by simp) (fun j l hl => by simp at hl)) ops.toList 0 (Array.replicate ops.size false) st ⟨_, _, _, _, _, H⟩ (fun k o hk => by
    simp only [Array.getD_eq_getD_getElem?, Array.getElem?_replicate] at hk
    split at hk <;> simp at hk) (by simp) (by simpa [lexC] using hB) h
  exact AnyA.run _ _ st a _ I η (by simpa using this) hro H' (.refl U I) hk (.refl η)

theorem W.regionLit {rd : Option Nat} {id : Nat} {ops : Array Oper} {Q : Ex → St → Prop} {st : St} (h : WL P rd ops ops.toList Q st) : W P rd (.region id ops false) Q st := by
  obtain ⟨l⟩ := ops
  exact W.region h
end
end Go.Ab
