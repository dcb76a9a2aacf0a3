/- Ab, part 18b: drawn regions in which a store and a load of different objects are unordered; rows that are turned into data. -/
import Derived.Test.YtlflddcbfbdldaaGreatDoorB9
namespace Go.Ab
open Go

/-- The object that an address points into. -/
def V.obj : V → Option Nat
  | .ptr i _ => some i
  | .rp i _ _ => some i
  | _ => none

def sepHas (sep : List (Nat × Nat)) (x y : Op) : Bool :=
  match x, y with
  | .store _ (.tmp p) _, .load _ (.tmp u) => sep.contains (p, u)
  | _, _ => false
def compatX (sep : List (Nat × Nat)) (x y : Oper) : Bool := compat x y || sepHas sep x.op y.op || sepHas sep y.op x.op
def sepOk (ops : Array Oper) (sep : List (Nat × Nat)) : Bool := sep.all fun q => ops.toList.all fun o => !decide (o.dst = some q.1) && !decide (o.dst = some q.2)
def Apart (sep : List (Nat × Nat)) (st : St) : Prop := ∀ q ∈ sep, ∃ i, (st.s q.1).obj = some i ∧ (st.s q.2).obj ≠ some i

section
variable {P : Program} {ops : Array Oper} {sep : List (Nat × Nat)}

theorem Apart.eff {o : Oper} {st st' : St} {j : Nat} (hj : ops[j]? = some o) (hs : sepOk ops sep = true) (h : Apart sep st) (hE : EffA P ops o st st') : Apart sep st' := by
  obtain ⟨v, G1, _, hp⟩ := hE
  obtain ⟨_, rfl⟩ := put_iff.1 hp
  intro q hq
  have h1 := List.all_eq_true.1 (List.all_eq_true.1 hs q hq) o (by simpa using List.mem_of_getElem? (by simpa using hj : ops.toList[j]? = some o))
  simp only [Bool.and_eq_true, Bool.not_eq_true', decide_eq_false_iff_not] at h1
  have e : ∀ t, o.dst ≠ some t → updS st.s o.dst v t = st.s t := fun t ht => by
    cases hd : o.dst with
    | none => rfl
    | some d => simp only [updS]; rw [if_neg]; rintro rfl; exact ht hd
  obtain ⟨i, h2, h3⟩ := h q hq
  exact ⟨i, by simpa [e _ h1.1] using h2, by simpa [e _ h1.2] using h3⟩

theorem EffV.loadMove {N : Nat} {s : Nat → V} {G G' : List Ob} {D : List Df} {o : Oper} {t : TypeId} {x : Nat} {v : V} {G1 : List Ob} (ho : o.op = .load t (.tmp x)) (hG : ∀ k, (s x).obj = some k → G'[k]? = G[k]?)
    (h : EffV P ops o ⟨N, s, G, D⟩ v G1) : EffV P ops o ⟨N, s, G', D⟩ v G' := by
  cases h with
  | act hw h =>
    cases h with
    | x h hnd =>
      rename_i st'
      have h' : absLoad P ⟨N, s, G, D⟩ t (s x) = some v := by
        rw [ho] at h
        simp only [absX, absQ, St.ev, Option.map_eq_some_iff, Prod.mk.injEq] at h
        obtain ⟨a, h1, rfl, _⟩ := h
        exact h1
      have hb : St.behind ⟨N, s, G', D⟩ (s x) = St.behind ⟨N, s, G, D⟩ (s x) := by
        cases hx : s x <;> simp only [St.behind]
        · rw [hG _ (by rw [hx]; rfl)]
        · rw [hG _ (by rw [hx]; rfl)]
      refine .act hw (.x (st' := ⟨N, s, G', D⟩) ?_ hnd)
      rw [ho]
      simp only [absX, absQ, St.ev]
      unfold absLoad at h' ⊢
      rw [hb, h']
      rfl
    | call ho' => rw [ho] at ho'; cases ho'
  | skip hw ha => exact .skip hw ha

theorem EffV.storeKeeps {N : Nat} {s : Nat → V} {G : List Ob} {D : List Df} {o : Oper} {t : TypeId} {p : Nat} {x : Operand} {v : V} {G1 : List Ob} {i : Nat} (ho : o.op = .store t (.tmp p) x) (hi : (s p).obj = some i)
    (h : EffV P ops o ⟨N, s, G, D⟩ v G1) : ∀ k, k ≠ i → G1[k]? = G[k]? := by
  intro k hk
  cases h with
  | act hw h =>
    cases h with
    | x h hnd =>
      rename_i st'
      rw [ho] at h
      simp only [absX, Option.map_eq_some_iff, Prod.mk.injEq] at h
      obtain ⟨s1, h1, _, rfl⟩ := h
      generalize St.ev ⟨N, s, G, D⟩ x = xv at h1
      rw [show St.ev ⟨N, s, G, D⟩ (.tmp p) = s p from rfl] at h1
      unfold absStore at h1
      obtain ⟨sh, _, h1⟩ := Option.bind_eq_some_iff.1 h1
      simp only [Option.ite_none_right_eq_some] at h1
      obtain ⟨_, h1⟩ := h1
      unfold absStoreAt at h1
      split at h1
      · rename_i i' off hp
        rw [hp] at hi
        injection hi with hi
        subst hi
        unfold absStoreBox at h1
        split at h1
        · split at h1
          · injection h1 with h1
            subst h1
            simp [List.getElem?_set_ne (Ne.symm hk)]
          · cases h1
        · cases h1
      · rename_i i' idx off hp
        rw [hp] at hi
        injection hi with hi
        subst hi
        unfold absStoreRow at h1
        split at h1
        · obtain ⟨y, _, h1⟩ := Option.bind_eq_some_iff.1 h1
          split at h1
          · injection h1 with h1
            subst h1
            simp [List.getElem?_set_ne (Ne.symm hk)]
          · cases h1
        · cases h1
      · cases h1
    | call ho' => rw [ho] at ho'; cases ho'
  | skip hw ha => rfl

theorem sepHas_spec {x y : Op} (h : sepHas sep x y = true) : ∃ t p e t' u, x = .store t (.tmp p) e ∧ y = .load t' (.tmp u) ∧ (p, u) ∈ sep := by
  unfold sepHas at h
  split at h
  · exact ⟨_, _, _, _, _, rfl, rfl, by simpa using h⟩
  · cases h

theorem EffA.swapX {oi oj : Oper} {st st1 st2 : St} (hl : st.low) (hA : Apart sep st) (hap : oi.apart ops oj = true) (hc : compatX sep oi oj = true) (h1 : EffA P ops oi st st1) (h2 : EffA P ops oj st1 st2) :
    ∃ st3, EffA P ops oj st st3 ∧ EffA P ops oi st3 st2 := by
  by_cases hc0 : compat oi oj = true
  · exact EffA.swap hl hap hc0 h1 h2
  have hc1 : sepHas sep oi.op oj.op = true ∨ sepHas sep oj.op oi.op = true := by
    simp only [compatX, Bool.or_eq_true] at hc
    rcases hc with (h | h) | h
    · exact absurd h hc0
    · exact .inl h
    · exact .inr h
  obtain ⟨v, Gi, hi, pi⟩ := h1
  obtain ⟨u, Gij, hj, pj⟩ := h2
  obtain ⟨a1, a2, a3⟩ := Oper.apart_spec hap
  obtain ⟨ni, rfl⟩ := put_iff.1 pi
  obtain ⟨nj, rfl⟩ := put_iff.1 pj
  obtain ⟨N, s, G, D⟩ := st
  simp only at hj ni nj pi pj ⊢
  have hj' := (EffV.looks (P := P) (ops := ops) (N := N) (s := s) (G := Gi) (D := D) (v := v) a1).1 hj
  rcases hc1 with hs | hs
  · obtain ⟨t, p, e, t', y, hoi, hoj, hm⟩ := sepHas_spec hs
    obtain ⟨i, hp, hy⟩ := hA _ hm
    have hk : kindOf oj.op = .pure ∨ kindOf oj.op = .read := .inr (by rw [hoj]; rfl)
    have hGij : Gij = Gi := EffV.quiet (st := ⟨N, s, Gi, D⟩) hk hj'
    subst hGij
    have keep := EffV.storeKeeps hoi hp hi
    have hj'' : EffV P ops oj ⟨N, s, G, D⟩ u G := EffV.loadMove hoj (fun k hk => (keep k (by rintro rfl; exact hy hk)).symm) hj'
    refine ⟨⟨N, updS s oj.dst u, G, D⟩, ⟨u, G, hj'', put_iff.2 ⟨nj, rfl⟩⟩, v, Gij, (EffV.looks a3).2 hi, put_iff.2 ⟨ni, ?_⟩⟩
    simp only [updS_comm a2]
  · obtain ⟨t, p, e, t', y, hoj, hoi, hm⟩ := sepHas_spec hs
    obtain ⟨i, hp, hy⟩ := hA _ hm
    have hGi : Gi = G := EffV.quiet (st := ⟨N, s, G, D⟩) (.inr (by rw [hoi]; rfl)) hi
    subst hGi
    have keep := EffV.storeKeeps hoj hp hj'
    refine ⟨⟨N, updS s oj.dst u, Gij, D⟩, ⟨u, Gij, hj', put_iff.2 ⟨nj, rfl⟩⟩, v, Gij, ?_, put_iff.2 ⟨ni, ?_⟩⟩
    · exact (EffV.looks a3).2 (EffV.loadMove hoi (fun k hk => keep k (by rintro rfl; exact hy hk)) hi)
    · simp only [updS_comm a2]

theorem AnyA_firstX {Q : St → Prop} {i : Nat} {oi : Oper} (hi : ops[i]? = some oi) (hsp : sepOk ops sep = true) : ∀ (fuel : Nat) (listed : Array Bool) (st st1 : St), st.real → Apart sep st → ClosedL ops listed →
      (∀ j oj, ops[j]? = some oj → j ≠ i → listed.getD j true = false → ¬ Wt ops j i → oi.apart ops oj = true ∧ compatX sep oi oj = true) →
      i ∈ Region.ready .any ops listed → EffA P ops oi st st1 → AnyA P ops Q fuel (listed.setIfInBounds i true) st1 → AnyA P ops Q (fuel + 1) listed st := by
  intro fuel
  induction fuel with
  | zero =>
    intro listed st st1 _ _ _ _ hr hE H
    refine ⟨fun h => (by rw [h] at hr; cases hr), fun j hj => ?_⟩
    by_cases hji : j = i
    · subst hji
      unfold OpA
      rw [hi]
      exact ⟨st1, hE, H⟩
    · have := ready_mono hj hji
      rw [H.1] at this
      cases this
  | succ fuel ih =>
    intro listed st st1 hreal hA hcl hfree hr hE H
    refine ⟨fun h => (by rw [h] at hr; cases hr), fun j hj => ?_⟩
    by_cases hji : j = i
    · subst hji
      unfold OpA
      rw [hi]
      exact ⟨st1, hE, H⟩
    · have h1 := H.2 j (ready_mono hj hji)
      obtain ⟨hjun, oj, hoj, hall⟩ := mem_ready.1 hj
      have hnot : ¬ Wt ops j i := fun hw => by
        have h1 := hw.listed hcl oj hoj hall
        have h0 := (mem_ready.1 hr).1
        rcases Nat.lt_or_ge i listed.size with h' | h'
        · simp [h'] at h0 h1; rw [h0] at h1; cases h1
        · simp [Array.getElem?_eq_none h'] at h1
      unfold OpA at h1 ⊢
      rw [hoj] at h1 ⊢
      obtain ⟨st2, hE2, h2⟩ := h1
      obtain ⟨f1, f2⟩ := hfree j oj hoj hji hjun hnot
      obtain ⟨st3, hE3, hE4⟩ := EffA.swapX hreal.low hA f1 f2 hE hE2
      have hfree' : ∀ k ok, ops[k]? = some ok → k ≠ i → (listed.setIfInBounds j true).getD k true = false →
          ¬ Wt ops k i → oi.apart ops ok = true ∧ compatX sep oi ok = true := fun k ok hk hki hun hno => by
        refine hfree k ok hk hki ?_ hno
        by_cases hjk : j = k
        · subst hjk; exact hjun
        · rw [getD_set_ne true hjk] at hun; exact hun
      refine ⟨st3, hE3, ih (listed.setIfInBounds j true) st3 st2 (hE3.real hreal) (hA.eff hoj hsp hE3) (hcl.add hj) hfree' (ready_mono hr (Ne.symm hji)) hE4 ?_⟩
      rw [Array.setIfInBounds_comm _ _ hji]
      exact h2

/-! ### The check, in a form that the kernel works out fast -/
theorem AnyA_ord {Q : St → Prop} (hord : ∀ (k : Nat) (o : Oper), ops[k]? = some o → ∀ e ∈ o.after, Region.binds .any e = true → e.on < k)
    (hfree : ∀ (i j : Nat) (oi oj : Oper), ops[i]? = some oi → ops[j]? = some oj → i < j → ¬ Wt ops j i → oi.apart ops oj = true ∧ compatX sep oi oj = true) (hsp : sepOk ops sep = true) :
    ∀ (l : List Oper) (k : Nat) (listed : Array Bool) (st : St), st.real → Apart sep st → ClosedL ops listed → (∀ j, l[j]? = ops[k + j]?) → listed.size = ops.size → (∀ j, j < ops.size → listed[j]? = some (decide (j < k))) →
    LexA P ops Q l st → AnyA P ops Q l.length listed st
  | [], k, listed, st, hreal, hA, hcl, hl, hsz, hli, h => by
    refine ⟨List.isEmpty_iff.1 ?_, h⟩
    rw [List.isEmpty_iff]
    refine List.eq_nil_iff_forall_not_mem.2 fun j hj => ?_
    obtain ⟨h1, o, ho, _⟩ := mem_ready.1 hj
    have hjs := (Array.getElem?_eq_some_iff.1 ho).1
    have hk : ops.size ≤ k := by
      have := hl 0
      simp at this
      exact this
    rw [Array.getD_eq_getD_getElem?, hli j hjs] at h1
    simp at h1
    omega
  | o :: l, k, listed, st, hreal, hA, hcl, hl, hsz, hli, h => by
    have h0 : ops[k]? = some o := by simpa using (hl 0).symm
    have hk := (Array.getElem?_eq_some_iff.1 h0).1
    obtain ⟨st', hE, h⟩ := h
    have hr' : k ∈ Region.ready .any ops listed := mem_ready.2 ⟨by rw [Array.getD_eq_getD_getElem?, hli k hk]; simp, o, h0, fun e he hb => by
      have hlt := hord k o h0 e he hb
      rw [Array.getD_eq_getD_getElem?, hli _ (by omega)]
      simpa using hlt⟩
    refine AnyA_firstX h0 hsp l.length listed st st' hreal hA hcl (fun j oj hj hne hun hno => ?_) hr' hE
      (AnyA_ord hord hfree hsp l (k + 1) _ st' (hE.real hreal) (hA.eff h0 hsp hE) (hcl.add hr') (fun j => by have := hl (j + 1); simpa [Nat.add_assoc, Nat.add_comm 1 j] using this) (by simpa using hsz) (fun j hj => ?_) h)
    · have hjs := (Array.getElem?_eq_some_iff.1 hj).1
      rw [Array.getD_eq_getD_getElem?, hli j hjs] at hun
      simp at hun
      exact hfree k j o oj h0 hj (by omega) hno
    · rw [Array.getElem?_setIfInBounds, hli j hj, hsz]
      by_cases hkj : k = j
      · subst hkj
        simp [hk]
      · simp [hkj]
        omega

def bitB (m i : Nat) : Bool := match (m >>> i) % 2 with | .zero => false | .succ _ => true
theorem bitB_eq (m i : Nat) : bitB m i = m.testBit i := by
  unfold bitB
  rw [Nat.testBit_eq_decide_div_mod_eq, Nat.shiftRight_eq_div_pow]
  have : m / 2 ^ i % 2 < 2 := Nat.mod_lt _ (by omega)
  generalize m / 2 ^ i % 2 = x at this ⊢
  match x with
  | 0 => rfl
  | 1 => rfl
def numK {α : Type} (n : Nat) (k : Nat → α) : α := match n with | .zero => k .zero | .succ m => k (.succ m)
theorem numK_eq {α : Type} (n : Nat) (k : Nat → α) : numK n k = k n := by cases n <;> rfl
/-- What operation k waits for, as bits; 'ms': the same of those before it, the nearest first. -/
def maskOf (k : Nat) (ms : List Nat) : List Edge → Nat → Nat
  | [], acc => acc
  | e :: es, acc => match Region.binds .any e with
    | true => match Nat.ble (e.on + 1) k with
      | true => numK (acc ||| (1 <<< e.on) ||| ms.getD (k - 1 - e.on) 0) fun acc => maskOf k ms es acc
      | false => maskOf k ms es acc
    | false => maskOf k ms es acc
def ordOk (k : Nat) : List Edge → Bool
  | [] => true
  | e :: es => match Region.binds .any e with
    | true => match Nat.ble (e.on + 1) k with
      | true => ordOk k es
      | false => false
    | false => ordOk k es
def pairsOk (sep : List (Nat × Nat)) (ops : Array Oper) (m : Nat) (o : Oper) : Nat → List Oper → Bool
  | _, [] => true
  | i, p :: ps => match bitB m i with
    | true => pairsOk sep ops m o (i - 1) ps
    | false => match p.apart ops o && compatX sep p o with
      | true => pairsOk sep ops m o (i - 1) ps
      | false => false
def lexGo (sep : List (Nat × Nat)) (ops : Array Oper) : List Oper → Nat → List Oper → List Nat → Bool
  | [], _, _, _ => true
  | o :: os, k, prev, ms => match ordOk k o.after.toList with
    | true => numK (maskOf k ms o.after.toList 0) fun m => match pairsOk sep ops m o (k - 1) prev with
      | true => lexGo sep ops os (k + 1) (o :: prev) (m :: ms)
      | false => false
    | false => false
def lexQ (sep : List (Nat × Nat)) (ops : Array Oper) : Bool := sepOk ops sep && lexGo sep ops ops.toList 0 [] []

theorem ordOk_spec {k : Nat} : ∀ (es : List Edge), ordOk k es = true → ∀ e ∈ es, Region.binds .any e = true → e.on < k
  | [], _, e, he, _ => by simp at he
  | e :: es, h, e', he, hb => by
    unfold ordOk at h
    split at h
    · split at h
      · rename_i hle
        rcases List.mem_cons.1 he with rfl | he
        · exact Nat.le_of_ble_eq_true hle
        · exact ordOk_spec es h e' he hb
      · cases h
    · rename_i hb'
      rcases List.mem_cons.1 he with rfl | he
      · rw [hb'] at hb; cases hb
      · exact ordOk_spec es h e' he hb
theorem maskOf_spec {k : Nat} {o : Oper} (ho : ops[k]? = some o) {ms : List Nat} (hms : ∀ (i m : Nat), ms[i]? = some m → i < k → ∀ x, m.testBit x = true → Wt ops (k - 1 - i) x) :
    ∀ (es : List Edge) (acc : Nat), (∀ e ∈ es, e ∈ o.after) → (∀ x, acc.testBit x = true → Wt ops k x) → ∀ x, (maskOf k ms es acc).testBit x = true → Wt ops k x
  | [], acc, _, hacc, x, hx => hacc x hx
  | e :: es, acc, hes, hacc, x, hx => by
    have hes' : ∀ e' ∈ es, e' ∈ o.after := fun e' he' => hes e' (List.mem_cons_of_mem _ he')
    unfold maskOf at hx
    split at hx
    · rename_i hb
      split at hx
      · rename_i hle
        have hlt : e.on < k := Nat.le_of_ble_eq_true hle
        rw [numK_eq] at hx
        refine maskOf_spec ho hms es _ hes' (fun y hy => ?_) x hx
        simp only [Nat.testBit_or, Bool.or_eq_true] at hy
        rcases hy with (hy | hy) | hy
        · exact hacc y hy
        · have : y = e.on := by
            rw [Nat.one_shiftLeft, Nat.testBit_two_pow] at hy
            exact (by simpa using hy : e.on = y).symm
          subst this
          exact .one ho (hes e List.mem_cons_self) hb
        · rw [List.getD_eq_getElem?_getD] at hy
          cases hl : ms[k - 1 - e.on]? with
          | none => rw [hl] at hy; simp at hy
          | some m =>
            rw [hl] at hy
            have := hms _ m hl (by omega) y hy
            rw [show k - 1 - (k - 1 - e.on) = e.on by omega] at this
            exact .more ho (hes e List.mem_cons_self) hb this
      · exact maskOf_spec ho hms es acc hes' hacc x hx
    · exact maskOf_spec ho hms es acc hes' hacc x hx
theorem pairsOk_spec {m : Nat} {o : Oper} : ∀ (prev : List Oper) (i : Nat), (∀ j p, prev[j]? = some p → j ≤ i) → pairsOk sep ops m o i prev = true → ∀ j p, prev[j]? = some p → m.testBit (i - j) = false → p.apart ops o = true ∧ compatX sep p o = true
  | [], _, _, _, j, p, hp, _ => by simp at hp
  | q :: ps, i, hlen, h, j, p, hp, hb => by
    have hl' : ∀ j p, ps[j]? = some p → j ≤ i - 1 := fun j p hj => by have := hlen (j + 1) p (by simpa using hj); omega
    have sub : ∀ j', j = j' + 1 → i - j = i - 1 - j' := fun j' hj => by omega
    unfold pairsOk at h
    split at h
    · rename_i hm
      cases j with
      | zero =>
        rw [bitB_eq] at hm
        rw [Nat.sub_zero, hm] at hb
        cases hb
      | succ j => exact pairsOk_spec ps (i - 1) hl' h j p (by simpa using hp) (by rw [← sub j rfl]; exact hb)
    · split at h
      · rename_i hc
        cases j with
        | zero =>
          simp at hp
          subst hp
          simpa using hc
        | succ j => exact pairsOk_spec ps (i - 1) hl' h j p (by simpa using hp) (by rw [← sub j rfl]; exact hb)
      · cases h
theorem lexGo_spec : ∀ (os : List Oper) (k : Nat) (prev : List Oper) (ms : List Nat), (∀ j, os[j]? = ops[k + j]?) → prev.length = k → (∀ (i : Nat) (p : Oper), prev[i]? = some p → ops[k - 1 - i]? = some p) →
    (∀ (i m : Nat), ms[i]? = some m → i < k → ∀ x, m.testBit x = true → Wt ops (k - 1 - i) x) → lexGo sep ops os k prev ms = true →
    ∀ (j : Nat) (oj : Oper), k ≤ j → ops[j]? = some oj → (∀ e ∈ oj.after, Region.binds .any e = true → e.on < j) ∧
      ∀ (i : Nat) (oi : Oper), ops[i]? = some oi → i < j → ¬ Wt ops j i → oi.apart ops oj = true ∧ compatX sep oi oj = true
  | [], k, prev, ms, hos, _, _, _, _, j, oj, hkj, hj => by
    have := hos (j - k)
    rw [show k + (j - k) = j by omega, hj] at this
    simp at this
  | o :: os, k, prev, ms, hos, hlen, hprev, hms, h, j, oj, hkj, hj => by
    have h0 : ops[k]? = some o := by simpa using (hos 0).symm
    unfold lexGo at h
    split at h
    case h_2 => cases h
    rename_i hord
    rw [numK_eq] at h
    split at h
    case h_2 => cases h
    rename_i hp
    have hmask := maskOf_spec h0 hms o.after.toList 0 (fun e he => by simpa using he) (fun x hx => by simp at hx)
    by_cases hjk : j = k
    · subst hjk
      rw [h0] at hj
      injection hj with hj
      subst hj
      refine ⟨fun e he hb => ordOk_spec _ hord e (by simpa using he) hb, fun i oi hi hlt hno => ?_⟩
      have hpi : prev[j - 1 - i]? = some oi := by
        cases hq : prev[j - 1 - i]? with
        | none => have := List.getElem?_eq_none_iff.1 hq; omega
        | some p =>
          have := hprev _ p hq
          rw [show j - 1 - (j - 1 - i) = i by omega, hi] at this
          rw [this]
      refine pairsOk_spec prev (j - 1) (fun q p hq => by have := (List.getElem?_eq_some_iff.1 hq).1; omega) hp _ oi hpi ?_
      rw [show j - 1 - (j - 1 - i) = i by omega]
      cases hb : (maskOf j ms o.after.toList 0).testBit i with
      | false => rfl
      | true => exact absurd (hmask i hb) hno
    · refine lexGo_spec os (k + 1) (o :: prev) _ (fun q => by have := hos (q + 1); simpa [Nat.add_assoc, Nat.add_comm 1 q] using this) (by simp [hlen]) (fun i p hi => ?_) (fun i m hi hik x hx => ?_) h j oj (by omega) hj
      · cases i with
        | zero => simp at hi; subst hi; simpa using h0
        | succ i =>
          have := hprev i p (by simpa using hi)
          rw [show k + 1 - 1 - (i + 1) = k - 1 - i by omega]
          exact this
      · cases i with
        | zero =>
          simp at hi
          subst hi
          simpa using hmask x hx
        | succ i =>
          have := hms i m (by simpa using hi) (by omega) x hx
          rw [show k + 1 - 1 - (i + 1) = k - 1 - i by omega]
          exact this

/-- **ONE WALK OF THE TEXT's ORDER SERVES EVERY ORDER.** Stores and loads at the addresses 'sep' speaks of may be unordered. -/
theorem W.regionDrawQ {rd : Option Nat} {id : Nat} {Q : Ex → St → Prop} {st : St} (sep : List (Nat × Nat)) (hA : Apart sep st) (hm : P.follows .mixedOrders = true) (hB : lexQ sep ops = true) (h : LexA P ops (Q .normal) ops.toList st) : W P rd (.region id ops true) Q st := by
  intro a w U I η r hro H
  have hk : Keep U I w { w with drawn := w.drawn + 1 } := ⟨rfl, rfl, rfl, Nat.le_refl _, fun _ _ => rfl⟩
  have H' : WR st a { w with drawn := w.drawn + 1 } U I η := H.world hk (fun _ _ _ _ _ _ => rfl) (fun _ h => h) (fun k h => H.lt k (.inr h)) (fun i e o h1 h2 h3 => (H.mt i e o h1 h2 h3).2)
  refine wpP_region_any hm ?_
  simp only [lexQ, Bool.and_eq_true] at hB
  have spec := lexGo_spec (ops := ops) (sep := sep) ops.toList 0 [] [] (fun j => by simp) rfl (fun i p hi => by simp at hi) (fun i m hi => by simp at hi) hB.2
  have := AnyA_ord (P := P) (Q := Q .normal) (ops := ops) (sep := sep) (fun k o hk => (spec k o (Nat.zero_le _) hk).1) (fun i j oi oj hi hj hlt hno => (spec j oj (Nat.zero_le _) hj).2 i oi hi hlt hno) hB.1 ops.toList 0 (Array.replicate ops.size false) st ⟨_, _, _, _, _, H⟩ hA (fun k o hk => by
    simp only [Array.getD_eq_getD_getElem?, Array.getElem?_replicate] at hk
    split at hk <;> simp at hk) (by simp) (by simp) (fun j hj => by simp [hj]) h
  exact AnyA.run _ _ st a _ I η (by simpa using this) hro H' (.refl U I) hk (.refl η)

/-- A row that is not written any more, as data. -/
theorem W.freeze {rd : Option Nat} {c : Code} {Q : Ex → St → Prop} {st st1 : St} {t : Nat} {d : V} (hv : st.view (st.s t) = some (d, st1)) (h : W P rd c Q (st1.set t d)) : W P rd c Q st := by
  intro a w U I η r hro H
  obtain ⟨I', H1, hf, hd, e1, e2⟩ := view_run H (H.sl t) hv
  have H2 : WR (st1.set t d) a w U I' η := ⟨H1.size, H1.len, H1.lt, H1.inj, H1.mt, H1.frz, H1.ob, fun t' => by
    simp only [St.set]
    by_cases ht : t' = t
    · subst ht; simp; exact .d hd
    · simp [ht]; exact H1.sl t', H1.df, H1.glb⟩
  exact wpP_mono (h a w U I' η r hro H2) fun _ _ _ hp => Post.later (Keep.refl U I w) hf (Ext.refl η) hp

/-! ### Objects that a call does not touch may be hidden from it -/
def hid : Ob → Bool
  | .obj (.loop ..) => true
  | .obj (.iter ..) => true
  | .obj (.siter ..) => true
  | _ => false
def hideL (G : List Ob) : List Ob := G.map fun o => if hid o = true then .dead else o
def showL : List Ob → List Ob → List Ob
  | [], G' => G'
  | _ :: _, [] => []
  | o :: G, x :: G' => (if hid o = true then o else x) :: showL G G'
theorem showL_length : ∀ (G G' : List Ob), (showL G G').length = G'.length
  | [], _ => rfl
  | _ :: _, [] => rfl
  | o :: G, x :: G' => by simp [showL, showL_length G G']
theorem showL_get : ∀ (G G' : List Ob) (i : Nat) (x : Ob), (showL G G')[i]? = some x → (∃ o, G[i]? = some o ∧ hid o = true ∧ x = o) ∨ (G'[i]? = some x ∧ ∀ o, G[i]? = some o → hid o = false)
  | [], G', i, x, h => .inr ⟨h, fun o ho => by simp at ho⟩
  | _ :: _, [], i, x, h => by simp [showL] at h
  | o :: G, y :: G', i, x, h => by
    cases i with
    | zero =>
      simp only [showL, List.getElem?_cons_zero, Option.some.injEq] at h
      by_cases hh : hid o = true
      · rw [if_pos hh] at h
        exact .inl ⟨o, rfl, hh, h.symm⟩
      · rw [if_neg hh] at h
        subst h
        exact .inr ⟨rfl, fun o' ho => by simp at ho; subst ho; simpa using hh⟩
    | succ i =>
      simp only [showL, List.getElem?_cons_succ] at h ⊢
      exact showL_get G G' i x h
theorem hid_mut {o : Ob} (h : hid o = true) : o.mut = true := by
  unfold hid at h
  split at h <;> first | rfl | cases h

theorem Cal.hide {f : FuncId} {args : List V} {G : List Ob} {Φ : Out → List Ob → Prop} (h : Cal P f args (hideL G) Φ) : Cal P f args G (fun x G' => ∃ G2, Φ x G2 ∧ G' = showL G G2) := by
  intro us w U I η H hr
  let U' : Nat → Prop := fun k => U k ∨ ∃ (i : Nat) (e : Blk) (o : Ob), η[i]? = some e ∧ G[i]? = some o ∧ hid o = true ∧ k = e.b
  have hget : ∀ (i : Nat) (o : Ob), (hideL G)[i]? = some o → (∃ o', G[i]? = some o' ∧ hid o' = true ∧ o = .dead) ∨ (G[i]? = some o ∧ hid o = false) := by
    intro i o ho
    simp only [hideL, List.getElem?_map, Option.map_eq_some_iff] at ho
    obtain ⟨o', h1, h2⟩ := ho
    by_cases hh : hid o' = true
    · rw [if_pos hh] at h2
      exact .inl ⟨o', h1, hh, h2.symm⟩
    · rw [if_neg hh] at h2
      subst h2
      exact .inr ⟨h1, by simpa using hh⟩
  have H0 : WG (hideL G) w U' I η := by
    refine ⟨rfl, H.len.trans (by simp [hideL]), ?_, ?_, ?_, ?_, ?_, fun t => .d (.undef _), .nil, H.glb⟩
    · rintro k ((hk | ⟨i, e, o, h1, h2, h3, rfl⟩) | hk)
      · exact H.lt k (.inl hk)
      · exact (H.ob i e o h1 h2).lt (Ob.mut_live (hid_mut h3))
      · exact H.lt k (.inr hk)
    · intro i j e e' o o' h1 h2 h3 h4 h5 h6 h7
      rcases hget i o h3 with ⟨_, _, _, rfl⟩ | ⟨h3, _⟩
      · cases h5
      rcases hget j o' h4 with ⟨_, _, _, rfl⟩ | ⟨h4, _⟩
      · cases h6
      exact H.inj i j e e' o o' h1 h2 h3 h4 h5 h6 h7
    · intro i e o h1 h2 h3
      rcases hget i o h2 with ⟨_, _, _, rfl⟩ | ⟨h2, hn⟩
      · cases h3
      refine ⟨?_, (H.mt i e o h1 h2 h3).2⟩
      rintro (hu | ⟨j, e', o', g1, g2, g3, g4⟩)
      · exact (H.mt i e o h1 h2 h3).1 hu
      · have := H.inj i j e e' o o' h1 g1 h2 g2 (Ob.mut_live h3) (Ob.mut_live (hid_mut g3)) g4
        subst this
        rw [h2] at g2
        injection g2 with g2
        subst g2
        rw [hn] at g3
        cases g3
    · intro i e o h1 h2 h3
      rcases hget i o h2 with ⟨_, _, _, rfl⟩ | ⟨h2, _⟩
      · cases h3
      exact H.frz i e o h1 h2 h3
    · intro i e o h1 h2
      rcases hget i o h2 with ⟨_, _, _, rfl⟩ | ⟨h2, _⟩
      · trivial
      exact H.ob i e o h1 h2
  refine (h us w U' I η H0 hr).mono ?_
  rintro e w' ⟨x, G2, I', η', k1, k2, k3, k4, k5, k6⟩
  have hk : Keep U I w w' := ⟨k5.os, k5.tape, k5.output, k5.size, fun k hk => k5.block k (hk.imp .inl id)⟩
  have hfoot : Foot U I I' := ⟨k4.le, fun k hk => (k4.new k hk).imp id (fun h hu => h (.inl hu))⟩
  have hidden : ∀ (i : Nat) (e : Blk) (o : Ob), η'[i]? = some e → G[i]? = some o → hid o = true → η[i]? = some e ∧ U' e.b ∧ ¬ U e.b ∧ ¬ I' e.b ∧ w'.heap[e.b]? = w.heap[e.b]? := by
    intro i e o h1 h2 h3
    have hi : i < η.length := by rw [H.len]; exact (List.getElem?_eq_some_iff.1 h2).1
    have h4 := k6 i _ (List.getElem?_eq_getElem hi)
    rw [h1] at h4
    injection h4 with h4
    have h5 : η[i]? = some e := by rw [List.getElem?_eq_getElem hi, h4]
    have hu : U' e.b := .inr ⟨i, e, o, h5, h2, h3, rfl⟩
    have hm := H.mt i e o h5 h2 (hid_mut h3)
    refine ⟨h5, hu, hm.1, fun hI => ?_, k5.block _ (.inl hu)⟩
    rcases k4.new _ hI with hh | hh
    · exact hm.2 hh
    · exact hh hu
  have apart : ∀ (i j : Nat) (e e' : Blk) (o o' : Ob), η'[i]? = some e → η'[j]? = some e' → G[i]? = some o → hid o = true → G2[j]? = some o' → o'.live = true → e.b ≠ e'.b := by
    intro i j e e' o o' h1 h2 h3 h4 h5 h6 h7
    obtain ⟨_, hu, _, hI, _⟩ := hidden i e o h1 h3 h4
    rcases Ob.live_cases h6 with hm | hf
    · exact (k3.mt j e' o' h2 h5 hm).1 (h7 ▸ hu)
    · exact hI (h7 ▸ k3.frz j e' o' h2 h5 hf)
  refine ⟨x, showL G G2, I', η', k1, ⟨G2, k2, rfl⟩, ⟨rfl, k3.len.trans (by simp [showL_length]), ?_, ?_, ?_, ?_, ?_, fun t => .d (.undef _), .nil, k3.glb⟩, hfoot, hk, k6⟩
  · intro k hk'
    exact k3.lt k (hk'.imp .inl id)
  · intro i j e e' o o' h1 h2 h3 h4 h5 h6 h7
    rcases showL_get G G2 i o h3 with ⟨p, p1, p2, rfl⟩ | ⟨p1, _⟩
    · rcases showL_get G G2 j o' h4 with ⟨q, q1, q2, rfl⟩ | ⟨q1, _⟩
      · obtain ⟨a1, _⟩ := hidden i e _ h1 p1 p2
        obtain ⟨b1, _⟩ := hidden j e' _ h2 q1 q2
        exact H.inj i j e e' _ _ a1 b1 p1 q1 h5 h6 h7
      · exact absurd h7 (apart i j e e' _ _ h1 h2 p1 p2 q1 h6)
    · rcases showL_get G G2 j o' h4 with ⟨q, q1, q2, rfl⟩ | ⟨q1, _⟩
      · exact absurd h7.symm (apart j i e' e _ _ h2 h1 q1 q2 p1 h5)
      · exact k3.inj i j e e' _ _ h1 h2 p1 q1 h5 h6 h7
  · intro i e o h1 h2 h3
    rcases showL_get G G2 i o h2 with ⟨p, p1, p2, rfl⟩ | ⟨p1, _⟩
    · obtain ⟨_, _, a3, a4, _⟩ := hidden i e _ h1 p1 p2
      exact ⟨a3, a4⟩
    · have := k3.mt i e o h1 p1 h3
      exact ⟨fun hu => this.1 (.inl hu), this.2⟩
  · intro i e o h1 h2 h3
    rcases showL_get G G2 i o h2 with ⟨p, p1, p2, rfl⟩ | ⟨p1, _⟩
    · have hm := hid_mut p2
      cases o <;> simp_all [Ob.frozen, Ob.mut]
    · exact k3.frz i e o h1 p1 h3
  · intro i e o h1 h2
    rcases showL_get G G2 i o h2 with ⟨p, p1, p2, rfl⟩ | ⟨p1, _⟩
    · obtain ⟨a1, _, _, _, a5⟩ := hidden i e _ h1 p1 p2
      exact (H.ob i e _ a1 p1).mono (fun k hk' => k5.block k (.inr hk')) k4.le k6 (fun _ => a5)
    · exact k3.ob i e o h1 p1

theorem showL_ge : ∀ (G G2 : List Ob), GE (hideL G) G2 → GE G (showL G G2)
  | [], G2, _ => fun i o h => by simp at h
  | o :: G, [], h => by
    have := h 0 _ (by simp [hideL]; rfl)
    simp at this
  | o :: G, x :: G2, h => by
    intro i y hy
    cases i with
    | zero =>
      simp at hy
      subst hy
      simp only [showL, List.getElem?_cons_zero]
      by_cases hh : hid o = true
      · rw [if_pos hh]
      · rw [if_neg hh]
        have := h 0 o (by simp [hideL, hh])
        simpa using this
    | succ i =>
      simp only [showL, List.getElem?_cons_succ]
      exact showL_ge G G2 (fun j z hz => by have := h (j + 1) z (by simpa [hideL] using hz); simpa using this) i y (by simpa using hy)

/-! ### For the evaluator -/
def sliceTmps (ops : Array Oper) : List Nat := (ops.toList.map fun o => match o.op with
  | .slice _ (.tmp k) _ _ _ => k :: ops.toList.filterMap fun o' => match o'.dst, o'.op with
    | some d, .move (.tmp y) => if d = k then some y else none
    | _, _ => none
  | _ => []).flatten
def freezeL : List Nat → St → St
  | [], st => st
  | t :: ts, st => match st.s t with
    | .row i len => match st.view (.row i len) with
      | some (d, st1) => freezeL ts (st1.set t d)
      | none => freezeL ts st
    | _ => freezeL ts st
theorem W.freezeL {rd : Option Nat} {c : Code} {Q : Ex → St → Prop} : ∀ (ts : List Nat) (st : St), W P rd c Q (freezeL ts st) → W P rd c Q st
  | [], st, h => h
  | t :: ts, st, h => by
    unfold Go.Ab.freezeL at h
    split at h
    · rename_i i len hs
      split at h
      · rename_i d st1 hv
        exact W.freeze (by rw [hs]; exact hv) (W.freezeL ts _ h)
      · exact W.freezeL ts _ h
    · exact W.freezeL ts _ h
def apartB (a b : V) : Bool := match a.obj with
  | some i => !decide (b.obj = some i)
  | none => false
def sepOf (ops : Array Oper) (st : St) : List (Nat × Nat) :=
  let free (t : Nat) : Bool := ops.toList.all fun o => !decide (o.dst = some t)
  (ops.toList.map fun o => match o.op with
    | .store _ (.tmp p) _ => if free p = true then ops.toList.filterMap fun o' => match o'.op with
      | .load _ (.tmp u) => if (free u && apartB (st.s p) (st.s u)) = true then some (p, u) else none
      | _ => none else []
    | _ => []).flatten
def apartL (st : St) (sep : List (Nat × Nat)) : Bool := sep.all fun q => apartB (st.s q.1) (st.s q.2)
theorem apartL_spec {st : St} {sep : List (Nat × Nat)} (h : apartL st sep = true) : Apart sep st := by
  intro q hq
  have := List.all_eq_true.1 h q hq
  unfold apartB at this
  split at this
  · rename_i i hi
    exact ⟨i, hi, by simpa using this⟩
  · cases this
end
end Go.Ab
