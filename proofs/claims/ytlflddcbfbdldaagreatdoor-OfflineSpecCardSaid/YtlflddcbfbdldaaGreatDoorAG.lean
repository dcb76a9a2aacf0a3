/- Ab, part 5c: maps, read. -/
import Derived.Test.YtlflddcbfbdldaaGreatDoorAF
import Derived.Laws.Entries
namespace Go.Ab
open Go

/-- May a value be a map's key? -/
def chkA (P : Program) : Nat → TypeId → V → Bool
  | 0, _, _ => false
  | d + 1, t, x =>
    match P.underlying t, x with
    | some .bool, .bool _ => true
    | some (.int _), .int _ _ => true
    | some .string, .str _ => true
    | some (.struct fs), .agg cs => fs.toList.all fun f => f.name == "_" || ((shape P f.type).bind fun s => (takeCells s.1 s.2 cs f.offset).map fun v => chkA P d f.type v).getD false
    | some (.array n e), .agg cs => ((shape P e).map fun s => decide (P.cellsOf e = s.2) && (List.range n).all fun i => ((takeCells s.1 s.2 cs (i * s.2)).map fun v => chkA P d e v).getD false).getD false
    | _, _ => false

/-- Where a key stands. -/
def findA (P : Program) (t : TypeId) (k : V) : List (V × V × Nat) → Nat → Option (Option (Nat × V))
  | [], _ => some none
  | e :: es, i => (eqA P 64 t k e.1).bind fun b => if b = true then some (some (i, e.2.1)) else findA P t k es (i + 1)

def St.mapOf (st : St) : V → Option (List (V × V × Nat))
  | .mnil => some []
  | .map i => match st.G[i]? with | some (.obj (.map es _)) => some es | _ => none
  | _ => none

def absLookup (P : Program) (st : St) (t : TypeId) (m k : V) (ok : Bool) : Option V :=
  match P.underlying t with
  | some (.map kt et) => (st.mapOf m).bind fun es => if chkA P 64 kt k = true then (findA P kt k es 0).bind fun r => match r with
      | some (_, v) => some (if ok = true then .tup [v, .bool true] else v)
      | none => (zeroVal P et).map fun z => if ok = true then .tup [z, .bool false] else z
    else none
  | _ => none

section
variable {P : Program} {st : St} {a : Act} {w : World} {U I : Nat → Prop} {η : List Blk}

theorem chkA_run {em : Bool} : ∀ (d : Nat) (t : TypeId) (x : V) (u : Value), chkA P d t x = true → Rel w I η x u → ∀ n, d ≤ n → (Instr.checkKey em n t u).run P w = .ok () w
  | 0, _, _, _, h, _, _, _ => by simp [chkA] at h
  | d + 1, t, x, u, h, hx, n, hn => by
    obtain ⟨n, rfl⟩ : ∃ m, n = m + 1 := ⟨n - 1, by omega⟩
    simp only [chkA] at h
    split at h
    · rename_i hu; obtain rfl := hx.bool_inv; simp [Instr.checkKey, run_underlying hu]
    · rename_i hu; obtain rfl := hx.int_inv; simp [Instr.checkKey, run_underlying hu]
    · rename_i hu; obtain rfl := hx.str_inv; simp [Instr.checkKey, run_underlying hu]
    · rename_i fs cs hu
      obtain ⟨us, rfl, hr⟩ := hx.agg_inv
      unfold Instr.checkKey
      simp only [Sem.run_bind, run_underlying hu, Result.andThen_ok]
      rw [← Array.forIn_toList]
      have hrec := fun (t : TypeId) (x : V) (u : Value) h1 h2 => chkA_run (em := em) d t x u h1 h2 n (by omega)
      generalize fs.toList = l at h
      clear hu
      induction l with
      | nil => simp
      | cons f l ih =>
        simp only [List.all_cons, Bool.and_eq_true, Bool.or_eq_true, beq_iff_eq] at h
        obtain ⟨h1, h2⟩ := h
        have ih := ih h2
        simp only [List.forIn_cons, Sem.run_bind, Sem.run_ite]
        by_cases hnm : f.name = "_"
        · rw [if_neg (by simpa using hnm)]
          simpa using ih
        · have h1 := h1.resolve_left hnm
          cases hs : shape P f.type with
          | none => simp [hs] at h1
          | some s =>
            simp only [hs, Option.bind_some] at h1
            cases ht : takeCells s.1 s.2 cs f.offset with
            | none => simp [ht] at h1
            | some v =>
              simp only [ht, Option.map_some, Option.getD_some] at h1
              obtain ⟨u, hu, hru⟩ := part_run (agg := s.1) (n := s.2) hs hr ht
              have := hrec f.type v u h1 hru
              rw [if_pos (by simpa using hnm)]
              simp only [hu, Result.andThen_ok, this]
              simpa using ih
    · rename_i m e cs hu
      obtain ⟨us, rfl, hr⟩ := hx.agg_inv
      cases hs : shape P e with
      | none => simp [hs] at h
      | some s =>
        simp only [hs, Option.map_some, Option.getD_some, Bool.and_eq_true, decide_eq_true_eq] at h
        obtain ⟨hc, h⟩ := h
        obtain ⟨i, hi⟩ : ∃ i, P.info? e = some i := by
          unfold shape at hs
          obtain ⟨_, _, hs⟩ := Option.bind_eq_some_iff.1 hs
          obtain ⟨i, hi, _⟩ := Option.bind_eq_some_iff.1 hs
          exact ⟨i, hi⟩
        unfold Instr.checkKey
        simp only [Sem.run_bind, run_underlying hu, Result.andThen_ok]
        simp only [Std.Legacy.Range.forIn_eq_forIn_range', Std.Legacy.Range.size, Nat.sub_zero, Nat.add_one_sub_one, Nat.div_one]
        rw [List.range_eq_range'] at h
        have hrec := fun (x : V) (u : Value) h1 h2 => chkA_run (em := em) d e x u h1 h2 n (by omega)
        generalize List.range' 0 m = l at h
        clear hu
        induction l with
        | nil => simp
        | cons j l ih =>
          simp only [List.all_cons, Bool.and_eq_true] at h
          obtain ⟨h1, h2⟩ := h
          have ih := ih h2
          simp only [List.forIn_cons, Sem.run_bind]
          cases ht : takeCells s.1 s.2 cs (j * s.2) with
          | none => simp [ht] at h1
          | some v =>
            simp only [ht, Option.map_some, Option.getD_some] at h1
            obtain ⟨u, hu, hru⟩ := part_run (agg := s.1) (n := s.2) hs hr ht
            have := hrec v u h1 hru
            simp only [run_sizeOf w hi, hc, hu, Result.andThen_ok, this]
            simpa using ih
    · cases h

theorem findNow_run {kt : TypeId} {kd : TypeDesc} (hu : P.underlying kt = some kd) {k : V} {u : Value} (hk : Rel w I η k u) : ∀ (es : List (V × V × Nat)) (ms : List MapEntry) (i : Nat) (r : Option (Nat × V)), es.length = ms.length →
    (∀ (i : Nat) (x : V × V × Nat) (m : MapEntry), es[i]? = some x → ms[i]? = some m → Rel w I η x.1 m.key ∧ Rel w I η x.2.1 m.val) → findA P kt k es i = some r →
    ∀ r', Instr.findNow kd u ms i = some r' → (r = none ∧ r' = none) ∨ ∃ j v z, r = some (j, v) ∧ r' = some (j, z) ∧ Rel w I η v z
  | [], ms, i, r, hl, _, h, r', h' => by
    cases ms with
    | cons m ms => simp at hl
    | nil =>
      simp only [findA, Option.some.injEq] at h
      simp only [Instr.findNow, Option.some.injEq] at h'
      exact .inl ⟨h.symm, h'.symm⟩
  | e :: es, ms, i, r, hl, hr, h, r', h' => by
    cases ms with
    | nil => simp at hl
    | cons m ms =>
      obtain ⟨h1, h2⟩ := hr 0 e m rfl rfl
      simp only [findA] at h
      obtain ⟨b, hb, h⟩ := Option.bind_eq_some_iff.1 h
      have heq := eqA_run (P := P) 64 kt k e.1 u m.key b hb hk h1 10000 (by omega)
      have same : ∀ c, Instr.sameNow kd u m.key = some c → c = b := by
        intro c hc
        clear h1 hr h'
        generalize m.key = mk at heq hc
        unfold Instr.sameNow at hc
        split at hc
        · split at hc
          · rename_i hkk
            subst hkk
            injection hc with hc
            subst hc
            have := heq.symm.trans (run_equalIn_int w 9999 kt _ _ _ _ hu)
            simpa using this.symm
          · cases hc
        · injection hc with hc
          subst hc
          have := heq.symm.trans (run_equalIn_string w 9999 kt _ _ hu)
          rw [beq_toListBytes]
          simpa using this.symm
        · injection hc with hc
          subst hc
          have := heq.symm.trans (run_equalIn_bool' w 9999 kt _ _ hu)
          simpa using this.symm
        · cases hc
      simp only [Instr.findNow] at h'
      split at h'
      · rename_i hc
        obtain rfl := same _ hc
        rw [if_pos rfl] at h
        injection h with h
        injection h' with h'
        exact .inr ⟨i, e.2.1, m.val, h.symm, h'.symm, h2⟩
      · rename_i hc
        obtain rfl := same _ hc
        rw [if_neg (by simp)] at h
        exact findNow_run hu hk es ms (i + 1) r (by simpa using hl) (fun j x m hx hm => hr (j + 1) x m (by simpa using hx) (by simpa using hm)) h r' h'
      · cases h'

theorem findAsking_run {kt : TypeId} {k : V} {u : Value} (hk : Rel w I η k u) : ∀ (es : List (V × V × Nat)) (ms : List MapEntry) (i : Nat) (r : Option (Nat × V)), es.length = ms.length →
    (∀ (i : Nat) (x : V × V × Nat) (m : MapEntry), es[i]? = some x → ms[i]? = some m → Rel w I η x.1 m.key ∧ Rel w I η x.2.1 m.val) → findA P kt k es i = some r →
    ∃ r', (Instr.findAsking kt u ms i).run P w = .ok r' w ∧ ((r = none ∧ r' = none) ∨ ∃ j v z, r = some (j, v) ∧ r' = some (j, z) ∧ Rel w I η v z)
  | [], ms, i, r, hl, _, h => by
    cases ms with
    | cons m ms => simp at hl
    | nil =>
      simp only [findA, Option.some.injEq] at h
      exact ⟨none, rfl, .inl ⟨h.symm, rfl⟩⟩
  | e :: es, ms, i, r, hl, hr, h => by
    cases ms with
    | nil => simp at hl
    | cons m ms =>
      obtain ⟨h1, h2⟩ := hr 0 e m rfl rfl
      simp only [findA] at h
      obtain ⟨b, hb, h⟩ := Option.bind_eq_some_iff.1 h
      have heq := eqA_run (P := P) 64 kt k e.1 u m.key b hb hk h1 10000 (by omega)
      simp only [Instr.findAsking, Sem.run_bind, Op.equal, Op.maxDepth, heq, Result.andThen_ok]
      cases b with
      | true =>
        rw [if_pos rfl] at h
        injection h with h
        exact ⟨some (i, m.val), by simp, .inr ⟨i, e.2.1, m.val, h.symm, rfl, h2⟩⟩
      | false =>
        rw [if_neg (by simp)] at h
        obtain ⟨r', g1, g2⟩ := findAsking_run hk es ms (i + 1) r (by simpa using hl) (fun j x m hx hm => hr (j + 1) x m (by simpa using hx) (by simpa using hm)) h
        exact ⟨r', by simpa using g1, g2⟩

theorem findKey_run {kt : TypeId} {k : V} {u : Value} (hk : Rel w I η k u) (hc : chkA P 64 kt k = true) {es : List (V × V × Nat)} {ms : List MapEntry} (hl : es.length = ms.length)
    (hr : ∀ (i : Nat) (x : V × V × Nat) (m : MapEntry), es[i]? = some x → ms[i]? = some m → Rel w I η x.1 m.key ∧ Rel w I η x.2.1 m.val) {r : Option (Nat × V)} (h : findA P kt k es 0 = some r) :
    ∃ r', (Instr.findKey kt u ms).run P w = .ok r' w ∧ ((r = none ∧ r' = none) ∨ ∃ j v z, r = some (j, v) ∧ r' = some (j, z) ∧ Rel w I η v z) := by
  obtain ⟨kd, hu⟩ : ∃ kd, P.underlying kt = some kd := by
    cases hu : P.underlying kt with
    | none => simp [chkA, hu] at hc
    | some kd => exact ⟨kd, rfl⟩
  unfold Instr.findKey
  simp only [Sem.run_bind, run_underlying hu, Result.andThen_ok]
  cases hf : Instr.findNow kd u ms 0 with
  | some r' => exact ⟨r', by simp, findNow_run hu hk es ms 0 r hl hr h r' hf⟩
  | none =>
    obtain ⟨r', g1, g2⟩ := findAsking_run (P := P) hk es ms 0 r hl hr h
    exact ⟨r', by simpa using g1, g2⟩

theorem lookup_run (H : WR st a w U I η) {t : TypeId} {m k v : V} {y z : Value} {ok : Bool} (hm : Rel w I η m y) (hk : Rel w I η k z) (h : absLookup P st t m k ok = some v) :
    ∃ u, (Instr.lookup t y z ok).run P w = .ok u w ∧ Rel w I η v u := by
  unfold absLookup at h
  split at h
  · rename_i kt et hu
    obtain ⟨es, hes, h⟩ := Option.bind_eq_some_iff.1 h
    split at h
    case isFalse => cases h
    rename_i hchk
    obtain ⟨r, hf, h⟩ := Option.bind_eq_some_iff.1 h
    have main : ∀ ms : Array MapEntry, es.length = ms.size → (∀ (i : Nat) (x : V × V × Nat) (m : MapEntry), es[i]? = some x → ms.toList[i]? = some m → Rel w I η x.1 m.key ∧ Rel w I η x.2.1 m.val) →
        ∃ u, (do
          Instr.checkKey ms.isEmpty 10000 kt z
          let (v, ok') ← match ← Instr.findKey kt z ms.toList with
            | some (_, v) => pure (v, true)
            | none => pure (← zeroValue et, false)
          pure (if ok then .tuple #[v, .bool ok'] else v) : Sem Value).run P w = .ok u w ∧ Rel w I η v u := by
      intro ms hl hr
      have hck := chkA_run (P := P) (em := ms.isEmpty) 64 kt k z hchk hk 10000 (by omega)
      obtain ⟨r', hrun, hcase⟩ := findKey_run (P := P) hk hchk (by simpa using hl) hr hf
      simp only [Sem.run_bind, hck, Result.andThen_ok, hrun]
      have pair : ∀ (v : V) (u : Value) (b : Bool), Rel w I η v u → Rel w I η (if ok = true then .tup [v, .bool b] else v) (if ok = true then .tuple #[u, .bool b] else u) := by
        intro v u b hv
        cases ok
        · exact hv
        · refine .tup _ _ rfl (fun i v u hv' hu' => ?_)
          match i with
          | 0 => simp at hv' hu'; subst hv'; subst hu'; exact hv
          | 1 => simp at hv' hu'; subst hv'; subst hu'; exact .d (.bool _)
          | i + 2 => simp at hv'
      rcases hcase with ⟨rfl, rfl⟩ | ⟨j, v', z', rfl, rfl, hv⟩
      · obtain ⟨zv, hz, rfl⟩ := Option.map_eq_some_iff.1 h
        obtain ⟨u, hu', hur⟩ := zeroVal_run (P := P) (w := w) (I := I) (η := η) hz
        exact ⟨_, by simp [hu'], pair zv u false hur⟩
      · injection h with h
        subst h
        exact ⟨_, by simp, pair v' z' true hv⟩
    unfold St.mapOf at hes
    split at hes
    · injection hes with hes
      subst hes
      obtain rfl := hm.mnil_inv
      obtain ⟨u, h1, h2⟩ := main #[] rfl (fun i x m hx => by simp at hx)
      refine ⟨u, ?_, h2⟩
      unfold Instr.lookup
      simp only [Sem.run_bind, run_underlying hu, Result.andThen_ok, Sem.run_pure]
      simp only [Sem.run_bind] at h1
      exact h1
    · rename_i i
      obtain ⟨e, he, rfl⟩ := hm.map_inv
      split at hes
      · rename_i es' clock hG
        injection hes with hes
        subst hes
        obtain ⟨x, hx, ms, rfl, hl, hr⟩ := H.ob i e _ he hG
        obtain ⟨u, h1, h2⟩ := main ms hl.symm (fun i x m hx hm => let ⟨a, b, _⟩ := hr i x m hx (by simpa using hm); ⟨a, b⟩)
        refine ⟨u, ?_, h2⟩
        unfold Instr.lookup
        have hget : (getObj e.b).run P w = .ok (.map ms clock) w := by simp [getObj, Sem.run, hx]
        simp only [Sem.run_bind, run_underlying hu, Result.andThen_ok, hget, Sem.run_pure]
        simp only [Sem.run_bind] at h1
        exact h1
      · cases hes
    · cases hes
  · cases h
end
end Go.Ab
