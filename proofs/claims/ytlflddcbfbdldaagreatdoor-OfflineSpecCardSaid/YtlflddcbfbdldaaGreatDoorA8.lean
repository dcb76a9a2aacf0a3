/- Ab, part 8: rows: slices of the activation's own. -/
import Derived.Test.YtlflddcbfbdldaaGreatDoorA7
import Derived.Maps.AppendAt
import Derived.Laws.MakeOwn
namespace Go.Ab
open Go

/-- A slice type's element: its type, its cells, its bytes, the cells of its zero value. -/
def elemInfo (P : Program) (t : TypeId) : Option (TypeId × Nat × Nat × List V) :=
  match P.underlying t with
  | some (.slice e) => (P.info? e).bind fun i => i.zero.bind fun z => if z.cells.size = i.size ∧ 0 < i.size then some (e, i.size, i.bytes, z.cells.toList.map absC) else none
  | _ => none
theorem elemInfo_some {P : Program} {t e : TypeId} {sz by_ : Nat} {zc : List V} (h : elemInfo P t = some (e, sz, by_, zc)) :
    ∃ i z, P.underlying t = some (.slice e) ∧ P.info? e = some i ∧ i.zero = some z ∧ i.size = sz ∧ i.bytes = by_ ∧ z.cells.size = sz ∧ 0 < sz ∧ zc = z.cells.toList.map absC := by
  unfold elemInfo at h
  split at h
  · rename_i e' hu
    obtain ⟨i, hi, h⟩ := Option.bind_eq_some_iff.1 h
    obtain ⟨z, hz, h⟩ := Option.bind_eq_some_iff.1 h
    split at h
    · rename_i hc
      simp only [Option.some.injEq, Prod.mk.injEq] at h
      obtain ⟨rfl, rfl, rfl, rfl⟩ := h
      exact ⟨i, z, hu, hi, hz, rfl, rfl, hc.1, hc.2, rfl⟩
    · cases h
  · cases h

section
variable {P : Program} {st : St} {a : Act} {w w' : World} {U I : Nat → Prop} {η : List Blk}

theorem WR.newRow (H : WR st a w U I η) {t : TypeId} {sz cap : Nat} {xs : List (List V)} {vs : Array Value} (hs0 : 0 < sz) (hx : ∀ (i : Nat) (x : List V), xs[i]? = some x → x.length = sz) (hn : vs.size = cap * sz)
    (hle : xs.length ≤ cap) (hcap : cap ≤ maxLen) (h : ∀ (i : Nat) (x : List V) (j : Nat) (v : V) (u : Value), xs[i]? = some x → x[j]? = some v → vs[i * sz + j]? = some u → Rel w I η v u) :
    WR { st with G := st.G ++ [.row false t sz xs] } a (w.alloc (.cells vs t)) U I (η ++ [⟨w.heap.size, cap, sz⟩]) := by
  have hold : ∀ k, I k → (w.alloc (.cells vs t)).heap[k]? = w.heap[k]? := fun k hk => RowKit.Below.heap_alloc w _ k (H.lt k (.inr hk))
  refine (H.alloc (.cells vs t)).push (.row false t sz xs) ⟨w.heap.size, cap, sz⟩ ⟨rfl, hs0, hx, hle, hcap, vs, heap_alloc_new w _, hn, ?_⟩ ?_ (fun h => by simp [Ob.frozen] at h) ?_
  · intro i x j v u h1 h2 h3
    exact (h i x j v u h1 h2 h3).mono hold (fun _ h => h) (fun _ _ h => getElem?_push h)
  · intro _
    exact ⟨fun hu => Nat.lt_irrefl _ (H.lt _ (.inl hu)), fun hu => Nat.lt_irrefl _ (H.lt _ (.inr hu))⟩
  · intro _ i e' o' h1 h2 h3 he
    have := (H.ob i e' o' h1 h2).lt h3
    simp only at he
    omega

def absBuildSlice (P : Program) (st : St) (t : TypeId) (n : Nat) (ps : List (Nat × V)) : Option (V × St) :=
  (elemInfo P t).bind fun e =>
    if n * e.2.1 ≤ 16777216 then
      (fillV (fun i => some (i * e.2.1, e.2.1)) ps (List.replicate n e.2.2.2).flatten).map fun flat =>
        (.row st.G.length n, { st with G := st.G ++ [.row false e.1 e.2.1 (chunk n e.2.1 flat)] })
    else none

theorem replicate_get (z : List V) : ∀ (n k : Nat) (v : V), 0 < z.length → ((List.replicate n z).flatten)[k]? = some v → z[k % z.length]? = some v ∧ k < n * z.length
  | 0, k, v, _, h => by simp at h
  | n + 1, k, v, hz, h => by
    rw [List.replicate_succ, List.flatten_cons, List.getElem?_append] at h
    split at h
    · rename_i hk
      rw [Nat.mod_eq_of_lt hk]
      refine ⟨h, ?_⟩
      rw [Nat.succ_mul]
      omega
    · rename_i hk
      obtain ⟨h1, h2⟩ := replicate_get z n (k - z.length) v hz h
      rw [Nat.mod_eq_sub_mod (by omega), Nat.succ_mul]
      exact ⟨h1, by omega⟩
theorem replicate_len (z : List V) (n : Nat) : ((List.replicate n z).flatten).length = n * z.length := by
  simp [List.length_flatten]

theorem zeros_rel (z : Array Value) (n : Nat) (hz : 0 < z.size) : RelL w I η ((List.replicate n (z.toList.map absC)).flatten) ((Array.range (n * z.size)).map (z[· % z.size]!)) := by
  refine ⟨by rw [replicate_len]; simp, fun k v u hv hu => ?_⟩
  obtain ⟨h1, h2⟩ := replicate_get _ n k v (by simpa using hz) hv
  simp only [List.length_map, Array.length_toList] at h1 h2
  have hk : k % z.size < z.size := Nat.mod_lt _ hz
  simp only [Array.getElem?_map, Array.getElem?_range, h2, if_true, Option.map_some, Option.some.injEq] at hu
  rw [List.getElem?_map, Array.getElem?_toList, Array.getElem?_eq_getElem hk] at h1
  simp only [Option.map_some, Option.some.injEq] at h1
  subst h1
  subst hu
  rw [getElem!_pos z _ hk]
  exact .d (absC_rel w I _)

theorem absBuildSlice_run (H : WR st a w U I η) {t : TypeId} {n : Nat} {ps : List (Nat × V)} {qs : List (Nat × Value)} {v : V} {st' : St} (hl : ps.length = qs.length)
    (hr : ∀ (i : Nat) (p : Nat × V) (q : Nat × Value), ps[i]? = some p → qs[i]? = some q → p.1 = q.1 ∧ Rel w I η p.2 q.2) (h : absBuildSlice P st t n ps = some (v, st')) :
    ∃ u w' η', (Instr.buildSlice t n qs.toArray).run P w = .ok u w' ∧ Rel w' I η' v u ∧ WR st' a w' U I η' ∧ Keep U I w w' ∧ Ext η η' := by
  unfold absBuildSlice at h
  obtain ⟨⟨e, sz, by_, zc⟩, he, h⟩ := Option.bind_eq_some_iff.1 h
  obtain ⟨i, z, hu, hi, hz, hsz, hby, hzs, hs0, hzc⟩ := elemInfo_some he
  simp only at h
  split at h
  · rename_i hlim
    obtain ⟨flat, hf, h⟩ := Option.map_eq_some_iff.1 h
    simp only [Prod.mk.injEq] at h
    obtain ⟨rfl, rfl⟩ := h
    have hzr : RelL w I η ((List.replicate n zc).flatten) ((Array.range (n * sz)).map (z.cells[· % z.cells.size]!)) := by
      rw [hzc, ← hzs]
      exact zeros_rel z.cells n (by omega)
    obtain ⟨vs, hvs, hrr⟩ := fill_run (fun i => some (i * sz, sz)) ps qs _ _ flat hl hr hzr hf
    have hfl : flat.length = n * sz := by
      have hkeep : ∀ (pl : Nat → Option (Nat × Nat)) (ps : List (Nat × V)) (cs r : List V), fillV pl ps cs = some r → r.length = cs.length := by
        intro pl ps
        induction ps with
        | nil => intro cs r h; simp only [fillV, Option.some.injEq] at h; rw [h]
        | cons p ps ih =>
          intro cs r h
          obtain ⟨i, v⟩ := p
          simp only [fillV] at h
          split at h
          · split at h
            · rename_i hc
              rw [ih _ _ h]
              simp
              omega
            · cases h
          · cases h
      rw [hkeep _ _ _ _ hf, replicate_len, hzc]
      simp [hzs]
    have hvl : vs.size = n * sz := by rw [← hrr.1, hfl]
    refine ⟨.slice (some ⟨w.heap.size, 0, none⟩) n n, w.alloc (.cells vs e), η ++ [⟨w.heap.size, n, sz⟩], ?_, ?_, ?_, .alloc U I w _ H.lt, fun _ _ h => getElem?_push h⟩
    · by_cases hn0 : n * sz = 0
      · have hv0 : ((Array.range (n * sz)).map (z.cells[· % z.cells.size]!)) = #[] := by simp [hn0]
        rw [hv0] at hvs
        simp only [Instr.buildSlice, Sem.run_bind, run_underlying hu, Result.andThen_ok, sizeOf, typeInfo, run_program, hi, Sem.run_pure, hsz]
        simp only [hn0, show ¬ ((0 : Nat) > 2 ^ 24) by omega, if_false, if_true, Sem.run_bind, Sem.run_pure, Result.andThen_ok, show Array.range 0 = (#[] : Array Nat) from rfl, Array.map_empty]
        rw [hvs]
        simp [newRow]
      · simp only [Instr.buildSlice, Sem.run_bind, run_underlying hu, Result.andThen_ok, sizeOf, typeInfo, run_program, hi, Sem.run_pure, hsz]
        simp only [show ¬ (n * sz > 2 ^ 24) by omega, hn0, if_false, Sem.run_bind, zeroValue, typeInfo, run_program, hi, hz, Sem.run_pure, Result.andThen_ok]
        rw [hvs]
        simp [newRow]
    · have hle : η.length = st.G.length := H.len
      exact .row _ _ ⟨w.heap.size, n, sz⟩ (by rw [← hle]; simp)
    · refine H.newRow hs0 ?_ hvl (by rw [chunk_length]; exact Nat.le_refl _) (by
        simp only [maxLen]
        have : n ≤ n * sz := Nat.le_mul_of_pos_right _ hs0
        omega) ?_
      · intro j x hx
        obtain ⟨h1, h2⟩ := chunk_get _ _ _ _ _ hx
        rw [h2]
        have : j * sz + sz ≤ n * sz := by rw [← Nat.succ_mul]; exact Nat.mul_le_mul_right _ h1
        simp
        omega
      · intro j x q v' u' hx hv' hu'
        obtain ⟨h1, h2⟩ := chunk_get _ _ _ _ _ hx
        subst h2
        rw [List.getElem?_take] at hv'
        split at hv'
        · rw [List.getElem?_drop] at hv'
          exact hrr.2 _ v' u' hv' hu'
        · cases hv'
  · cases h

def absMake (P : Program) (st : St) (t : TypeId) (l c : Int) : Option (V × St) :=
  (elemInfo P t).bind fun e =>
    if 0 ≤ l ∧ l ≤ c ∧ (e.2.2.1 : Int) * c ≤ 281474976710656 ∧ c ≤ 9223372036854775807 then
      some (.row st.G.length l.toNat, { st with G := st.G ++ [.row false e.1 e.2.1 (List.replicate l.toNat e.2.2.2)] })
    else none
def absMakeSlice (P : Program) (st : St) (t : TypeId) (l c : V) : Option (V × St) :=
  match l, c with
  | .int _ l, .int _ c => absMake P st t l c
  | _, _ => none

theorem absMake_run (H : WR st a w U I η) {t : TypeId} {k1 k2 : IntKind} {l c : Int} {v : V} {st' : St} (h : absMake P st t l c = some (v, st')) :
    ∃ u w' η', (Instr.makeSlice t (.int k1 l) (.int k2 c)).run P w = .ok u w' ∧ Rel w' I η' v u ∧ WR st' a w' U I η' ∧ Keep U I w w' ∧ Ext η η' := by
    unfold absMake at h
    obtain ⟨⟨e, sz, by_, zc⟩, he, h⟩ := Option.bind_eq_some_iff.1 h
    obtain ⟨i, z, hu, hi, hz, hsz, hby, hzs, hs0, hzc⟩ := elemInfo_some he
    simp only at h
    split at h
    · rename_i hc
      obtain ⟨h0, h1, h2, h3⟩ := hc
      simp only [Option.some.injEq, Prod.mk.injEq] at h
      obtain ⟨rfl, rfl⟩ := h
      have hrun := run_make (P := P) w t e i z hu hi hz k1 k2 l c h0 h1 (by rw [hby]; exact h2) h3
      rw [hsz] at hrun
      refine ⟨_, _, η ++ [⟨w.heap.size, c.toNat, sz⟩], hrun, ?_, ?_, .alloc U I w _ H.lt, fun _ _ h => getElem?_push h⟩
      · have hle : η.length = st.G.length := H.len
        exact .row _ _ ⟨w.heap.size, c.toNat, sz⟩ (by rw [← hle]; simp)
      · have hzl : zc.length = sz := by rw [hzc]; simp [hzs]
        have hrep : ∀ (j : Nat) (x : List V), (List.replicate l.toNat zc)[j]? = some x → x = zc := fun j x hx => by
          have := List.mem_of_getElem? hx
          exact List.eq_of_mem_replicate this
        refine H.newRow hs0 (fun j x hx => by rw [hrep j x hx, hzl]) (by rw [size_madeCells]) (by simp; omega) (by simp only [maxLen]; omega) ?_
        intro j x q v' u' hx hv' hu'
        have hq : q < sz := by rw [hrep j x hx] at hv'; have := (List.getElem?_eq_some_iff.1 hv').1; omega
        rw [hrep j x hx, hzc, List.getElem?_map] at hv'
        simp only [madeCells, Array.getElem?_map] at hu'
        obtain ⟨m, hm, rfl⟩ := Option.map_eq_some_iff.1 hu'
        have hmm : m = j * sz + q := by
          rw [Array.getElem?_range] at hm
          split at hm
          · injection hm with hm; exact hm.symm
          · cases hm
        subst hmm
        obtain ⟨y, hy, rfl⟩ := Option.map_eq_some_iff.1 hv'
        have hmod : (j * sz + q) % z.cells.size = q := by
          rw [hzs, Nat.add_comm, Nat.add_mul_mod_self_right, Nat.mod_eq_of_lt hq]
        rw [hmod]
        rw [Array.getElem?_toList] at hy
        have hq' : q < z.cells.size := by omega
        rw [getElem!_pos z.cells q hq']
        rw [Array.getElem?_eq_getElem hq'] at hy
        injection hy with hy
        rw [hy]
        exact .d (absC_rel _ I _)
    · cases h
theorem absMakeSlice_run (H : WR st a w U I η) {t : TypeId} {x y v : V} {p q : Value} {st' : St} (hx : Rel w I η x p) (hy : Rel w I η y q) (h : absMakeSlice P st t x y = some (v, st')) :
    ∃ u w' η', (Instr.makeSlice t p q).run P w = .ok u w' ∧ Rel w' I η' v u ∧ WR st' a w' U I η' ∧ Keep U I w w' ∧ Ext η η' := by
  unfold absMakeSlice at h
  split at h
  · obtain rfl := hx.int_inv
    obtain rfl := hy.int_inv
    exact absMake_run H h
  · cases h

/-- What is appended: the cells of a slice's elements. -/
def St.elems (st : St) : V → Option (List (List V))
  | .sl xs _ => some xs
  | .row j len => match st.G[j]? with
    | some (.row _ _ _ xs) => if xs.length = len then some xs else none
    | _ => none
  | _ => none

def V.notRow (i : Nat) : V → Bool
  | .row j _ => j != i
  | _ => true
def absAppend1 (st : St) (e : TypeId) (sz by_ : Nat) (s x : V) (ys : List (List V)) : Option (V × St) :=
  match s with
  | .sl [] true => if ys = [] then some (.sl [] true, st) else
      if ys.length * by_ ≤ 140737488355328 ∧ ys.length ≤ maxLen then some (.row st.G.length ys.length, { st with G := st.G ++ [.row false e sz ys] }) else none
  | .row i len => match st.G[i]? with
    | some (.row false t' sz' xs) => if xs.length = len ∧ t' = e ∧ sz' = sz ∧ V.notRow i x = true ∧ (len + ys.length) * by_ ≤ 140737488355328 ∧ len + ys.length ≤ maxLen then
        some (.row st.G.length (len + ys.length), { st with G := (st.G.set i .dead) ++ [.row false e sz (xs ++ ys)] }) else none
    | _ => none
  | _ => none
def absAppend (P : Program) (st : St) (t : TypeId) (s x : V) : Option (V × St) :=
  (elemInfo P t).bind fun e => (st.elems x).bind fun ys =>
    if ys.all (fun y => y.length == e.2.1 && V.oneL y) = true then absAppend1 st e.1 e.2.1 e.2.2.1 s x ys else none
end
end Go.Ab
