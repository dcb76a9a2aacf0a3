/- Ab, part 9a: objects that are no rows; maps, written. -/
import Derived.Test.YtlflddcbfbdldaaGreatDoorA9
import Derived.RangeFuncRecord
import Derived.Laws.StructEq
namespace Go.Ab
open Go
section
variable {P : Program} {st : St} {a : Act} {w w' : World} {U I I' : Nat → Prop} {η η' : List Blk}

theorem WR.setObj (H : WR st a w U I η) {i : Nat} {e : Blk} {o o' : AObj} (he : η[i]? = some e) (hG : st.G[i]? = some (.obj o)) {x : Obj} (hx : AObjRel w I η o' x) :
    WR { st with G := st.G.set i (.obj o') } a (w.putObj e.b x) U I η ∧ Keep U I w (w.putObj e.b x) := by
  have hm := H.mt i e _ he hG rfl
  have heb : e.b < w.heap.size := (H.ob i e _ he hG).lt rfl
  have hlt : i < st.G.length := (List.getElem?_eq_some_iff.1 hG).1
  have hk : Keep U I w (w.putObj e.b x) := ⟨rfl, rfl, rfl, by simp, fun k hk => World.putObj_heap_other (fun hkk => by
    subst hkk
    rcases hk with h | h
    · exact hm.1 h
    · exact hm.2 h)⟩
  have hset : ∀ (p : Nat) (y : Ob), (st.G.set i (.obj o'))[p]? = some y → (p = i ∧ y = .obj o') ∨ (p ≠ i ∧ st.G[p]? = some y) := by
    intro p y h
    by_cases hp : p = i
    · subst hp
      rw [List.getElem?_set_self hlt] at h
      injection h with h
      exact .inl ⟨rfl, h.symm⟩
    · rw [List.getElem?_set_ne (Ne.symm hp)] at h
      exact .inr ⟨hp, h⟩
  refine ⟨⟨H.size, by simp [H.len], fun k h => by have := H.lt k h; simpa using this, ?_, ?_, ?_, ?_, fun t => (H.sl t).mono (fun k h => hk.block k (.inr h)) (fun _ h => h) (fun _ _ h => h), H.df.mono (fun k h => hk.block k (.inr h)) (fun _ h => h) (fun _ _ h => h), fun g => (H.glb g).mono (fun k h => hk.block k (.inr h)) (fun _ h => h)⟩, hk⟩
  · intro p q y y' z z' h1 h2 h3 h4 h5 h6 h7
    rcases hset p z h3 with ⟨g1, g2⟩ | ⟨hp, g3⟩ <;> rcases hset q z' h4 with ⟨g5, g6⟩ | ⟨hq, g4⟩
    · rw [g1, g5]
    · exact H.inj p q y y' _ z' h1 h2 (g1 ▸ hG) g4 rfl h6 h7
    · exact H.inj p q y y' z _ h1 h2 g3 (g5 ▸ hG) h5 rfl h7
    · exact H.inj p q y y' z z' h1 h2 g3 g4 h5 h6 h7
  · intro p y z h1 h2 h3
    rcases hset p z h2 with ⟨rfl, rfl⟩ | ⟨hp, h2⟩
    · rw [he] at h1
      injection h1 with h1
      subst h1
      exact hm
    · exact H.mt p y z h1 h2 h3
  · intro p y z h1 h2 h3
    rcases hset p z h2 with ⟨rfl, rfl⟩ | ⟨hp, h2⟩
    · simp [Ob.frozen] at h3
    · exact H.frz p y z h1 h2 h3
  · intro p y z h1 h2
    rcases hset p z h2 with ⟨rfl, rfl⟩ | ⟨hp, h2⟩
    · rw [he] at h1
      injection h1 with h1
      subst h1
      exact ⟨x, World.putObj_heap_same heb, hx.mono (fun k h => hk.block k (.inr h)) (fun _ h => h) (fun _ _ h => h)⟩
    · refine (H.ob p y z h1 h2).mono (fun k h => hk.block k (.inr h)) (fun _ h => h) (fun _ _ h => h) (fun hl => World.putObj_heap_other (fun hb => hp ?_))
      exact H.inj p i y e z _ h1 he h2 hG hl rfl hb

theorem WR.newObj (H : WR st a w U I η) {o : AObj} {x : Obj} (hx : AObjRel w I (η ++ [⟨w.heap.size, 0, 0⟩]) o x) :
    WR { st with G := st.G ++ [.obj o] } a (w.alloc x) U I (η ++ [⟨w.heap.size, 0, 0⟩]) := by
  have hold : ∀ k, I k → (w.alloc x).heap[k]? = w.heap[k]? := fun k hk => RowKit.Below.heap_alloc w _ k (H.lt k (.inr hk))
  refine (H.alloc x).push (.obj o) ⟨w.heap.size, 0, 0⟩ ⟨x, heap_alloc_new w _, hx.mono hold (fun _ h => h) (fun _ _ h => h)⟩ ?_ (fun h => by simp [Ob.frozen] at h) ?_
  · intro _
    exact ⟨fun hu => Nat.lt_irrefl _ (H.lt _ (.inl hu)), fun hu => Nat.lt_irrefl _ (H.lt _ (.inr hu))⟩
  · intro _ i e' o' h1 h2 h3 he
    have := (H.ob i e' o' h1 h2).lt h3
    simp only at he
    omega


/-- The same key, to the bit. -/
def sameS : V → V → Bool
  | .int k a, .int k' b => decide (k = k' ∧ a = b)
  | .bool a, .bool b => a == b
  | .str a, .str b => decide (a = b)
  | _, _ => false
def sameV : V → V → Bool
  | .agg xs, .agg ys => xs.length == ys.length && (xs.zip ys).all fun p => sameS p.1 p.2
  | x, y => sameS x y
theorem sameS_run {x y : V} {u v : Value} (h : sameS x y = true) (hx : Rel w I η x u) (hy : Rel w I η y v) (n : Nat) : Instr.sameBits (n + 1) u v = true := by
  unfold sameS at h
  split at h
  · obtain rfl := hx.int_inv
    obtain rfl := hy.int_inv
    simpa [Instr.sameBits] using h
  · obtain rfl := hx.bool_inv
    obtain rfl := hy.bool_inv
    simpa [Instr.sameBits] using h
  · obtain rfl := hx.str_inv
    obtain rfl := hy.str_inv
    have h := of_decide_eq_true h
    subst h
    show (_ == _) = true
    rw [beq_toListBytes]
    simp
  · cases h
theorem sameV_run {x y : V} {u v : Value} (h : sameV x y = true) (hx : Rel w I η x u) (hy : Rel w I η y v) : Instr.sameBits 10000 u v = true := by
  unfold sameV at h
  split at h
  · rename_i xs ys
    obtain ⟨us, rfl, hu, hur⟩ := hx.agg_inv
    obtain ⟨vs, rfl, hv, hvr⟩ := hy.agg_inv
    simp only [Bool.and_eq_true, beq_iff_eq] at h
    obtain ⟨hl, hall⟩ := h
    show (us.size == vs.size && (us.toList.zip vs.toList).all fun (x, y) => Instr.sameBits 9999 x y) = true
    rw [Bool.and_eq_true]
    refine ⟨by simp; omega, List.all_eq_true.2 ?_⟩
    rintro ⟨p, q⟩ hpq
    obtain ⟨i, hi, hpq⟩ := List.mem_iff_getElem.1 hpq
    have hi1 : i < us.size := by simp at hi; omega
    have hi2 : i < vs.size := by simp at hi; omega
    simp only [List.getElem_zip, Array.getElem_toList, Prod.mk.injEq] at hpq
    obtain ⟨rfl, rfl⟩ := hpq
    have hx1 : i < xs.length := by omega
    have hy1 : i < ys.length := by omega
    have hm : (xs[i], ys[i]) ∈ xs.zip ys := List.mem_iff_getElem.2 ⟨i, by simp; omega, by simp⟩
    exact sameS_run (List.all_eq_true.1 hall _ hm) (hur i _ _ (List.getElem?_eq_getElem hx1) (Array.getElem?_eq_getElem hi1)) (hvr i _ _ (List.getElem?_eq_getElem hy1) (Array.getElem?_eq_getElem hi2)) 9998
  · exact sameS_run h hx hy 9999

/-- A map's entry set. -/
def putA (P : Program) (kt : TypeId) (es : List (V × V × Nat)) (clock : Nat) (k v : V) : Option (List (V × V × Nat) × Nat) :=
  if chkA P 64 kt k = true then
    (findA P kt k es 0).bind fun r => match r with
      | some (j, _) => (es[j]?).bind fun e => if sameV e.1 k = true then some (es.set j (k, v, e.2.2), clock) else none
      | none => some (es ++ [(k, v, clock)], clock + 1)
  else none
def absMapPut (P : Program) (st : St) (t : TypeId) (m k v : V) : Option St :=
  match P.underlying t, m with
  | some (.map kt _), .map i => match st.G[i]? with
    | some (.obj (.map es clock)) => (putA P kt es clock k v).map fun r => { st with G := st.G.set i (.obj (.map r.1 r.2)) }
    | _ => none
  | _, _ => none

theorem absMapPut_run (H : WR st a w U I η) {t : TypeId} {m k v : V} {y z x : Value} {st' : St} (hm : Rel w I η m y) (hk : Rel w I η k z) (hv : Rel w I η v x) (h : absMapPut P st t m k v = some st') :
    ∃ w', (Instr.mapUpdate t y z x).run P w = .ok () w' ∧ WR st' a w' U I η ∧ Keep U I w w' := by
  unfold absMapPut at h
  split at h
  · rename_i kt et i hu
    obtain ⟨e, he, rfl⟩ := hm.map_inv
    split at h
    · rename_i es clock hG
      obtain ⟨⟨es', clock'⟩, hp, rfl⟩ := Option.map_eq_some_iff.1 h
      obtain ⟨o, ho, ms, rfl, hl, hr⟩ := H.ob i e _ he hG
      have hget : (getObj e.b).run P w = .ok (.map ms clock) w := by simp [getObj, Sem.run, ho]
      have hset : ∀ o', (setObj e.b o').run P w = .ok () (w.putObj e.b o') := fun o' => by simp [setObj, Sem.run, ho, World.putObj]
      unfold putA at hp
      split at hp
      case isFalse => cases hp
      rename_i hchk
      obtain ⟨r, hf, hp⟩ := Option.bind_eq_some_iff.1 hp
      have hck := chkA_run (P := P) (em := false) 64 kt k z hchk hk 10000 (by omega)
      obtain ⟨r', hrun, hcase⟩ := findKey_run (P := P) hk hchk (ms := ms.toList) (by simpa using hl.symm) (fun i x m hx hm => let ⟨a, b, _⟩ := hr i x m hx (by simpa using hm); ⟨a, b⟩) hf
      unfold Instr.mapUpdate
      simp only [Sem.run_bind, run_underlying hu, Result.andThen_ok, hget, hck, hrun]
      rcases hcase with ⟨rfl, rfl⟩ | ⟨j, v', z', rfl, rfl, _⟩
      · simp only [Option.some.injEq, Prod.mk.injEq] at hp
        obtain ⟨rfl, rfl⟩ := hp
        obtain ⟨H', hk'⟩ := H.setObj he hG (o' := .map (es ++ [(k, v, clock)]) (clock + 1)) (x := .map (ms.push { key := z, val := x, born := clock }) (clock + 1)) ⟨_, rfl, by simp [hl], fun i x' m' hx' hm' => by
          rw [List.getElem?_append] at hx'
          rw [Array.getElem?_push] at hm'
          split at hx'
          · rename_i hi
            rw [if_neg (by omega)] at hm'
            exact hr i x' m' hx' hm'
          · rename_i hi
            have : i = es.length := by
              have := (List.getElem?_eq_some_iff.1 hx').1
              simp at this
              omega
            subst this
            rw [if_pos hl.symm] at hm'
            simp at hx' hm'
            subst hx'
            subst hm'
            exact ⟨hk, hv, rfl⟩⟩
        exact ⟨_, hset _, H', hk'⟩
      · obtain ⟨e0, he0, hp⟩ := Option.bind_eq_some_iff.1 hp
        split at hp
        case isFalse => cases hp
        rename_i hsame
        simp only [Option.some.injEq, Prod.mk.injEq] at hp
        obtain ⟨rfl, rfl⟩ := hp
        have hj : j < ms.size := by have := (List.getElem?_eq_some_iff.1 he0).1; omega
        obtain ⟨q1, q2, q3⟩ := hr j e0 ms[j] he0 (Array.getElem?_eq_getElem hj)
        have hsb := sameV_run hsame q1 hk
        have hkeep : (Instr.keyThatStays (((ms[j]?).map (·.key)).getD z) z).run P w = .ok z w := by
          rw [Array.getElem?_eq_getElem hj]
          simp only [Option.map_some, Option.getD_some, Instr.keyThatStays, hsb, if_true, Sem.run_pure]
        obtain ⟨H', hk'⟩ := H.setObj he hG (o' := .map (es.set j (k, v, e0.2.2)) clock) (x := .map (ms.modify j fun e => { e with key := z, val := x }) clock) ⟨_, rfl, by simp [hl], fun i x' m' hx' hm' => by
          rw [Array.getElem?_modify] at hm'
          by_cases hi : j = i
          · subst hi
            rw [List.getElem?_set_self (by omega)] at hx'
            rw [if_pos rfl, Array.getElem?_eq_getElem hj] at hm'
            simp only [Option.map_some, Option.some.injEq] at hm' hx'
            subst hx'
            subst hm'
            exact ⟨hk, hv, q3⟩
          · rw [List.getElem?_set_ne hi] at hx'
            rw [if_neg hi] at hm'
            exact hr i x' m' hx' hm'⟩
        refine ⟨_, ?_, H', hk'⟩
        simp only [Sem.run_bind, hkeep, Result.andThen_ok]
        exact hset _
    · cases h
  · cases h

def absMakeMap (P : Program) (st : St) (t : TypeId) (r : Option V) : Option (V × St) :=
  let z := (V.map st.G.length, { st with G := st.G ++ [.obj (.map [] 0)] })
  match r with
  | none => some z
  | some (.int _ _) => match P.underlying t with | some (.map _ _) => some z | _ => none
  | _ => none
theorem absMakeMap_run (H : WR st a w U I η) {t : TypeId} {r : Option V} {r' : Option Value} {v : V} {st' : St} (hr : ∀ v, r = some v → ∃ u, r' = some u ∧ Rel w I η v u) (hn : r = none → r' = none) (h : absMakeMap P st t r = some (v, st')) :
    ∃ u w' η', (Instr.makeMap t r').run P w = .ok u w' ∧ Rel w' I η' v u ∧ WR st' a w' U I η' ∧ Keep U I w w' ∧ Ext η η' := by
  have key : v = .map st.G.length ∧ st' = { st with G := st.G ++ [.obj (.map [] 0)] } ∧ (Instr.makeMap t r').run P w = .ok (.map (some w.heap.size)) (w.alloc (.map #[] 0)) := by
    unfold absMakeMap at h
    split at h
    · simp only [Option.some.injEq, Prod.mk.injEq] at h
      refine ⟨h.1.symm, h.2.symm, ?_⟩
      rw [hn rfl]
      simp [Instr.makeMap]
    · split at h
      · rename_i hu
        simp only [Option.some.injEq, Prod.mk.injEq] at h
        refine ⟨h.1.symm, h.2.symm, ?_⟩
        obtain ⟨u, rfl, hu'⟩ := hr _ rfl
        obtain rfl := hu'.int_inv
        simp [Instr.makeMap, run_underlying hu, asInt, asIntOf]
      · cases h
    · cases h
  obtain ⟨rfl, rfl, hrun⟩ := key
  have hl := H.len
  exact ⟨_, _, _, hrun, .map _ ⟨w.heap.size, 0, 0⟩ (by rw [← hl]; simp), H.newObj (o := .map [] 0) ⟨#[], rfl, rfl, fun i x m hx => by simp at hx⟩, .alloc U I w _ H.lt, fun _ _ h => getElem?_push h⟩
end
end Go.Ab
