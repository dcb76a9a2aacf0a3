/- Ab, part 7: operations that make memory or write it. -/
import Derived.Test.YtlflddcbfbdldaaGreatDoorA6
namespace Go.Ab
open Go

section
variable {P : Program} {st : St} {a : Act} {w w' : World} {U I : Nat → Prop} {η : List Blk}

/-- A new object. -/
theorem WR.push (H : WR st a w U I η) (o : Ob) (e : Blk) (hob : ObRel w I (η ++ [e]) e o) (hmt : o.mut = true → ¬ U e.b ∧ ¬ I e.b) (hfz : o.frozen = true → I e.b)
    (hnew : o.live = true → ∀ (i : Nat) (e' : Blk) (o' : Ob), η[i]? = some e' → st.G[i]? = some o' → o'.live = true → e'.b ≠ e.b) : WR { st with G := st.G ++ [o] } a w U I (η ++ [e]) := by
  have hl := H.len
  have hη : ∀ (i : Nat) (x : Blk), (η ++ [e])[i]? = some x → (i < η.length ∧ η[i]? = some x) ∨ (i = η.length ∧ x = e) := by
    intro i x h
    rcases Nat.lt_trichotomy i η.length with h1 | h1 | h1
    · rw [List.getElem?_append_left h1] at h; exact .inl ⟨h1, h⟩
    · subst h1; simp at h; exact .inr ⟨rfl, h.symm⟩
    · rw [List.getElem?_eq_none (by simp; omega)] at h; cases h
  have hG : ∀ (i : Nat) (x : Ob), (st.G ++ [o])[i]? = some x → (i < η.length ∧ st.G[i]? = some x) ∨ (i = η.length ∧ x = o) := by
    intro i x h
    rcases Nat.lt_trichotomy i η.length with h1 | h1 | h1
    · rw [List.getElem?_append_left (by omega)] at h; exact .inl ⟨h1, h⟩
    · subst h1; rw [hl] at h; simp at h; exact .inr ⟨rfl, h.symm⟩
    · rw [List.getElem?_eq_none (by simp; omega)] at h; cases h
  have hle : ∀ (i : Nat) (x : Blk), η[i]? = some x → (η ++ [e])[i]? = some x := fun i x h => by
    rw [List.getElem?_append_left (List.getElem?_eq_some_iff.1 h).1]; exact h
  refine ⟨H.size, by simp [hl], H.lt, ?_, ?_, ?_, ?_, fun t => (H.sl t).mono (fun _ _ => rfl) (fun _ h => h) hle, H.df.mono (fun _ _ => rfl) (fun _ h => h) hle, H.glb⟩
  · intro i j x x' y y' h1 h2 h3 h4 h5 h6 h7
    rcases hη i x h1 with ⟨i1, g1⟩ | ⟨i1, g1⟩ <;> rcases hη j x' h2 with ⟨j1, g2⟩ | ⟨j1, g2⟩ <;>
      rcases hG _ y h3 with ⟨k1, g3⟩ | ⟨k1, g3⟩ <;> rcases hG _ y' h4 with ⟨k2, g4⟩ | ⟨k2, g4⟩ <;> first | omega | skip
    · exact H.inj i j x x' y y' g1 g2 g3 g4 h5 h6 h7
    · rw [g2] at h7
      exact absurd h7 (hnew (g4 ▸ h6) i x y g1 g3 h5)
    · rw [g1] at h7
      exact absurd h7.symm (hnew (g3 ▸ h5) j x' y' g2 g4 h6)
  · intro i x y h1 h2 h3
    rcases hη i x h1 with ⟨i1, g1⟩ | ⟨i1, g1⟩ <;> rcases hG _ y h2 with ⟨k1, g2⟩ | ⟨k1, g2⟩ <;> first | omega | skip
    · exact H.mt i x y g1 g2 h3
    · rw [g1]; exact hmt (g2 ▸ h3)
  · intro i x y h1 h2 h3
    rcases hη i x h1 with ⟨i1, g1⟩ | ⟨i1, g1⟩ <;> rcases hG _ y h2 with ⟨k1, g2⟩ | ⟨k1, g2⟩ <;> first | omega | skip
    · exact H.frz i x y g1 g2 h3
    · rw [g1]; exact hfz (g2 ▸ h3)
  · intro i x y h1 h2
    rcases hη i x h1 with ⟨i1, g1⟩ | ⟨i1, g1⟩ <;> rcases hG _ y h2 with ⟨k1, g2⟩ | ⟨k1, g2⟩ <;> first | omega | skip
    · exact (H.ob i x y g1 g2).mono (fun _ _ => rfl) (fun _ h => h) hle (fun _ => rfl)
    · rw [g1, g2]; exact hob

theorem Keep.alloc (U I : Nat → Prop) (w : World) (o : Obj) (h : ∀ k, U k ∨ I k → k < w.heap.size) : Keep U I w (w.alloc o) :=
  ⟨rfl, rfl, rfl, by simp, fun k hk => RowKit.Below.heap_alloc w o k (h k hk)⟩

/-- The world gets a block. -/
theorem WR.alloc (H : WR st a w U I η) (o : Obj) : WR st a (w.alloc o) U I η :=
  H.world (.alloc U I w o H.lt) (fun i e x h1 h2 h3 => RowKit.Below.heap_alloc w o _ ((H.ob i e x h1 h2).lt h3)) (fun _ h => h) (fun k h => by have := H.lt k (.inr h); simp; omega) (fun i e x h1 h2 h3 => (H.mt i e x h1 h2 h3).2)

theorem getElem?_push {α : Type} {l : List α} {e : α} {i : Nat} {x : α} (h : l[i]? = some x) : (l ++ [e])[i]? = some x := by
  rw [List.getElem?_append_left (List.getElem?_eq_some_iff.1 h).1]; exact h

/-- A new variable. -/
theorem WR.newBox (H : WR st a w U I η) {cs : List V} {vs : Array Value} (h : RelL w I η cs vs) (t : TypeId) :
    WR { st with G := st.G ++ [.box false cs] } a (w.alloc (.cells vs t)) U I (η ++ [⟨w.heap.size, 0, 0⟩]) := by
  have hold : ∀ k, I k → (w.alloc (.cells vs t)).heap[k]? = w.heap[k]? := fun k hk => RowKit.Below.heap_alloc w _ k (H.lt k (.inr hk))
  refine (H.alloc (.cells vs t)).push (.box false cs) ⟨w.heap.size, 0, 0⟩ ⟨vs, t, heap_alloc_new w _, h.1.symm, ?_⟩ ?_ (fun h => by simp [Ob.frozen] at h) ?_
  · exact (h.mono hold (fun _ h => h) (fun _ _ h => getElem?_push h)).2
  · intro _
    exact ⟨fun hu => Nat.lt_irrefl _ (H.lt _ (.inl hu)), fun hu => Nat.lt_irrefl _ (H.lt _ (.inr hu))⟩
  · intro _ i e' o' h1 h2 h3 he
    have := (H.ob i e' o' h1 h2).lt h3
    simp only at he
    omega

def V.oneL (cs : List V) : Bool := cs.all V.one

/-- Cells stored into an object. -/
theorem WR.setRow (H : WR st a w U I η) {i : Nat} {e : Blk} {o o' : Ob} (he : η[i]? = some e) (hG : st.G[i]? = some o) (hm : o.mut = true) (hm' : o'.mut = true) {cur : Array Value} {t : TypeId}
    (hcur : w.heap[e.b]? = some (.cells cur t (0, 0))) {new : Array Value} (hob : ObRel (w.setRow e.b new) I η e o') :
    WR { st with G := st.G.set i o' } a (w.setRow e.b new) U I η ∧ Keep U I w (w.setRow e.b new) := by
  have hk : Keep U I w (w.setRow e.b new) := ⟨rfl, rfl, rfl, by simp, fun k hk => setRow_other w e.b k new (fun hkk => by
    subst hkk
    have := H.mt i e o he hG hm
    rcases hk with h | h
    · exact this.1 h
    · exact this.2 h)⟩
  refine ⟨⟨H.size, by simp [H.len], fun k h => by have := H.lt k h; simpa using this, ?_, ?_, ?_, ?_, fun t => (H.sl t).mono (fun k h => hk.block k (.inr h)) (fun _ h => h) (fun _ _ h => h), H.df.mono (fun k h => hk.block k (.inr h)) (fun _ h => h) (fun _ _ h => h), fun g => (H.glb g).mono (fun k h => hk.block k (.inr h)) (fun _ h => h)⟩, hk⟩
  · intro p q x x' y y' h1 h2 h3 h4 h5 h6 h7
    by_cases hp : p = i <;> by_cases hq : q = i
    · omega
    · subst hp
      simp only [List.getElem?_set_ne (Ne.symm hq)] at h4
      exact H.inj p q x x' o y' h1 h2 hG h4 (Ob.mut_live hm) h6 h7
    · subst hq
      simp only [List.getElem?_set_ne (Ne.symm hp)] at h3
      exact H.inj p q x x' y o h1 h2 h3 hG h5 (Ob.mut_live hm) h7
    · simp only [List.getElem?_set_ne (Ne.symm hq)] at h4
      simp only [List.getElem?_set_ne (Ne.symm hp)] at h3
      exact H.inj p q x x' y y' h1 h2 h3 h4 h5 h6 h7
  · intro p x y h1 h2 h3
    by_cases hp : p = i
    · subst hp
      rw [he] at h1
      injection h1 with h1
      subst h1
      exact H.mt p e o he hG hm
    · simp only [List.getElem?_set_ne (Ne.symm hp)] at h2
      exact H.mt p x y h1 h2 h3
  · intro p x y h1 h2 h3
    by_cases hp : p = i
    · subst hp
      have hlt : p < st.G.length := (List.getElem?_eq_some_iff.1 hG).1
      simp only [List.getElem?_set_self hlt, Option.some.injEq] at h2
      subst h2
      cases o' with
      | box fz cs => cases fz <;> simp_all [Ob.mut, Ob.frozen]
      | row fz t sz xs => cases fz <;> simp_all [Ob.mut, Ob.frozen]
      | obj o => simp [Ob.frozen] at h3
      | dead => simp [Ob.frozen] at h3
    · simp only [List.getElem?_set_ne (Ne.symm hp)] at h2
      exact H.frz p x y h1 h2 h3
  · intro p x y h1 h2
    by_cases hp : p = i
    · subst hp
      have hlt : p < st.G.length := (List.getElem?_eq_some_iff.1 hG).1
      simp only [List.getElem?_set_self hlt, Option.some.injEq] at h2
      subst h2
      rw [he] at h1
      injection h1 with h1
      subst h1
      exact hob
    · simp only [List.getElem?_set_ne (Ne.symm hp)] at h2
      refine (H.ob p x y h1 h2).mono (fun k h => hk.block k (.inr h)) (fun _ h => h) (fun _ _ h => h) (fun hl => setRow_other w e.b x.b new (fun hb => hp ?_))
      exact H.inj p i x e y o h1 he h2 hG hl (Ob.mut_live hm) hb

theorem storeVar_run {t : TypeId} {agg : Bool} {n : Nat} (hs : shape P t = some (agg, n)) {b off : Nat} {cur : Array Value} {ty : TypeId} (hcur : w.heap[b]? = some (.cells cur ty (0, 0))) {u : Value} (hn : u.cells.size = n)
    (hl : off + n ≤ cur.size) (h1 : ∀ x ∈ u.cells.toList, x.oneCell' = true) :
    (storeVar t ⟨b, off, none⟩ u).run P w = .ok () (w.setRow b (cur.toList.take off ++ u.cells.toList ++ cur.toList.drop (off + n)).toArray) := by
  obtain ⟨_, hz, _⟩ := shape_agg hs w
  have := run_storeCells_at P b off ty u.cells.toList 0 cur w hcur (by simp; omega) h1
  simp only [Nat.add_zero, Array.length_toList, hn] at this
  unfold storeVar
  simp only [Sem.run_bind, hz, Result.andThen_ok, hn]
  simpa using this

/-- Cells written over some of a list of cells. -/
theorem RelL.over {cs cv : List V} {cur uv : Array Value} (h : RelL w I η cs cur) (hv : RelL w I η cv uv) {off : Nat} (hl : off + cv.length ≤ cs.length) :
    RelL w I η (cs.take off ++ cv ++ cs.drop (off + cv.length)) ((cur.toList.take off ++ uv.toList ++ cur.toList.drop (off + cv.length)).toArray) := by
  have hc := h.1
  have hu := hv.1
  refine ⟨by simp; omega, fun j x y hx hy => ?_⟩
  simp only [List.getElem?_toArray] at hy
  rw [List.getElem?_append, List.getElem?_append] at hx hy
  have e1 : (cs.take off).length = off := by simp; omega
  have e2 : (cur.toList.take off).length = off := by simp; omega
  have e3 : uv.toList.length = cv.length := by simp; omega
  simp only [List.length_append, e1, e2, e3] at hx hy
  by_cases c1 : j < off + cv.length
  · rw [if_pos c1] at hx hy
    by_cases c2 : j < off
    · rw [if_pos c2] at hx hy
      rw [List.getElem?_take, if_pos c2] at hx hy
      exact h.2 j x y hx (by simpa using hy)
    · rw [if_neg c2] at hx hy
      exact hv.2 _ x y hx (by simpa using hy)
  · rw [if_neg c1] at hx hy
    rw [List.getElem?_drop] at hx hy
    exact h.2 _ x y hx (by simpa using hy)

theorem oneL_cells {cs : List V} {vs : Array Value} (h : RelL w I η cs vs) (h1 : V.oneL cs = true) : ∀ x ∈ vs.toList, x.oneCell' = true := by
  intro x hx
  obtain ⟨i, hi, rfl⟩ := List.mem_iff_getElem.1 hx
  have hi' : i < vs.size := by simpa using hi
  have hlt : i < cs.length := by have := h.1; omega
  have := List.all_eq_true.1 h1 cs[i] (List.getElem_mem hlt)
  exact (h.2 i cs[i] _ (List.getElem?_eq_getElem hlt) (by simp [hi'])).one this

def absStoreBox (st : St) (i off : Nat) (cv : List V) : Option St :=
  match st.G[i]? with
  | some (.box false cs) => if off + cv.length ≤ cs.length then some { st with G := st.G.set i (.box false (cs.take off ++ cv ++ cs.drop (off + cv.length))) } else none
  | _ => none
def absStoreRow (st : St) (i idx off : Nat) (cv : List V) : Option St :=
  match st.G[i]? with
  | some (.row false ty sz xs) => (xs[idx]?).bind fun x => if off + cv.length ≤ x.length then some { st with G := st.G.set i (.row false ty sz (xs.set idx (x.take off ++ cv ++ x.drop (off + cv.length)))) } else none
  | _ => none
def absStoreAt (st : St) (p : V) (cv : List V) : Option St :=
  match p with
  | .ptr i off => absStoreBox st i off cv
  | .rp i idx off => absStoreRow st i idx off cv
  | _ => none
def absStore (P : Program) (st : St) (t : TypeId) (p v : V) : Option St :=
  (shape P t).bind fun s => if v.whole = true ∧ v.cells.length = s.2 ∧ V.oneL v.cells = true then absStoreAt st p v.cells else none

theorem setRow_rel {b : Nat} {new : Array Value} {η : List Blk} {cs : List V} {vs : Array Value} (H : WR st a w U I η) {i : Nat} {e : Blk} {o : Ob} (he : η[i]? = some e) (hG : st.G[i]? = some o) (hm : o.mut = true) (hb : e.b = b)
    (h : RelL w I η cs vs) : RelL (w.setRow b new) I η cs vs :=
  h.mono (fun k hk => setRow_other w b k new (fun hkk => (H.mt i e o he hG hm).2 (by rw [hb, ← hkk]; exact hk))) (fun _ h => h) (fun _ _ h => h)

theorem absStoreBox_run (H : WR st a w U I η) {t : TypeId} {agg : Bool} {i off : Nat} {cv : List V} {u x : Value} {st' : St} (hp : Rel w I η (.ptr i off) x) (hs : shape P t = some (agg, cv.length)) (hv : RelL w I η cv u.cells) (h1 : V.oneL cv = true)
    (h : absStoreBox st i off cv = some st') : ∃ w', (Instr.storeAt t x u).run P w = .ok () w' ∧ WR st' a w' U I η ∧ Keep U I w w' := by
  obtain ⟨e, he, rfl⟩ := hp.ptr_inv
  unfold absStoreBox at h
  cases hG : st.G[i]? with
  | none => simp [hG] at h
  | some o =>
    cases o with
    | box fz cs =>
      cases fz with
      | true => simp [hG] at h
      | false =>
        simp only [hG] at h
        split at h
        · rename_i hle
          injection h with h
          subst h
          obtain ⟨cur, ty, g1, g2, g3⟩ := H.ob i e _ he hG
          have hun := hv.1
          have hst := storeVar_run hs g1 (u := u) (by omega) (by omega) (oneL_cells hv h1) (off := off)
          refine ⟨_, by simp only [Instr.storeAt, Instr.sureAddr, Sem.run_bind, Sem.run_pure, Result.andThen_ok]; exact hst, ?_⟩
          refine H.setRow he hG rfl (o' := .box false _) rfl g1 ?_
          refine ⟨_, ty, setRow_heap w e.b cur _ ty (0, 0) g1, ?_, ?_⟩
          · simp; omega
          · exact (setRow_rel H he hG rfl rfl (RelL.over ⟨g2.symm, g3⟩ hv hle)).2
        · cases h
    | row fz t sz xs => simp [hG] at h
    | obj o => simp [hG] at h
    | dead => simp [hG] at h

theorem absStoreRow_run (H : WR st a w U I η) {t : TypeId} {agg : Bool} {i idx off : Nat} {cv : List V} {u x : Value} {st' : St} (hp : Rel w I η (.rp i idx off) x) (hs : shape P t = some (agg, cv.length)) (hv : RelL w I η cv u.cells) (h1 : V.oneL cv = true)
    (h : absStoreRow st i idx off cv = some st') : ∃ w', (Instr.storeAt t x u).run P w = .ok () w' ∧ WR st' a w' U I η ∧ Keep U I w w' := by
  obtain ⟨e, he, rfl⟩ := hp.rp_inv
  unfold absStoreRow at h
  cases hG : st.G[i]? with
  | none => simp [hG] at h
  | some o =>
    cases o with
    | row fz ty sz xs =>
      cases fz with
      | true => simp [hG] at h
      | false =>
        simp only [hG] at h
        obtain ⟨y, hy, h⟩ := Option.bind_eq_some_iff.1 h
        split at h
        · rename_i hle
          injection h with h
          subst h
          obtain ⟨g1, g2, g3, g4, g5, cur, g6, g7, g8⟩ := H.ob i e _ he hG
          have hidx := (List.getElem?_eq_some_iff.1 hy).1
          have hyl := g3 idx y hy
          have hrow : idx * sz + sz ≤ cur.size := by
            rw [g7, ← Nat.succ_mul]
            exact Nat.mul_le_mul_right _ (by omega)
          have hun := hv.1
          rw [g1]
          have hst := storeVar_run hs g6 (u := u) (by omega) (by omega) (oneL_cells hv h1) (off := idx * sz + off)
          refine ⟨_, by simp only [Instr.storeAt, Instr.sureAddr, Sem.run_bind, Sem.run_pure, Result.andThen_ok]; exact hst, ?_⟩
          refine H.setRow he hG rfl (o' := .row false ty sz _) rfl g6 ?_
          have hother : ∀ k, I k → (w.setRow e.b (cur.toList.take (idx * sz + off) ++ u.cells.toList ++ cur.toList.drop (idx * sz + off + cv.length)).toArray).heap[k]? = w.heap[k]? :=
            fun k hk => setRow_other w e.b k _ (fun hkk => (H.mt i e _ he hG rfl).2 (by rw [← hkk]; exact hk))
          refine ⟨g1, g2, ?_, by simpa using g4, g5, _, setRow_heap w e.b cur _ ty (0, 0) g6, by simp; omega, ?_⟩
          · intro j z hz
            by_cases hj : j = idx
            · subst hj
              rw [List.getElem?_set_self hidx] at hz
              injection hz with hz
              subst hz
              simp
              omega
            · rw [List.getElem?_set_ne (Ne.symm hj)] at hz
              exact g3 j z hz
          · intro j z q v' u' hz hv' hu'
            refine Rel.mono ?_ hother (fun _ h => h) (fun _ _ h => h)
            simp only [List.getElem?_toArray] at hu'
            have hcl : cur.toList.length = cur.size := by simp
            rw [List.getElem?_append, List.getElem?_append] at hu'
            have e2 : (cur.toList.take (idx * sz + off)).length = idx * sz + off := by simp; omega
            have e3 : u.cells.toList.length = cv.length := by simp; omega
            simp only [List.length_append, e2, e3] at hu'
            by_cases hj : j = idx
            · subst hj
              rw [List.getElem?_set_self hidx] at hz
              injection hz with hz
              subst hz
              rw [List.getElem?_append, List.getElem?_append] at hv'
              have e1 : (y.take off).length = off := by simp; omega
              simp only [List.length_append, e1] at hv'
              by_cases c1 : q < off + cv.length
              · rw [if_pos c1] at hv'
                rw [if_pos (by omega)] at hu'
                by_cases c2 : q < off
                · rw [if_pos c2, List.getElem?_take, if_pos c2] at hv'
                  rw [if_pos (by omega), List.getElem?_take, if_pos (by omega)] at hu'
                  exact g8 j y q v' u' hy hv' (by simpa using hu')
                · rw [if_neg c2] at hv'
                  rw [if_neg (by omega)] at hu'
                  refine hv.2 (q - off) v' u' hv' ?_
                  rw [show q - off = j * sz + q - (j * sz + off) from by omega]
                  simpa using hu'
              · rw [if_neg c1, List.getElem?_drop] at hv'
                rw [if_neg (by omega), List.getElem?_drop] at hu'
                refine g8 j y _ v' u' hy hv' ?_
                rw [show j * sz + (off + cv.length + (q - (off + cv.length))) = j * sz + off + cv.length + (j * sz + q - (j * sz + off + cv.length)) from by omega]
                simpa using hu'
            · rw [List.getElem?_set_ne (Ne.symm hj)] at hz
              have hzl := g3 j z hz
              have hql : q < sz := by have := (List.getElem?_eq_some_iff.1 hv').1; omega
              have hne : j * sz + q < idx * sz ∨ idx * sz + sz ≤ j * sz + q := by
                rcases Nat.lt_or_gt_of_ne hj with hlt | hgt
                · left
                  have : (j + 1) * sz ≤ idx * sz := Nat.mul_le_mul_right _ hlt
                  rw [Nat.succ_mul] at this
                  omega
                · right
                  have : (idx + 1) * sz ≤ j * sz := Nat.mul_le_mul_right _ hgt
                  rw [Nat.succ_mul] at this
                  omega
              refine g8 j z q v' u' hz hv' ?_
              rcases hne with hne | hne
              · rw [if_pos (by omega), if_pos (by omega), List.getElem?_take, if_pos (by omega)] at hu'
                simpa using hu'
              · rw [if_neg (by omega), List.getElem?_drop] at hu'
                rw [show j * sz + q = idx * sz + off + cv.length + (j * sz + q - (idx * sz + off + cv.length)) from by omega]
                simpa using hu'
        · cases h
    | box fz cs => simp [hG] at h
    | obj o => simp [hG] at h
    | dead => simp [hG] at h

theorem absStore_run (H : WR st a w U I η) {t : TypeId} {p v : V} {x y : Value} {st' : St} (hp : Rel w I η p x) (hv : Rel w I η v y) (h : absStore P st t p v = some st') :
    ∃ w', (Instr.storeAt t x y).run P w = .ok () w' ∧ WR st' a w' U I η ∧ Keep U I w w' := by
  unfold absStore at h
  obtain ⟨⟨agg, n⟩, hs, h⟩ := Option.bind_eq_some_iff.1 h
  split at h
  · rename_i hc
    obtain ⟨c1, c2, c3⟩ := hc
    simp only at c2 h
    subst c2
    have hrl := RelL.cells hv c1
    unfold absStoreAt at h
    cases p <;> simp only [reduceCtorEq] at h
    · exact absStoreBox_run H hp hs hrl c3 h
    · exact absStoreRow_run H hp hs hrl c3 h
  · cases h
end
end Go.Ab
