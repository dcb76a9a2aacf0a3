/- Ab, part 16: regions that draw their order: the kinds of operations; what moves past what. -/
import Derived.Test.YtlflddcbfbdldaaGreatDoorB6
import Derived.OrdersIn
import Derived.Still
namespace Go.Ab
open Go

inductive Kd where
  | pure | read | mild | harsh
  deriving DecidableEq
def kindOf : Op → Kd
  | .move _ | .assign _ | .pick .. | .binOp .. | .unOp .. | .fieldAddr .. | .field .. | .index .. | .extract .. | .nilCheck _ | .makeInterface .. | .makeFunc .. | .build .. | .convert .. | .typeAssert .. | .slice .. => .pure
  | .load .. | .lookup .. | .indexAddr .. => .read
  | .alloc _ | .box .. | .buildSlice .. | .makeSlice .. | .makeMap .. => .mild
  | .call c => match c.callee with
    | .builtin .append => .harsh
    | .builtin .len => .read
    | .builtin _ => .pure
    | .value _ => .mild
    | .invoke .. => .harsh
  | _ => .harsh
def compat (x y : Oper) : Bool :=
  match kindOf x.op, kindOf y.op with
  | .pure, _ => true
  | _, .pure => true
  | .read, .read => true
  | .read, .mild => true
  | .mild, .read => true
  | _, _ => false

section
variable {P : Program}

/-- Only the operands' values and the objects count. -/
theorem absQ_agree {N N2 : Nat} {s s2 : Nat → V} {G : List Ob} {D D2 : List Df} {op : Op} (h : ∀ x ∈ op.operands.toList, St.ev ⟨N2, s2, G, D2⟩ x = St.ev ⟨N, s, G, D⟩ x) : absQ P ⟨N2, s2, G, D2⟩ op = absQ P ⟨N, s, G, D⟩ op := by
  have lmap : ∀ (xs : Array Operand), (∀ x ∈ xs.toList, St.ev ⟨N2, s2, G, D2⟩ x = St.ev ⟨N, s, G, D⟩ x) → xs.toList.map (St.ev ⟨N2, s2, G, D2⟩) = xs.toList.map (St.ev ⟨N, s, G, D⟩) := fun xs hx => List.map_congr_left hx
  cases op
  case build t ps =>
    have : (ps.toList.map fun p => (p.1, St.ev ⟨N2, s2, G, D2⟩ p.2)) = ps.toList.map fun p => (p.1, St.ev ⟨N, s, G, D⟩ p.2) :=
      List.map_congr_left fun p hp => by rw [h p.2 (by simp only [Op.operands, List.mem_map]; exact ⟨p, hp, rfl⟩)]
    simp only [absQ, this]
  case makeFunc f xs ys =>
    simp only [absQ]
    rw [lmap xs (fun x hx => h x (by simp [Op.operands]; exact .inl (by simpa using hx))), lmap ys (fun x hx => h x (by simp [Op.operands]; exact .inr (by simpa using hx)))]
  case call c =>
    simp only [absQ]
    rw [lmap c.args (fun x hx => h x (by simp [Op.operands, Call.operands]; exact .inr (by simpa using hx)))]
    rfl
  case slice t x lo hi mx =>
    cases mx with
    | some m => rfl
    | none =>
      have h1 : St.ev ⟨N2, s2, G, D2⟩ x = St.ev ⟨N, s, G, D⟩ x := h x (by simp [Op.operands])
      have h2 : lo.map (St.ev ⟨N2, s2, G, D2⟩) = lo.map (St.ev ⟨N, s, G, D⟩) := by
        cases lo with
        | none => rfl
        | some z => simp only [Option.map_some]; rw [h z (by simp [Op.operands])]
      have h3 : hi.map (St.ev ⟨N2, s2, G, D2⟩) = hi.map (St.ev ⟨N, s, G, D⟩) := by
        cases hi with
        | none => rfl
        | some z => simp only [Option.map_some]; rw [h z (by simp [Op.operands])]
      simp only [absQ, h1, h2, h3]
  case pick c x y => simp only [absQ, h c (by simp [Op.operands]), h x (by simp [Op.operands]), h y (by simp [Op.operands])]
  case binOp op t x y z => simp only [absQ, h x (by simp [Op.operands]), h y (by simp [Op.operands])]
  case load t x => simp only [absQ, h x (by simp [Op.operands])]; rfl
  case indexAddr t x y => simp only [absQ, h x (by simp [Op.operands]), h y (by simp [Op.operands])]; rfl
  case index t x y => simp only [absQ, h x (by simp [Op.operands]), h y (by simp [Op.operands])]
  case lookup t x y ok => simp only [absQ, h x (by simp [Op.operands]), h y (by simp [Op.operands])]; rfl
  case move x => simp only [absQ, h x (by simp [Op.operands])]
  case assign x => simp only [absQ, h x (by simp [Op.operands])]
  case unOp op t x => simp only [absQ, h x (by simp [Op.operands])]
  case fieldAddr s x f => simp only [absQ, h x (by simp [Op.operands])]
  case field s x f => simp only [absQ, h x (by simp [Op.operands])]
  case extract x i => simp only [absQ, h x (by simp [Op.operands])]
  case nilCheck x => simp only [absQ, h x (by simp [Op.operands])]
  case makeInterface t x => simp only [absQ, h x (by simp [Op.operands])]
  case convert s d x => simp only [absQ, h x (by simp [Op.operands])]
  case typeAssert x t a ok => simp only [absQ, h x (by simp [Op.operands])]
  all_goals rfl

/-- Of objects: each stays what it is. -/
def GE (G G' : List Ob) : Prop := ∀ (i : Nat) (o : Ob), G[i]? = some o → G'[i]? = some o
theorem GE.refl (G : List Ob) : GE G G := fun _ _ h => h
theorem GE.push (G l : List Ob) : GE G (G ++ l) := fun i o h => by
  rw [List.getElem?_append_left (List.getElem?_eq_some_iff.1 h).1]; exact h

/-- No slot speaks of an object that is not there. -/
def V.low (n : Nat) : V → Prop
  | .ptr i _ => i < n
  | .rp i _ _ => i < n
  | .row i _ => i < n
  | .map i => i < n
  | _ => True
def St.low (st : St) : Prop := ∀ x, (st.ev x).low st.G.length
theorem WR.low {st : St} {a : Act} {w : World} {U I : Nat → Prop} {η : List Blk} (H : WR st a w U I η) : st.low := by
  intro x
  have hr := H.fits x
  have hl := H.len
  cases hx : st.ev x <;> simp only [V.low] <;> rw [hx] at hr
  · obtain ⟨e, he, _⟩ := hr.ptr_inv; rw [← hl]; exact (List.getElem?_eq_some_iff.1 he).1
  · obtain ⟨e, he, _⟩ := hr.rp_inv; rw [← hl]; exact (List.getElem?_eq_some_iff.1 he).1
  · obtain ⟨e, he, _⟩ := hr.row_inv; rw [← hl]; exact (List.getElem?_eq_some_iff.1 he).1
  · obtain ⟨e, he, _⟩ := hr.map_inv; rw [← hl]; exact (List.getElem?_eq_some_iff.1 he).1

theorem behind_up {N : Nat} {s : Nat → V} {G G' : List Ob} {D : List Df} (hg : GE G G') {p : V} {r : List V × Nat} (h : St.behind ⟨N, s, G, D⟩ p = some r) : St.behind ⟨N, s, G', D⟩ p = some r := by
  cases p <;> simp only [St.behind, reduceCtorEq] at h ⊢
  case ptr i off =>
    split at h
    · rename_i hG; rw [hg _ _ hG]; exact h
    · cases h
  case rp i idx off =>
    split at h
    · rename_i hG; rw [hg _ _ hG]; exact h
    · cases h
  case ep => exact h
theorem load_up {N : Nat} {s : Nat → V} {G G' : List Ob} {D : List Df} (hg : GE G G') {t : TypeId} {p v : V} (h : absLoad P ⟨N, s, G, D⟩ t p = some v) : absLoad P ⟨N, s, G', D⟩ t p = some v := by
  unfold absLoad at h ⊢
  obtain ⟨x, hx, h⟩ := Option.bind_eq_some_iff.1 h
  obtain ⟨c, hc, h⟩ := Option.bind_eq_some_iff.1 h
  rw [hx, Option.bind_some, behind_up hg hc, Option.bind_some]
  exact h
theorem indexAddr_up {N : Nat} {s : Nat → V} {G G' : List Ob} {D : List Df} (hg : GE G G') {t : TypeId} {x i v : V} (h : absIndexAddr P ⟨N, s, G, D⟩ t x i = some v) : absIndexAddr P ⟨N, s, G', D⟩ t x i = some v := by
  cases i <;> simp only [absIndexAddr, reduceCtorEq] at h ⊢
  cases x <;> first | exact h | skip
  simp only at h ⊢
  split at h
  · rename_i hc
    rw [if_pos hc]
    split at h
    · rename_i hG; rw [hg _ _ hG]; exact h
    · cases h
  · cases h
theorem mapOf_up {N : Nat} {s : Nat → V} {G G' : List Ob} {D : List Df} (hg : GE G G') {m : V} {es : List (V × V × Nat)} (h : St.mapOf ⟨N, s, G, D⟩ m = some es) : St.mapOf ⟨N, s, G', D⟩ m = some es := by
  cases m <;> simp only [St.mapOf, reduceCtorEq] at h ⊢
  case mnil => exact h
  case map i =>
    split at h
    · rename_i hG; rw [hg _ _ hG]; exact h
    · cases h
theorem lookup_up {N : Nat} {s : Nat → V} {G G' : List Ob} {D : List Df} (hg : GE G G') {t : TypeId} {m k v : V} {ok : Bool} (h : absLookup P ⟨N, s, G, D⟩ t m k ok = some v) : absLookup P ⟨N, s, G', D⟩ t m k ok = some v := by
  unfold absLookup at h ⊢
  split at h
  · rename_i hu
    obtain ⟨es, hes, h⟩ := Option.bind_eq_some_iff.1 h
    rw [mapOf_up hg hes]
    exact h
  · cases h

theorem lenMap_up {N : Nat} {s : Nat → V} {G G' : List Ob} {D : List Df} (hg : GE G G') {b : Builtin} {ts : Array TypeId} {xs : List V} {v : V} (h : absLenMap P ⟨N, s, G, D⟩ b ts xs = some v) : absLenMap P ⟨N, s, G', D⟩ b ts xs = some v := by
  unfold absLenMap at h ⊢
  split at h
  · split at h
    · rename_i hu
      obtain ⟨es, hes, h⟩ := Option.map_eq_some_iff.1 h
      simp only [mapOf_up hg hes, Option.map_some, h]
    · cases h
  · cases h
/-- The objects that are looked at are there. -/
theorem GE.back {G G' : List Ob} (hg : GE G G') {i : Nat} (hi : i < G.length) : G'[i]? = G[i]? := by
  rw [List.getElem?_eq_getElem hi]; exact hg i _ (List.getElem?_eq_getElem hi)
theorem behind_back {N : Nat} {s : Nat → V} {G G' : List Ob} {D : List Df} (hg : GE G G') {p : V} (hp : p.low G.length) : St.behind ⟨N, s, G', D⟩ p = St.behind ⟨N, s, G, D⟩ p := by
  cases p <;> simp only [St.behind] <;> simp only [V.low] at hp <;> rw [hg.back hp]
theorem load_back {N : Nat} {s : Nat → V} {G G' : List Ob} {D : List Df} (hg : GE G G') {t : TypeId} {p : V} (hp : p.low G.length) : absLoad P ⟨N, s, G', D⟩ t p = absLoad P ⟨N, s, G, D⟩ t p := by
  unfold absLoad
  rw [behind_back hg hp]
theorem indexAddr_back {N : Nat} {s : Nat → V} {G G' : List Ob} {D : List Df} (hg : GE G G') {t : TypeId} {x i : V} (hx : x.low G.length) : absIndexAddr P ⟨N, s, G', D⟩ t x i = absIndexAddr P ⟨N, s, G, D⟩ t x i := by
  cases i <;> simp only [absIndexAddr]
  cases x <;> simp only [V.low] at hx <;> simp only
  rw [hg.back hx]
theorem lookup_back {N : Nat} {s : Nat → V} {G G' : List Ob} {D : List Df} (hg : GE G G') {t : TypeId} {m k : V} {ok : Bool} (hm : m.low G.length) : absLookup P ⟨N, s, G', D⟩ t m k ok = absLookup P ⟨N, s, G, D⟩ t m k ok := by
  unfold absLookup
  have : St.mapOf ⟨N, s, G', D⟩ m = St.mapOf ⟨N, s, G, D⟩ m := by
    cases m <;> first | rfl | skip
    rename_i i
    have hm : i < G.length := hm
    simp only [St.mapOf, hg.back hm]
  simp only [this]

theorem lenMap_back {N : Nat} {s : Nat → V} {G G' : List Ob} {D : List Df} (hg : GE G G') {b : Builtin} {ts : Array TypeId} {xs : List V} (hl : ∀ x ∈ xs, x.low G.length) : absLenMap P ⟨N, s, G', D⟩ b ts xs = absLenMap P ⟨N, s, G, D⟩ b ts xs := by
  unfold absLenMap
  split
  · rename_i t x hts
    have hx := hl x (by simp)
    have : St.mapOf ⟨N, s, G', D⟩ x = St.mapOf ⟨N, s, G, D⟩ x := by
      cases x <;> first | rfl | skip
      rename_i i
      have hm : i < G.length := hx
      simp only [St.mapOf, hg.back hm]
    simp only [this]
  · rfl

/-- Pure operations look at no object. -/
theorem absQ_pure {N : Nat} {s : Nat → V} {G G' : List Ob} {D : List Df} {op : Op} (hk : kindOf op = .pure) : absQ P ⟨N, s, G', D⟩ op = absQ P ⟨N, s, G, D⟩ op := by
  have hev : St.ev ⟨N, s, G', D⟩ = St.ev ⟨N, s, G, D⟩ := by funext x; cases x <;> rfl
  cases op <;> simp only [kindOf, reduceCtorEq] at hk <;> simp only [absQ, hev]
  case slice t x lo hi mx => cases mx <;> simp only [absQ, hev]
  case call c =>
    obtain ⟨callee, args, ts⟩ := c
    cases callee with
    | builtin b => cases b <;> simp at hk <;> rfl
    | value f => rfl
    | invoke r m => rfl

theorem absX_quietK {st : St} {op : Op} (hk : kindOf op = .pure ∨ kindOf op = .read) : absX P st op = (absQ P st op).map fun v => (v, st) := by
  cases op <;> simp only [kindOf, reduceCtorEq, or_self] at hk <;> first | rfl | skip
  case call c =>
    obtain ⟨callee, args, ts⟩ := c
    cases callee with
    | builtin b => cases b <;> simp at hk <;> rfl
    | value f => simp at hk
    | invoke r m => simp at hk

/-- Reads and pure operations, with more objects. -/
theorem absQ_up {N : Nat} {s : Nat → V} {G G' : List Ob} {D : List Df} {op : Op} (hk : kindOf op = .pure ∨ kindOf op = .read) (hg : GE G G') {v : V} (h : absQ P ⟨N, s, G, D⟩ op = some v) : absQ P ⟨N, s, G', D⟩ op = some v := by
  rcases hk with hk | hk
  · rw [absQ_pure (G := G) hk]; exact h
  · have hev : St.ev ⟨N, s, G', D⟩ = St.ev ⟨N, s, G, D⟩ := by funext x; cases x <;> rfl
    cases op <;> simp only [kindOf, reduceCtorEq] at hk <;> simp only [absQ, hev] at h ⊢
    case load t p => exact load_up hg h
    case indexAddr t x i => exact indexAddr_up hg h
    case lookup t m k ok => exact lookup_up hg h
    case call c =>
      obtain ⟨callee, args, ts⟩ := c
      cases callee with
      | builtin b =>
        cases b <;> simp at hk
        simp only at h ⊢
        split at h
        · exact h
        · exact lenMap_up hg h
      | value f => simp at hk
      | invoke r m => simp at hk
theorem absQ_back {N : Nat} {s : Nat → V} {G G' : List Ob} {D : List Df} {op : Op} (hk : kindOf op = .pure ∨ kindOf op = .read) (hg : GE G G') (hl : St.low ⟨N, s, G, D⟩) : absQ P ⟨N, s, G', D⟩ op = absQ P ⟨N, s, G, D⟩ op := by
  rcases hk with hk | hk
  · exact absQ_pure hk
  · have hev : St.ev ⟨N, s, G', D⟩ = St.ev ⟨N, s, G, D⟩ := by funext x; cases x <;> rfl
    cases op <;> simp only [kindOf, reduceCtorEq] at hk <;> simp only [absQ, hev]
    case load t p => exact load_back hg (hl p)
    case indexAddr t x i => exact indexAddr_back hg (hl x)
    case lookup t m k ok => exact lookup_back hg (hl m)
    case call c =>
      obtain ⟨callee, args, ts⟩ := c
      cases callee with
      | builtin b =>
        cases b <;> simp at hk
        simp only
        rw [lenMap_back hg (fun x hx => by
          obtain ⟨y, _, rfl⟩ := List.mem_map.1 hx
          exact hl y)]
      | value f => simp at hk
      | invoke r m => simp at hk

/-- Operations that add objects. -/
theorem absX_mild {N : Nat} {s : Nat → V} {G : List Ob} {D : List Df} {op : Op} (hk : kindOf op = .mild) {v : V} {st' : St} (h : absX P ⟨N, s, G, D⟩ op = some (v, st')) : ∃ l, st' = ⟨N, s, G ++ l, D⟩ := by
  cases op <;> simp only [kindOf, reduceCtorEq] at hk <;> simp only [absX] at h
  case alloc t =>
    obtain ⟨z, hz, h⟩ := Option.map_eq_some_iff.1 h
    simp only [Prod.mk.injEq] at h
    exact ⟨_, h.2.symm⟩
  case box t x =>
    split at h
    · simp only [Option.some.injEq, Prod.mk.injEq] at h
      exact ⟨_, h.2.symm⟩
    · cases h
  case buildSlice t n ps =>
    unfold absBuildSlice at h
    obtain ⟨e, he, h⟩ := Option.bind_eq_some_iff.1 h
    split at h
    · obtain ⟨z, hz, h⟩ := Option.map_eq_some_iff.1 h
      simp only [Prod.mk.injEq] at h
      exact ⟨_, h.2.symm⟩
    · cases h
  case makeSlice t l c =>
    unfold absMakeSlice at h
    split at h
    · unfold absMake at h
      obtain ⟨e, he, h⟩ := Option.bind_eq_some_iff.1 h
      split at h
      · simp only [Option.some.injEq, Prod.mk.injEq] at h
        exact ⟨_, h.2.symm⟩
      · cases h
    · cases h
  case makeMap t r =>
    unfold absMakeMap at h
    split at h
    · simp only [Option.some.injEq, Prod.mk.injEq] at h
      exact ⟨_, h.2.symm⟩
    · split at h
      · simp only [Option.some.injEq, Prod.mk.injEq] at h
        exact ⟨_, h.2.symm⟩
      · cases h
    · cases h
  rename_i c
  obtain ⟨callee, args, ts⟩ := c
  cases callee with
  | builtin b => cases b <;> simp at hk
  | value f => simp at h
  | invoke r m => simp at hk

theorem absX_agree {N N2 : Nat} {s s2 : Nat → V} {G : List Ob} {D D2 : List Df} {op : Op} (h : ∀ x ∈ op.operands.toList, St.ev ⟨N2, s2, G, D2⟩ x = St.ev ⟨N, s, G, D⟩ x) :
    absX P ⟨N2, s2, G, D2⟩ op = (absX P ⟨N, s, G, D⟩ op).map fun r => (r.1, ⟨N2, s2, r.2.G, D2⟩) := by
  have quiet : (absQ P ⟨N2, s2, G, D2⟩ op).map (fun v => (v, (⟨N2, s2, G, D2⟩ : St))) = ((absQ P ⟨N, s, G, D⟩ op).map fun v => (v, (⟨N, s, G, D⟩ : St))).map fun r => (r.1, ⟨N2, s2, r.2.G, D2⟩) := by
    rw [absQ_agree h, Option.map_map]
    rfl
  have put : ∀ (t : TypeId) (m k x : Operand), St.ev ⟨N2, s2, G, D2⟩ m = St.ev ⟨N, s, G, D⟩ m → St.ev ⟨N2, s2, G, D2⟩ k = St.ev ⟨N, s, G, D⟩ k → St.ev ⟨N2, s2, G, D2⟩ x = St.ev ⟨N, s, G, D⟩ x →
      (absMapPut P ⟨N2, s2, G, D2⟩ t (St.ev ⟨N2, s2, G, D2⟩ m) (St.ev ⟨N2, s2, G, D2⟩ k) (St.ev ⟨N2, s2, G, D2⟩ x)).map (fun s => (V.tup [], s)) =
      ((absMapPut P ⟨N, s, G, D⟩ t (St.ev ⟨N, s, G, D⟩ m) (St.ev ⟨N, s, G, D⟩ k) (St.ev ⟨N, s, G, D⟩ x)).map fun s => (V.tup [], s)).map fun r => (r.1, ⟨N2, s2, r.2.G, D2⟩) := by
    intro t m k x h1 h2 h3
    rw [h1, h2, h3]
    unfold absMapPut
    split
    · simp only
      split
      · simp only [Option.map_map]; rfl
      · rfl
    · rfl
  cases op
  case alloc t => simp only [absX, Option.map_map]; rfl
  case box t x =>
    simp only [absX, h x (by simp [Op.operands])]
    split <;> rfl
  case store t p x =>
    simp only [absX, h p (by simp [Op.operands]), h x (by simp [Op.operands])]
    unfold absStore
    cases shape P t with
    | none => rfl
    | some sh =>
      simp only [Option.bind_some]
      split
      · unfold absStoreAt
        split
        · unfold absStoreBox
          simp only
          split
          · split <;> rfl
          · rfl
        · unfold absStoreRow
          simp only
          split
          · rename_i i idx off hp x0 ty sz xs hG
            cases xs[idx]? with
            | none => rfl
            | some y => simp only [Option.bind_some]; split <;> rfl
          · rfl
        · rfl
      · rfl
  case buildSlice t n ps =>
    have : (ps.toList.map fun p => (p.1, St.ev ⟨N2, s2, G, D2⟩ p.2)) = ps.toList.map fun p => (p.1, St.ev ⟨N, s, G, D⟩ p.2) :=
      List.map_congr_left fun p hp => by rw [h p.2 (by simp only [Op.operands, List.mem_map]; exact ⟨p, hp, rfl⟩)]
    simp only [absX, this]
    unfold absBuildSlice
    cases elemInfo P t with
    | none => rfl
    | some e =>
      simp only [Option.bind_some]
      split
      · simp only [Option.map_map]; rfl
      · rfl
  case makeSlice t l c =>
    simp only [absX, h l (by simp [Op.operands]), h c (by simp [Op.operands])]
    unfold absMakeSlice
    split
    · unfold absMake
      cases elemInfo P t with
      | none => rfl
      | some e => simp only [Option.bind_some]; split <;> rfl
    · rfl
  case makeMap t r =>
    have : r.map (St.ev ⟨N2, s2, G, D2⟩) = r.map (St.ev ⟨N, s, G, D⟩) := by
      cases r with
      | none => rfl
      | some z => simp only [Option.map_some]; rw [h z (by simp [Op.operands])]
    simp only [absX, this]
    unfold absMakeMap
    simp only
    split
    · rfl
    · split <;> rfl
    · rfl
  case mapUpdate t m k x => simp only [absX]; exact put t m k x (h m (by simp [Op.operands])) (h k (by simp [Op.operands])) (h x (by simp [Op.operands]))
  case insert t m k x => simp only [absX]; exact put t m k x (h m (by simp [Op.operands])) (h k (by simp [Op.operands])) (h x (by simp [Op.operands]))
  case call c =>
    obtain ⟨callee, args, ts⟩ := c
    have hm : args.toList.map (St.ev ⟨N2, s2, G, D2⟩) = args.toList.map (St.ev ⟨N, s, G, D⟩) := List.map_congr_left fun x hx => h x (by simp [Op.operands, Call.operands]; exact .inr (by simpa using hx))
    cases callee with
    | builtin b =>
      cases b
      case append =>
        simp only [absX, hm]
        unfold absAppendC
        split
        · split
          · unfold absAppend
            rw [Option.map_bind]
            congr 1
            funext e
            simp only [Function.comp]
            rw [Option.map_bind]
            rename_i t _ sv xv _ _ _
            have hel : St.elems ⟨N2, s2, G, D2⟩ = St.elems ⟨N, s, G, D⟩ := by funext v; cases v <;> rfl
            rw [hel]
            congr 1
            funext ys
            simp only [Function.comp]
            split
            · unfold absAppend1
              split
              · split
                · rfl
                · split <;> rfl
              · simp only
                split
                · split <;> rfl
                · rfl
              · rfl
            · rfl
          · rfl
        · rfl
      all_goals exact quiet
    | value f => rfl
    | invoke r m => rfl
  all_goals exact quiet
end
end Go.Ab
