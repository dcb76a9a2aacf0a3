/- Ab, part 6: what an operation yields that leaves memory as it is, in one function. -/
import Derived.Test.YtlflddcbfbdldaaGreatDoorAG
namespace Go.Ab
open Go

def absTup (x : V) (i : Nat) : Option V := match x with | .tup vs => vs[i]? | _ => none
def absBuiltin (P : Program) (b : Builtin) (ts : Array TypeId) (xs : List V) : Option V :=
  match b with
  | .len => match ts[0]?, xs with | some t, [x] => absLen P t x | _, _ => none
  | .max => absMm true xs
  | .min => absMm false xs
  | _ => none
def absLenMap (P : Program) (st : St) (b : Builtin) (ts : Array TypeId) (xs : List V) : Option V :=
  match b, ts[0]?, xs with
  | .len, some t, [x] => match P.underlying t with
    | some (.map _ _) => (st.mapOf x).map fun es => .int .i64 es.length
    | _ => none
  | _, _, _ => none
def absQ (P : Program) (st : St) (o : Op) : Option V :=
  match o with
  | .move x => some (st.ev x)
  | .assign x => some (st.ev x)
  | .pick c x y => match st.ev c with | .bool b => some (absPick b (st.ev x) (st.ev y)) | _ => none
  | .load t p => absLoad P st t (st.ev p)
  | .binOp op t x y _ => absBinT P op t (isC x || isC y) (st.ev x) (st.ev y)
  | .slice t x lo hi none => absSliceAt P t (st.ev x) (lo.map st.ev) (hi.map st.ev)
  | .typeAssert x _ asserted ok => absTA P (st.ev x) asserted ok
  | .lookup t m k ok => absLookup P st t (st.ev m) (st.ev k) ok
  | .unOp op _ x => absUn op (st.ev x)
  | .fieldAddr s p f => (fieldOff P s f).bind fun n => absAdd (st.ev p) n
  | .field s x f => absField P s (st.ev x) f
  | .indexAddr t x i => absIndexAddr P st t (st.ev x) (st.ev i)
  | .index t x i => absIndexA P t (st.ev x) (st.ev i)
  | .extract x i => absTup (st.ev x) i
  | .nilCheck x => absNil (st.ev x)
  | .makeInterface t x => if notIface P t then some (.ifc t (st.ev x)) else none
  | .makeFunc f xs ys => some (.fn f (xs.toList.map st.ev) (ys.toList.map st.ev))
  | .build t ps => absBuild P t (ps.toList.map fun p => (p.1, st.ev p.2))
  | .convert s d x => if (P.underlying s).isSome = true then absConv P d (st.ev x) else none
  | .call c => match c.callee with
    | .builtin b => match absBuiltin P b c.argTypes (c.args.toList.map st.ev) with
      | some v => some v
      | none => absLenMap P st b c.argTypes (c.args.toList.map st.ev)
    | _ => none
  | _ => none

section
variable {P : Program} {st : St} {a : Act} {w : World} {U I : Nat → Prop} {η : List Blk}

theorem nil_run {x v : V} {y : Value} (hx : Rel w I η x y) (h : absNil x = some v) (o : Oper) (p : Operand) (ho : o.op = .nilCheck p) (hy : a.eval p = y) :
    (execOp a.eval o).run P w = .ok (.value y) w ∧ Rel w I η v y := by
  unfold absNil at h
  split at h
  all_goals first | (cases h; done) | skip
  · injection h with h
    subst h
    refine ⟨?_, hx⟩
    obtain ⟨e, he, rfl⟩ := hx.ptr_inv
    simp [execOp, ho, hy]
  · injection h with h
    subst h
    refine ⟨?_, hx⟩
    obtain ⟨e, he, rfl⟩ := hx.rp_inv
    simp [execOp, ho, hy]
  · injection h with h
    subst h
    refine ⟨?_, hx⟩
    cases hx.ep_inv
    simp [execOp, ho, hy]
  · injection h with h
    subst h
    refine ⟨?_, hx⟩
    obtain ⟨us, vs, rfl, _⟩ := hx.fn_inv
    simp [execOp, ho, hy]
  · injection h with h
    subst h
    refine ⟨?_, hx⟩
    obtain ⟨x', rfl, _⟩ := hx.ifc_inv
    simp [execOp, ho, hy]

theorem conv_run {s d : TypeId} {x v : V} {y : Value} (hs : ∃ du, P.underlying s = some du) (hx : Rel w I η x y) (h : absConv P d x = some v) :
    ∃ u, (convert s d y).run P w = .ok u w ∧ Rel w I η v u := by
  obtain ⟨du, hs⟩ := hs
  unfold absConv at h
  split at h
  · rename_i k n k' hk
    obtain rfl := hx.int_inv
    injection h with h
    subst h
    unfold intT at hk
    split at hk
    · rename_i k2 hu
      injection hk with hk
      subst hk
      exact ⟨_, by simp [convert, run_underlying hs, run_underlying hu, Conv.intToInt], .d (.int _ _)⟩
    · cases hk
  · rename_i s' hk
    obtain rfl := hx.str_inv
    split at h
    · rename_i ht
      injection h with h
      subst h
      unfold isStrT at ht
      split at ht
      · rename_i hu
        exact ⟨_, by simp [convert, run_underlying hs, run_underlying hu], .d (.str _)⟩
      · cases ht
    · cases h
  · cases h

/-- What a literal's parts fill. -/
theorem fill_run (pl : Nat → Option (Nat × Nat)) : ∀ (ps : List (Nat × V)) (qs : List (Nat × Value)) (cs : List V) (us : Array Value) (r : List V),
    ps.length = qs.length → (∀ (i : Nat) (p : Nat × V) (q : Nat × Value), ps[i]? = some p → qs[i]? = some q → p.1 = q.1 ∧ Rel w I η p.2 q.2) → RelL w I η cs us → fillV pl ps cs = some r →
    ∃ vs, Instr.fill pl us qs = some vs ∧ RelL w I η r vs
  | [], qs, cs, us, r, hl, _, hc, h => by
    obtain rfl : qs = [] := List.eq_nil_of_length_eq_zero (by simpa using hl.symm)
    simp only [fillV, Option.some.injEq] at h
    subst h
    exact ⟨us, rfl, hc⟩
  | (i, v) :: ps, qs, cs, us, r, hl, hr, hc, h => by
    cases qs with
    | nil => simp at hl
    | cons q qs =>
      obtain ⟨hi, hv⟩ := hr 0 (i, v) q rfl rfl
      obtain ⟨i', u⟩ := q
      simp only at hi hv
      subst hi
      simp only [fillV] at h
      split at h
      · rename_i off size hpl
        split at h
        · rename_i hcond
          obtain ⟨h1, h2, h3⟩ := hcond
          obtain ⟨hl2, hr2⟩ := RelL.cells hv h3
          have hcs := hc.1
          have hz : (u.cells.zipIdx.foldl (fun cs (c, j) => cs.setIfInBounds (off + j) c) us) = ((us.toList.take off ++ u.cells.toList ++ us.toList.drop (off + size)).toArray) := by
            have key : ∀ (l : List Value) (k : Nat) (z : List Value), off + k + l.length ≤ z.length →
                (l.zipIdx k).foldl (fun (cs : Array Value) (x : Value × Nat) => cs.setIfInBounds (off + x.2) x.1) z.toArray = (z.take (off + k) ++ l ++ z.drop (off + k + l.length)).toArray := by
              intro l
              induction l with
              | nil => intro k z hz; simp
              | cons c l ih =>
                intro k z hz
                simp only [List.length_cons] at hz
                simp only [List.zipIdx_cons, List.foldl_cons, List.setIfInBounds_toArray]
                rw [ih (k + 1) (z.set (off + k) c) (by simp; omega)]
                congr 1
                have hk : off + k < z.length := by omega
                rw [show off + (k + 1) = (off + k) + 1 from by omega, List.drop_set_of_lt (by omega)]
                rw [List.take_succ_eq_append_getElem (by simpa using hk), List.take_set_of_le (by omega)]
                simp [List.append_assoc, Nat.add_assoc, Nat.add_comm 1]
            have := key u.cells.toList 0 us.toList (by simp; omega)
            simp only [Nat.add_zero, Array.length_toList] at this
            rw [← Array.foldl_toList, Array.toList_zipIdx]
            have h5 : us.toList.toArray = us := by simp
            rw [h5] at this
            rw [show u.cells.size = size from by omega] at this
            exact this
          have hnext : RelL w I η (cs.take off ++ v.cells ++ cs.drop (off + size)) ((us.toList.take off ++ u.cells.toList ++ us.toList.drop (off + size)).toArray) := by
            refine ⟨by simp; omega, fun j x y hx hy => ?_⟩
            simp only [List.getElem?_toArray] at hy
            rw [List.getElem?_append, List.getElem?_append] at hx hy
            have e1 : (cs.take off).length = off := by simp; omega
            have e2 : (us.toList.take off).length = off := by simp; omega
            have e3 : u.cells.toList.length = v.cells.length := by simp; omega
            simp only [List.length_append, e1, e2, e3] at hx hy
            by_cases c1 : j < off + v.cells.length
            · rw [if_pos c1] at hx hy
              by_cases c2 : j < off
              · rw [if_pos c2] at hx hy
                rw [List.getElem?_take, if_pos c2] at hx hy
                exact hc.2 j x y hx (by simpa using hy)
              · rw [if_neg c2] at hx hy
                exact hr2 _ x y hx (by simpa using hy)
            · rw [if_neg c1] at hx hy
              rw [List.getElem?_drop] at hx hy
              exact hc.2 _ x y hx (by simpa using hy)
          obtain ⟨vs, hvs, hrr⟩ := fill_run pl ps qs _ _ r (by simpa using hl) (fun i p q h1 h2 => hr (i + 1) p q (by simpa using h1) (by simpa using h2)) hnext h
          refine ⟨vs, ?_, hrr⟩
          have hb1 : u.cells.size = size := by omega
          have hb2 : off + u.cells.size ≤ us.size := by omega
          have hb : (decide (u.cells.size ≠ size) || decide (off + u.cells.size > us.size)) = false := by
            rw [Bool.or_eq_false_iff]
            exact ⟨decide_eq_false (by omega), decide_eq_false (by omega)⟩
          simp only [Instr.fill, hpl, hb, Bool.false_eq_true, if_false]
          rw [hz]
          exact hvs
        · cases h
      · cases h

theorem zeroV_run {t : TypeId} {z : List V} (h : zeroV P t = some z) : ∃ u, (zeroValue t).run P w = .ok u w ∧ RelL w I η z u.cells := by
  unfold zeroV at h
  obtain ⟨i, hi, h⟩ := Option.bind_eq_some_iff.1 h
  obtain ⟨u, hu, rfl⟩ := Option.map_eq_some_iff.1 h
  refine ⟨u, by simp [zeroValue, typeInfo, hi, hu], by simp, fun j x y hx hy => ?_⟩
  have h7 : u.cells.toList[j]? = some y := by simpa using hy
  rw [List.getElem?_map, h7] at hx
  injection hx with hx
  subst hx
  exact .d (absC_rel w I y)

theorem run_mapM_list {α β : Type} (f : α → Sem β) (g : α → β) : ∀ (l : List α), (∀ x ∈ l, ∀ w, (f x).run P w = .ok (g x) w) → ∀ w, (l.mapM f).run P w = .ok (l.map g) w
  | [], _, w => by simp
  | x :: l, h, w => by
    simp only [List.mapM_cons, Sem.run_bind, h x (by simp) w, Result.andThen_ok, run_mapM_list f g l (fun y hy => h y (by simp [hy])) w, Sem.run_pure, List.map_cons]
theorem run_mapM_array {α β : Type} (f : α → Sem β) (g : α → β) (l : Array α) (h : ∀ x ∈ l, ∀ w, (f x).run P w = .ok (g x) w) (w : World) : (l.mapM f).run P w = .ok (l.map g) w := by
  obtain ⟨l⟩ := l
  rw [List.mapM_toArray, Sem.run_map, run_mapM_list f g l (fun x hx => h x (by simpa using hx)) w]
  simp

theorem build_run {t : TypeId} {ps : List (Nat × V)} {v : V} {qs : List (Nat × Value)} (hl : ps.length = qs.length)
    (hr : ∀ (i : Nat) (p : Nat × V) (q : Nat × Value), ps[i]? = some p → qs[i]? = some q → p.1 = q.1 ∧ Rel w I η p.2 q.2) (h : absBuild P t ps = some v) :
    ∃ u, (Instr.build t qs.toArray).run P w = .ok u w ∧ Rel w I η v u := by
  unfold absBuild at h
  split at h
  · rename_i hagg
    obtain ⟨z, hz, h⟩ := Option.bind_eq_some_iff.1 h
    obtain ⟨r, hf, h⟩ := Option.map_eq_some_iff.1 h
    subst h
    obtain ⟨u, hu, hzr⟩ := zeroV_run (P := P) (w := w) (I := I) (η := η) hz
    unfold buildOk at hagg
    split at hagg
    · rename_i fs hd
      have hpl : ∀ i, place P t i = ((fs.map fun f => (f.offset, ((P.info? f.type).map (·.size)).getD 0))[i]?) := fun i => by
        simp only [place, hd, Array.getElem?_map]
        cases hfi : fs[i]? with
        | none => rfl
        | some f =>
          have hmem : f ∈ fs := Array.mem_of_getElem? hfi
          have := Array.all_eq_true'.1 hagg f hmem
          cases hi : P.info? f.type with
          | none => simp [hi] at this
          | some x => simp [hi]
      obtain ⟨vs, hvs, hrr⟩ := fill_run (place P t) ps qs z u.cells r hl hr hzr hf
      refine ⟨.agg vs, ?_, .agg _ _ hrr.1 hrr.2⟩
      have hm := run_mapM_array (P := P) (fun f : Field => do pure (f.offset, ← sizeOf f.type)) (fun f => (f.offset, ((P.info? f.type).map (·.size)).getD 0)) fs (fun f hf' w => by
        have := Array.all_eq_true'.1 hagg f hf'
        cases hi : P.info? f.type with
        | none => simp [hi] at this
        | some x => simp [hi, sizeOf, typeInfo]) w
      have hfun : (fun i => (fs.map fun f => (f.offset, ((P.info? f.type).map (·.size)).getD 0))[i]?) = place P t := funext fun i => (hpl i).symm
      simp only [Instr.build, Sem.run_bind, hu, Result.andThen_ok, run_underlying hd, hm]
      rw [hfun, hvs]
      rfl
    · rename_i n e hd
      obtain ⟨x, hx⟩ := Option.isSome_iff_exists.1 hagg
      obtain ⟨vs, hvs, hrr⟩ := fill_run (place P t) ps qs z u.cells r hl hr hzr hf
      refine ⟨.agg vs, ?_, .agg _ _ hrr.1 hrr.2⟩
      have hfun : (fun i => some (i * x.size, x.size)) = place P t := funext fun i => by simp [place, hd, hx]
      simp only [Instr.build, Sem.run_bind, hu, Result.andThen_ok, run_underlying hd, sizeOf, typeInfo, run_program, hx, Sem.run_pure]
      rw [hfun, hvs]
      rfl
    · cases hagg
  · cases h

theorem notIface_run {t : TypeId} (h : notIface P t = true) (x : Value) : (Instr.makeInterface t x).run P w = .ok (.iface t x) w := by
  unfold notIface at h
  split at h
  · cases h
  · rename_i d hn hd
    simp only [Instr.makeInterface, Sem.run_bind, run_underlying hd, Result.andThen_ok]
    cases d <;> first | rfl | (exact absurd hd (hn _))
  · cases h

theorem map_rel (H : Fits w I η st.ev a.eval) (xs : Array Operand) : RelL w I η (xs.toList.map st.ev) (xs.map a.eval) := by
  refine ⟨by simp, fun i v u hv hu => ?_⟩
  simp only [List.getElem?_map, Option.map_eq_some_iff, Array.getElem?_map] at hv hu
  obtain ⟨x, hx, rfl⟩ := hv
  obtain ⟨y, hy, rfl⟩ := hu
  rw [Array.getElem?_toList, hy] at hx
  injection hx with hx
  subst hx
  exact H y

theorem absQ_run (H : WR st a w U I η) {o : Oper} {v : V} (h : absQ P st o.op = some v) :
    ∃ u, (execOp a.eval o).run P w = .ok (.value u) w ∧ Rel w I η v u := by
  have F := H.fits
  cases ho : o.op <;> simp only [ho, absQ, reduceCtorEq] at h
  case move x => injection h with h; subst h; exact ⟨_, by simp [execOp, ho], F x⟩
  case assign x => injection h with h; subst h; exact ⟨_, by simp [execOp, ho], F x⟩
  case pick c x y =>
    split at h
    · rename_i b hb
      injection h with h
      subst h
      have hc := F c
      rw [hb] at hc
      exact ⟨_, by simp [execOp, ho, hc.bool_inv, asBool], pick_rel (F x) (F y)⟩
    · cases h
  case load t p =>
    obtain ⟨u, hu, hr⟩ := absLoad_run H (F p) h
    exact ⟨u, by simp [execOp, ho, hu], hr⟩
  case binOp op t x y t' =>
    obtain ⟨u, hu, hr⟩ := absBinT_run (P := P) t x y (fun h => by simpa using h) h (F x) (F y)
    exact ⟨u, by simp only [execOp, ho, Sem.run_bind] at hu ⊢; rw [hu]; rfl, hr⟩
  case slice t x lo hi mx =>
    cases mx with
    | some m => simp at h
    | none =>
      simp only at h
      have hop : ∀ (o : Option Operand), (∀ v, o.map st.ev = some v → ∃ u, o.map a.eval = some u ∧ Rel w I η v u) ∧ (o.map st.ev = none → o.map a.eval = none) := by
        intro o
        cases o with
        | none => exact ⟨fun v h => by simp at h, fun _ => rfl⟩
        | some z => exact ⟨fun v h => by simp at h; subst h; exact ⟨_, rfl, F z⟩, fun h => by simp at h⟩
      obtain ⟨u, hu, hr⟩ := sliceAt_run (P := P) (F x) (hop lo).1 (hop lo).2 (hop hi).1 (hop hi).2 h
      exact ⟨u, by simp [execOp, ho, hu], hr⟩
  case typeAssert x xt asserted ok =>
    obtain ⟨u, hu, hr⟩ := ta_run (P := P) (t := xt) (F x) h
    exact ⟨u, by simp [execOp, ho, hu], hr⟩
  case lookup t m k ok =>
    obtain ⟨u, hu, hr⟩ := lookup_run (P := P) H (F m) (F k) h
    exact ⟨u, by simp [execOp, ho, hu], hr⟩
  case unOp op t x =>
    obtain ⟨u, hu, hr⟩ := un_run (P := P) (F x) h
    exact ⟨u, by simp [execOp, ho, hu], hr⟩
  case fieldAddr s p f =>
    obtain ⟨n, hn, h⟩ := Option.bind_eq_some_iff.1 h
    obtain ⟨u, hu, hr⟩ := fieldAddr_run hn (F p) h
    exact ⟨u, by simp [execOp, ho, hu], hr⟩
  case field s x f =>
    obtain ⟨u, hu, hr⟩ := field_run (F x) h
    exact ⟨u, by simp [execOp, ho, hu], hr⟩
  case indexAddr t x i =>
    obtain ⟨u, hu, hr⟩ := indexAddr_run H (F x) (F i) h
    exact ⟨u, by simp [execOp, ho, hu], hr⟩
  case index t x i =>
    obtain ⟨u, hu, hr⟩ := index_run (P := P) (F x) (F i) h
    exact ⟨u, by simp [execOp, ho, hu], hr⟩
  case extract x i =>
    unfold absTup at h
    split at h
    · rename_i vs hx
      have hf := F x
      rw [hx] at hf
      obtain ⟨us, hu, hl, hr⟩ := hf.tup_inv
      have hlt : i < us.size := by have := (List.getElem?_eq_some_iff.1 h).1; omega
      exact ⟨us[i], by simp [execOp, ho, hu, Instr.extract, Array.getElem?_eq_getElem hlt], hr i v _ h (Array.getElem?_eq_getElem hlt)⟩
    · cases h
  case nilCheck x =>
    obtain ⟨h1, h2⟩ := nil_run (P := P) (F x) h o x ho rfl
    exact ⟨_, h1, h2⟩
  case makeInterface t x =>
    split at h
    · rename_i ht
      injection h with h
      subst h
      exact ⟨_, by simp [execOp, ho, notIface_run ht], .ifc _ _ _ (F x)⟩
    · cases h
  case makeFunc f xs ys =>
    injection h with h
    subst h
    obtain ⟨h1, h2⟩ := map_rel F xs
    obtain ⟨h3, h4⟩ := map_rel F ys
    exact ⟨_, by simp [execOp, ho, Instr.makeFunc], .fn _ _ _ _ _ h1 h3 h2 h4⟩
  case build t ps =>
    obtain ⟨u, hu, hr⟩ := build_run (P := P) (w := w) (I := I) (η := η) (qs := ps.toList.map fun p => (p.1, a.eval p.2)) (by simp) (fun i p q hp hq => by
      simp only [List.getElem?_map, Option.map_eq_some_iff] at hp hq
      obtain ⟨x, hx, rfl⟩ := hp
      obtain ⟨y, hy, rfl⟩ := hq
      rw [hx] at hy
      injection hy with hy
      subst hy
      exact ⟨rfl, F _⟩) h
    have e : (ps.map fun x => (x.1, a.eval x.2)) = (ps.toList.map fun p => (p.1, a.eval p.2)).toArray := by
      obtain ⟨l⟩ := ps
      simp
    refine ⟨u, ?_, hr⟩
    simp only [execOp, ho, Sem.run_bind]
    rw [show (Array.map (fun x => match x with | (i, x) => (i, a.eval x)) ps) = (ps.toList.map fun p => (p.1, a.eval p.2)).toArray from e, hu]
    rfl
  case convert s d x =>
    split at h
    · rename_i hs
      obtain ⟨u, hu, hr⟩ := conv_run (P := P) (Option.isSome_iff_exists.1 hs) (F x) h
      exact ⟨u, by simp [execOp, ho, hu], hr⟩
    · cases h
  case call c =>
    obtain ⟨callee, args, ts⟩ := c
    cases callee <;> simp only [reduceCtorEq] at h
    rename_i b
    have hm := map_rel F args
    have hlen' : b = .len → ∀ u, (Builtin.len_ ts o.type (args.map a.eval)).run P w = .ok u w → (execOp a.eval o).run P w = .ok (.value u) w := by
      rintro rfl u hu
      simp [execOp, ho, resolve, invoke, builtin, hu]
    have hmax' : b = .max → ∀ u, (Builtin.max_ ts o.type (args.map a.eval)).run P w = .ok u w → (execOp a.eval o).run P w = .ok (.value u) w := by
      rintro rfl u hu
      simp [execOp, ho, resolve, invoke, builtin, hu]
    have hmin' : b = .min → ∀ u, (Builtin.min_ ts o.type (args.map a.eval)).run P w = .ok u w → (execOp a.eval o).run P w = .ok (.value u) w := by
      rintro rfl u hu
      simp [execOp, ho, resolve, invoke, builtin, hu]
    split at h
    case h_2 =>
      unfold absLenMap at h
      split at h
      case h_2 => cases h
      rename_i t x hts hxs hnone
      clear hnone
      split at h
      case h_2 => cases h
      rename_i kt et hu
      obtain ⟨es, hes, rfl⟩ := Option.map_eq_some_iff.1 h
      have ha1 : args.toList.length = 1 := by have := congrArg List.length hxs; simpa using this
      obtain ⟨x0, hx0⟩ := List.length_eq_one_iff.1 ha1
      obtain rfl : args = #[x0] := by
        obtain ⟨l⟩ := args
        simp at hx0
        rw [hx0]
      simp at hxs
      have hfx := F x0
      rw [hxs] at hfx
      refine ⟨.int .i64 es.length, hlen' rfl _ ?_, .d (.int _ _)⟩
      unfold St.mapOf at hes
      split at hes
      · injection hes with hes
        subst hes
        have := hfx.mnil_inv
        simp [Builtin.len_, hts, this, run_underlying hu, goInt]
      · obtain ⟨e, he, hue⟩ := hfx.map_inv
        split at hes
        · rename_i es' clock hG
          injection hes with hes
          subst hes
          obtain ⟨o, ho', ms, rfl, hl, hr⟩ := H.ob _ e _ he hG
          have hget : (getObj e.b).run P w = .ok (.map ms clock) w := by simp [getObj, Sem.run, ho']
          simp [Builtin.len_, hts, hue, run_underlying hu, hget, goInt, hl]
        · cases hes
      · cases hes
    rename_i v0 h0
    injection h with h
    have h0 := h ▸ h0
    clear h
    have h := h0
    unfold absBuiltin at h
    split at h
    · split at h
      · rename_i t x hts hxs
        have ha1 : args.toList.length = 1 := by have := congrArg List.length hxs; simpa using this
        obtain ⟨x0, hx0⟩ := List.length_eq_one_iff.1 ha1
        obtain rfl : args = #[x0] := by
          obtain ⟨l⟩ := args
          simp at hx0
          rw [hx0]
        simp at hxs
        subst hxs
        obtain ⟨u, hu, hr⟩ := len_run (P := P) (ty := o.type) (F x0) h
        refine ⟨u, hlen' rfl u ?_, hr⟩
        have hu2 : (Builtin.len_ ts o.type (#[x0].map a.eval)).run P w = .ok u w := by
          have : (Builtin.len_ ts o.type (#[x0].map a.eval)) = (Builtin.len_ #[t] o.type #[a.eval x0]) := by
            simp [Builtin.len_, hts]
          rw [this]
          exact hu
        exact hu2
      · cases h
    · unfold absMm at h
      split at h
      · cases h
      · rename_i x rest hxs
        obtain ⟨hl, hr⟩ := hm
        rw [hxs] at hl hr
        have hus : ∃ p us, (args.map a.eval).toList = p :: us ∧ us.length = rest.length := by
          cases hq : (args.map a.eval).toList with
          | nil => rw [← Array.length_toList, hq] at hl; simp at hl
          | cons p us => rw [← Array.length_toList, hq] at hl; exact ⟨p, us, rfl, by simpa using hl.symm⟩
        obtain ⟨p, us, hq, hlen⟩ := hus
        have hget : ∀ i, (args.map a.eval)[i]? = (p :: us)[i]? := fun i => by rw [← hq, Array.getElem?_toList]
        obtain ⟨u, hu, hrel⟩ := foldlM_run (P := P) (mx := true) rest us x p v hlen.symm (fun i y q h1 h2 => hr (i + 1) y q (by simpa using h1) (by rw [hget]; simpa using h2)) (hr 0 x p rfl (by rw [hget]; rfl)) h
        refine ⟨u, hmax' rfl u ?_, hrel⟩
        simp only [Builtin.max_, hq]
        simpa only [if_true] using hu
    · unfold absMm at h
      split at h
      · cases h
      · rename_i x rest hxs
        obtain ⟨hl, hr⟩ := hm
        rw [hxs] at hl hr
        have hus : ∃ p us, (args.map a.eval).toList = p :: us ∧ us.length = rest.length := by
          cases hq : (args.map a.eval).toList with
          | nil => rw [← Array.length_toList, hq] at hl; simp at hl
          | cons p us => rw [← Array.length_toList, hq] at hl; exact ⟨p, us, rfl, by simpa using hl.symm⟩
        obtain ⟨p, us, hq, hlen⟩ := hus
        have hget : ∀ i, (args.map a.eval)[i]? = (p :: us)[i]? := fun i => by rw [← hq, Array.getElem?_toList]
        obtain ⟨u, hu, hrel⟩ := foldlM_run (P := P) (mx := false) rest us x p v hlen.symm (fun i y q h1 h2 => hr (i + 1) y q (by simpa using h1) (by rw [hget]; simpa using h2)) (hr 0 x p rfl (by rw [hget]; rfl)) h
        refine ⟨u, hmin' rfl u ?_, hrel⟩
        simp only [Builtin.min_, hq]
        simpa only [Bool.false_eq_true, if_false] using hu
    · cases h
end
end Go.Ab
