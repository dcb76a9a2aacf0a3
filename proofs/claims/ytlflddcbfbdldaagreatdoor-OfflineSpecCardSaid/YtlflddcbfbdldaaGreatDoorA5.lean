/- Ab, part 5: the rest of the operations that leave memory as it is; one function for all of them. -/
import Derived.Test.YtlflddcbfbdldaaGreatDoorA4
namespace Go.Ab
open Go

def fieldShape (P : Program) (s : TypeId) (f : Nat) : Option (Nat × (Bool × Nat)) :=
  match P.underlying s with
  | some (.struct fs) => (fs[f]?).bind fun fd => (shape P fd.type).map fun x => (fd.offset, x)
  | _ => none
def arrShape (P : Program) (t : TypeId) : Option (Nat × (Bool × Nat)) :=
  match P.underlying t with
  | some (.array n e) => (shape P e).bind fun x => (P.info? e).bind fun i => if i.size = x.2 then some (n, x) else none
  | _ => none

def absIndexA (P : Program) (t : TypeId) (x i : V) : Option V :=
  match i, x with
  | .int _ n, .agg cs => (arrShape P t).bind fun s => if 0 ≤ n ∧ n < s.1 then takeCells s.2.1 s.2.2 cs (n.toNat * s.2.2) else none
  | _, _ => absIndex P t x i

def absField (P : Program) (t : TypeId) (x : V) (f : Nat) : Option V :=
  match x with
  | .agg cs => (fieldShape P t f).bind fun s => takeCells s.2.1 s.2.2 cs s.1
  | _ => none

/-- A struct or array type all of whose parts' sizes are known. -/
def buildOk (P : Program) (t : TypeId) : Bool :=
  match P.underlying t with
  | some (.struct fs) => fs.all fun f => (P.info? f.type).isSome
  | some (.array _ e) => (P.info? e).isSome
  | _ => false
def absBuild (P : Program) (t : TypeId) (ps : List (Nat × V)) : Option V :=
  if buildOk P t = true then (zeroV P t).bind fun z => (fillV (place P t) ps z).map .agg else none

section
variable {P : Program} {st : St} {a : Act} {w : World} {U I : Nat → Prop} {η : List Blk}

theorem part_run {t : TypeId} {agg : Bool} {n : Nat} (hs : shape P t = some (agg, n)) {cs : List V} {vs : Array Value} (hr : RelL w I η cs vs) {off : Nat} {v : V} (h : takeCells agg n cs off = some v) :
    ∃ u, (part t vs off).run P w = .ok u w ∧ Rel w I η v u := by
  obtain ⟨h1, h2, h3⟩ := shape_agg hs w
  unfold takeCells at h
  cases agg with
  | false =>
    simp only [Bool.false_eq_true, if_false] at h
    have hlt : off < vs.size := by have := (List.getElem?_eq_some_iff.1 h).1; have := hr.1; omega
    refine ⟨vs[off], ?_, hr.2 off v _ h (Array.getElem?_eq_getElem hlt)⟩
    simp [part, h1, Array.getElem?_eq_getElem hlt]
  | true =>
    simp only [if_true] at h
    split at h
    · rename_i hle
      injection h with h
      subst h
      refine ⟨.agg (vs.extract off (off + n)), by simp [part, h1, h2], .agg _ _ ?_ ?_⟩
      · have := hr.1; simp; omega
      · intro i x u hx hu
        rw [List.getElem?_take] at hx
        split at hx
        · rw [List.getElem?_drop] at hx
          rw [Array.getElem?_extract] at hu
          split at hu
          · exact hr.2 _ x u hx hu
          · cases hu
        · cases hx
    · cases h

theorem index_run {t : TypeId} {x i v : V} {y j : Value} (hx : Rel w I η x y) (hi : Rel w I η i j) (h : absIndexA P t x i = some v) :
    ∃ u, (Instr.index t y j).run P w = .ok u w ∧ Rel w I η v u := by
  unfold absIndexA at h
  split at h
  · rename_i k n cs
    obtain rfl := hi.int_inv
    obtain ⟨vs, rfl, hl, hr⟩ := hx.agg_inv
    obtain ⟨⟨m, agg, sz⟩, hs, h⟩ := Option.bind_eq_some_iff.1 h
    split at h
    · rename_i h0
      simp only at h0 h
      unfold arrShape at hs
      split at hs
      · rename_i m' e hu
        obtain ⟨x, hx, hs⟩ := Option.bind_eq_some_iff.1 hs
        obtain ⟨inf, hinf, hs⟩ := Option.bind_eq_some_iff.1 hs
        split at hs
        · rename_i hsz
          simp only [Option.some.injEq, Prod.mk.injEq] at hs
          obtain ⟨rfl, rfl⟩ := hs
          obtain ⟨u, hu', hrel⟩ := part_run (P := P) hx (vs := vs) ⟨hl, hr⟩ h
          refine ⟨u, ?_, hrel⟩
          simp only at hsz
          simp [Instr.index, asIntOf, run_underlying hu, h0, sizeOf, typeInfo, hinf, hsz, hu']
        · cases hs
      · cases hs
    · cases h
  · unfold absIndex at h
    split at h
    · rename_i k n
      obtain rfl := hi.int_inv
      split at h
      · rename_i s
        obtain rfl := hx.str_inv
        split at h
        · rename_i h0
          obtain ⟨ht, h0⟩ := h0
          split at h
          · rename_i hlt
            injection h with h
            subst h
            unfold isStrT at ht
            split at ht
            · rename_i hu
              refine ⟨_, ?_, .d (.int _ _)⟩
              rw [run_index_string (P := P) w t s _ _ hu, dif_pos ⟨h0, by omega⟩]
            · cases ht
          · cases h
        · cases h
      · cases h
    · cases h

theorem field_run {t : TypeId} {x v : V} {f : Nat} {y : Value} (hx : Rel w I η x y) (h : absField P t x f = some v) :
    ∃ u, (Instr.field t y f).run P w = .ok u w ∧ Rel w I η v u := by
  unfold absField at h
  split at h
  · rename_i cs
    obtain ⟨vs, rfl, hl, hr⟩ := hx.agg_inv
    obtain ⟨⟨off, agg, n⟩, hs, h⟩ := Option.bind_eq_some_iff.1 h
    unfold fieldShape at hs
    split at hs
    · rename_i fs hu
      obtain ⟨fd, hfd, hs⟩ := Option.bind_eq_some_iff.1 hs
      obtain ⟨x, hx, hs⟩ := Option.map_eq_some_iff.1 hs
      simp only [Prod.mk.injEq] at hs
      obtain ⟨rfl, rfl⟩ := hs
      obtain ⟨u, hu', hrel⟩ := part_run (P := P) hx (vs := vs) ⟨hl, hr⟩ h
      exact ⟨u, by simp [Instr.field, run_underlying hu, hfd, asAgg, hu'], hrel⟩
    · cases hs
  · cases h

theorem len_run {t ty : TypeId} {x v : V} {y : Value} (hx : Rel w I η x y) (h : absLen P t x = some v) :
    ∃ u, (Builtin.len_ #[t] ty #[y]).run P w = .ok u w ∧ Rel w I η v u := by
  unfold absLen at h
  split at h
  · obtain rfl := hx.str_inv
    split at h
    · rename_i ht
      injection h with h
      subst h
      unfold isStrT at ht
      split at ht
      · rename_i hu
        exact ⟨_, by simp [Builtin.len_, run_underlying hu, goInt], .d (.int _ _)⟩
      · cases ht
    · cases h
  · split at h
    · rename_i ht
      injection h with h
      subst h
      unfold isSlT at ht
      split at ht
      · rename_i hu
        cases hx.sl_inv with
        | sl xs nil a c sz ad vals hn hc0 ha hc hsz h1 h2 =>
          exact ⟨_, by simp [Builtin.len_, run_underlying hu, goInt], .d (.int _ _)⟩
      · cases ht
    · cases h
  · split at h
    · rename_i ht
      injection h with h
      subst h
      unfold isSlT at ht
      split at ht
      · rename_i hu
        obtain ⟨e, he, rfl⟩ := hx.row_inv
        exact ⟨_, by simp [Builtin.len_, run_underlying hu, goInt], .d (.int _ _)⟩
      · cases ht
    · cases h
  · cases h

theorem un_run {op : UnOp} {x v : V} {y : Value} (hx : Rel w I η x y) (h : absUn op x = some v) :
    ∃ u, (Op.unary op y).run P w = .ok u w ∧ Rel w I η v u := by
  unfold absUn at h
  split at h
  · obtain rfl := hx.bool_inv
    injection h with h
    subst h
    exact ⟨_, by simp [Op.unary], .d (.bool _)⟩
  · obtain rfl := hx.int_inv
    injection h with h
    subst h
    exact ⟨_, by simp [Op.unary, Op.intArith], .d (.int _ _)⟩
  · cases h

theorem pick_rel {c : Bool} {x y : V} {p q : Value} (hx : Rel w I η x p) (hy : Rel w I η y q) : Rel w I η (absPick c x y) (if c then p else q) := by
  unfold absPick
  split
  · obtain rfl := hx.bool_inv
    obtain rfl := hy.bool_inv
    cases c <;> exact .d (.bool _)
  · cases c
    · exact hy
    · exact hx

theorem mm2_run {mx : Bool} {x y v : V} {p q : Value} (hx : Rel w I η x p) (hy : Rel w I η y q) (h : absMm2 mx x y = some v) :
    ∃ u, (if mx then Builtin.max2 p q else Builtin.min2 p q).run P w = .ok u w ∧ Rel w I η v u := by
  unfold absMm2 at h
  split at h
  · obtain rfl := hx.int_inv
    obtain rfl := hy.int_inv
    split at h
    · rename_i hk
      subst hk
      injection h with h
      subst h
      cases mx
      · exact ⟨_, by simp [Builtin.min2], .d (.int _ _)⟩
      · exact ⟨_, by simp [Builtin.max2], .d (.int _ _)⟩
    · cases h
  · cases h

theorem foldlM_run {mx : Bool} : ∀ (xs : List V) (us : List Value) (x : V) (p : Value) (v : V), xs.length = us.length → (∀ (i : Nat) (y : V) (q : Value), xs[i]? = some y → us[i]? = some q → Rel w I η y q) → Rel w I η x p →
    xs.foldlM (absMm2 mx) x = some v → ∃ u, (us.foldlM (fun a b => if mx then Builtin.max2 a b else Builtin.min2 a b) p).run P w = .ok u w ∧ Rel w I η v u
  | [], us, x, p, v, hl, _, hx, h => by
    obtain rfl : us = [] := List.eq_nil_of_length_eq_zero (by simpa using hl.symm)
    simp only [List.foldlM_nil, Option.pure_def, Option.some.injEq] at h
    subst h
    exact ⟨p, by simp, hx⟩
  | y :: ys, us, x, p, v, hl, hr, hx, h => by
    cases us with
    | nil => simp at hl
    | cons q qs =>
      simp only [List.foldlM_cons, Option.bind_eq_bind] at h
      obtain ⟨z, hz, h⟩ := Option.bind_eq_some_iff.1 h
      obtain ⟨u, hu, hzr⟩ := mm2_run (P := P) hx (hr 0 y q rfl rfl) hz
      obtain ⟨u', hu', hr'⟩ := foldlM_run ys qs z u v (by simpa using hl) (fun i y q h1 h2 => hr (i + 1) y q (by simpa using h1) (by simpa using h2)) hzr h
      exact ⟨u', by simp [List.foldlM_cons, hu, hu'], hr'⟩

theorem RelL.cells {v : V} {u : Value} (h : Rel w I η v u) (hw : v.whole = true) : RelL w I η v.cells u.cells := by
  cases v with
  | agg cs =>
    obtain ⟨vs, rfl, hl, hr⟩ := h.agg_inv
    exact ⟨hl, hr⟩
  | undef => simp [V.whole, V.one] at hw
  | tup vs => simp [V.whole, V.one] at hw
  | _ =>
    have h1 := h.one rfl
    have hc : u.cells = #[u] := by cases u <;> first | rfl | simp [Value.oneCell'] at h1
    rw [hc]
    refine ⟨rfl, fun i v' u' hv' hu' => ?_⟩
    cases i with
    | zero =>
      simp [V.cells] at hv' hu'
      subst hv'
      subst hu'
      exact h
    | succ i => simp at hu'
end
end Go.Ab
