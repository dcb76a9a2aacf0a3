/- Ab, part 3: operations that leave memory as it is: what they yield over an abstract state is what the machine yields. -/
import Derived.Test.YtlflddcbfbdldaaGreatDoorA2
namespace Go.Ab
open Go

section
variable {P : Program}
theorem shape_agg {t : TypeId} {b : Bool} {n : Nat} (h : shape P t = some (b, n)) (w : World) : (isAgg t).run P w = .ok b w ∧ (sizeOf t).run P w = .ok n w ∧ (b = false → n = 1) := by
  unfold shape at h
  obtain ⟨d, hu, h⟩ := Option.bind_eq_some_iff.1 h
  obtain ⟨i, hi, h⟩ := Option.bind_eq_some_iff.1 h
  have hagg : (isAgg t).run P w = .ok (aggD d) w := by
    unfold isAgg
    rw [Sem.run_bind, run_underlying hu]
    cases d <;> rfl
  split at h
  · rename_i hd
    simp only [Option.some.injEq, Prod.mk.injEq] at h
    obtain ⟨rfl, rfl⟩ := h
    exact ⟨by rw [hagg, hd], by simp [sizeOf, typeInfo, hi], fun h => by simp at h⟩
  · rename_i hd
    split at h
    · rename_i hsz
      simp only [Option.some.injEq, Prod.mk.injEq] at h
      obtain ⟨rfl, rfl⟩ := h
      exact ⟨by rw [hagg]; simp at hd; rw [hd], by simp [sizeOf, typeInfo, hi, hsz], fun _ => rfl⟩
    · cases h

/-- Some cells of a list: one, or several from a place on. -/
def takeCells (agg : Bool) (n : Nat) (cs : List V) (off : Nat) : Option V :=
  if agg then (if off + n ≤ cs.length then some (.agg ((cs.drop off).take n)) else none) else cs[off]?

/-- A read of cells that lie at an address. -/
theorem run_loadVar_cells {t : TypeId} {agg : Bool} {n : Nat} (hs : shape P t = some (agg, n)) {w : World} {I : Nat → Prop} {η : List Blk} {cs : List V} {off : Nat} {v : V} (h : takeCells agg n cs off = some v)
    (b o : Nat) (hc : ∀ (j : Nat) (x : V), cs[j]? = some x → ∃ u, w.cell? ⟨b, o + j, none⟩ = some u ∧ Rel w I η x u) :
    ∃ u, (loadVar t ⟨b, o + off, none⟩).run P w = .ok u w ∧ Rel w I η v u := by
  obtain ⟨h1, h2, h3⟩ := shape_agg hs w
  unfold takeCells at h
  cases agg with
  | false =>
    simp only [Bool.false_eq_true, if_false] at h
    obtain ⟨u, hu, hr⟩ := hc off v h
    exact ⟨u, by simp [loadVar, h1, hu], hr⟩
  | true =>
    simp only [if_true] at h
    split at h
    · rename_i hle
      injection h with h
      subst h
      have hall : ∀ j, j < n → ∃ u, w.cell? ⟨b, o + off + j, none⟩ = some u ∧ ∀ x, cs[off + j]? = some x → Rel w I η x u := by
        intro j hj
        have hlt : off + j < cs.length := by omega
        obtain ⟨u, hu, hr⟩ := hc (off + j) _ (List.getElem?_eq_getElem hlt)
        refine ⟨u, by rw [Nat.add_assoc]; exact hu, fun x hx => ?_⟩
        rw [List.getElem?_eq_getElem hlt] at hx
        injection hx with hx
        subst hx
        exact hr
      let f : Nat → Value := fun j => ((w.cell? ⟨b, o + off + j, none⟩).getD default)
      have hf : ∀ j, j < n → w.cell? ((⟨b, o + off, none⟩ : Addr).add j) = some (f j) := by
        intro j hj
        obtain ⟨u, hu, _⟩ := hall j hj
        have ha : (⟨b, o + off, none⟩ : Addr).add j = ⟨b, o + off + j, none⟩ := by unfold Addr.add; split <;> simp_all
        rw [ha, hu]
        simp [f, hu]
      have hl := run_loadCells (P := P) w ⟨b, o + off, none⟩ n f hf
      refine ⟨.agg _, by simp [loadVar, h1, h2, hl]; rfl, .agg _ _ ?_ ?_⟩
      · simp; omega
      · intro i x u hx hu
        rw [List.getElem?_take] at hx
        split at hx
        · rename_i hi
          rw [List.getElem?_drop] at hx
          obtain ⟨u', hu', hr⟩ := hall i hi
          have hfi : f i = u' := by simp only [f, hu', Option.getD_some]
          have : u = u' := by
            have h5 : ((List.range n).map f).toArray[i]? = some (f i) := by simp [hi]
            rw [h5, hfi] at hu
            injection hu with hu
            exact hu.symm
          subst this
          exact hr x hx
        · cases hx
    · cases h

/-! ### Reads of memory -/
/-- The cells behind a pointer, and where in them it points. -/
def St.behind (st : St) : V → Option (List V × Nat)
  | .ptr i off => match st.G[i]? with | some (.box _ cs) => some (cs, off) | _ => none
  | .rp i idx off => match st.G[i]? with | some (.row _ _ _ xs) => (xs[idx]?).map fun x => (x, off) | _ => none
  | .ep xs i off => (xs[i]?).map fun x => (x, off)
  | _ => none

def absLoad (P : Program) (st : St) (t : TypeId) (p : V) : Option V :=
  (shape P t).bind fun s => (st.behind p).bind fun c => takeCells s.1 s.2 c.1 c.2

variable {st : St} {a : Act} {w : World} {U I : Nat → Prop} {η : List Blk}
/-- What a pointer points at lies in memory. -/
theorem behind_cells (H : WR st a w U I η) {p : V} {u : Value} (hp : Rel w I η p u) {cs : List V} {off : Nat} (h : st.behind p = some (cs, off)) :
    ∃ b o, u = .pointer (some ⟨b, o + off, none⟩) ∧ ∀ (j : Nat) (x : V), cs[j]? = some x → ∃ y, w.cell? ⟨b, o + j, none⟩ = some y ∧ Rel w I η x y := by
  unfold St.behind at h
  split at h
  · rename_i i off'
    obtain ⟨e, he, rfl⟩ := hp.ptr_inv
    split at h
    · rename_i fz cs' hG
      simp only [Option.some.injEq, Prod.mk.injEq] at h
      obtain ⟨rfl, rfl⟩ := h
      obtain ⟨vs, t, h1, h2, h3⟩ := H.ob i e _ he hG
      refine ⟨e.b, 0, by rw [Nat.zero_add], fun j x hx => ?_⟩
      have hj : j < vs.size := by have := (List.getElem?_eq_some_iff.1 hx).1; omega
      rw [Nat.zero_add]
      refine ⟨vs[j], ?_, h3 j x _ hx (Array.getElem?_eq_getElem hj)⟩
      rw [cell_of_row w e.b j vs t (0, 0) h1, Array.getElem?_eq_getElem hj]
    · cases h
  · rename_i i idx off'
    obtain ⟨e, he, rfl⟩ := hp.rp_inv
    split at h
    · rename_i fz t sz xs hG
      obtain ⟨x0, hx0, h⟩ := Option.map_eq_some_iff.1 h
      simp only [Prod.mk.injEq] at h
      obtain ⟨rfl, rfl⟩ := h
      obtain ⟨h1, h2, h3, h4, h5, vs, h6, h7, h8⟩ := H.ob i e _ he hG
      refine ⟨e.b, idx * e.sz, rfl, fun j x hx => ?_⟩
      have hl := h3 idx x0 hx0
      have hidx : idx < xs.length := (List.getElem?_eq_some_iff.1 hx0).1
      have hjl : j < sz := by have := (List.getElem?_eq_some_iff.1 hx).1; omega
      have hj : idx * sz + j < vs.size := by
        rw [h7]
        have : (idx + 1) * sz ≤ e.cap * sz := Nat.mul_le_mul_right _ (by omega)
        rw [Nat.succ_mul] at this
        omega
      rw [h1]
      refine ⟨vs[idx * sz + j], ?_, h8 idx x0 j x _ hx0 hx (Array.getElem?_eq_getElem hj)⟩
      rw [cell_of_row w e.b _ vs t (0, 0) h6, Array.getElem?_eq_getElem hj]
    · cases h
  · rename_i xs i off'
    obtain ⟨x0, hx0, h⟩ := Option.map_eq_some_iff.1 h
    simp only [Prod.mk.injEq] at h
    obtain ⟨rfl, rfl⟩ := h
    cases hp.ep_inv with
    | ep xs i off sz ad vals hi ha hsz h1 h2 =>
      refine ⟨ad.block, ad.off + i * sz, by rw [Nat.add_assoc], fun j x hx => ⟨vals i j, ?_, .d (h2 i _ j x hx0 hx)⟩⟩
      rw [Nat.add_assoc]
      exact h1 i _ j x hx0 hx
  · cases h

theorem absLoad_run (H : WR st a w U I η) {t : TypeId} {p v : V} {x : Value} (hp : Rel w I η p x) (h : absLoad P st t p = some v) :
    ∃ u, (Instr.loadAt t x).run P w = .ok u w ∧ Rel w I η v u := by
  unfold absLoad at h
  obtain ⟨⟨agg, n⟩, hs, h⟩ := Option.bind_eq_some_iff.1 h
  obtain ⟨⟨cs, off⟩, hb, h⟩ := Option.bind_eq_some_iff.1 h
  obtain ⟨b, o, rfl, hc⟩ := behind_cells H hp hb
  obtain ⟨u, hu, hr⟩ := run_loadVar_cells hs h b o hc
  exact ⟨u, by simp [Instr.loadAt, Instr.sureAddr, hu], hr⟩
end
end Go.Ab
