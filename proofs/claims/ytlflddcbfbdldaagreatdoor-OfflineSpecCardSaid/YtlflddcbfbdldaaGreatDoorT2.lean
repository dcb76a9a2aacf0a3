/- Ab, part 31: a row's arguments as abstract values; what lay below stands. -/
import Derived.Test.YtlflddcbfbdldaaGreatDoorT1
import Derived.Below
namespace Go.Ab
open Go Go.RowKit

/-- A value of a type, as an abstract value. -/
def typedV (P : Program) (t : TypeId) (v : V) : Prop := ∃ d vs, typed P d t vs ∧ ((match P.underlying t with | some (.struct _) | some (.array _ _) => true | _ => false) = true ∧ v = .agg vs ∨
  (match P.underlying t with | some (.struct _) | some (.array _ _) => true | _ => false) = false ∧ vs = [v])

section
variable {P : Program} {w : World} {H : Type} {enc : TypeId × Value → H} {base : Nat} {spare : Nat → Bool} {held : Bool}

theorem trod_typedV {d : Nat} {t : TypeId} (hp : plainT P d t = true) {u : Value} (hf : u.formed P t = true) {x : DataW H} {p : List MemPlace} (h : DataW.Trod enc P w base spare held t u x p) : ∃ v, RelD w (· < w.heap.size) v u ∧ typedV P t v := by
  obtain ⟨fuel, h⟩ := h
  obtain ⟨hl, vs, hr, ht⟩ := trod_typed d t hp fuel _ _ h
  cases hu : P.underlying t with
  | none => cases d <;> simp [plainT, hu] at hp
  | some k =>
    unfold Value.formed at hf
    cases u with
    | agg cs =>
      have hagg : (match P.underlying t with | some (.struct _) | some (.array _ _) => true | _ => false) = true := by
        rw [hu] at hf ⊢
        cases k <;> simp at hf ⊢
      refine ⟨.agg vs, .agg vs cs (by simpa [Value.cells] using hr.1) (fun i v u hv hu => hr.2 i v u hv (by simpa [Value.cells] using hu)), d, vs, ht, .inl ⟨hagg, rfl⟩⟩
    | tuple cs => simp at hf
    | _ =>
      all_goals
        have hagg : (match P.underlying t with | some (.struct _) | some (.array _ _) => true | _ => false) = false := by
          rw [hu] at hf ⊢
          cases k <;> simp at hf ⊢
        have hl1 : vs.length = 1 := by simpa [Value.cells] using hr.1
        obtain ⟨v, rfl⟩ := List.length_eq_one_iff.1 hl1
        exact ⟨v, hr.2 0 v _ rfl (by simp [Value.cells]), d, [v], ht, .inr ⟨hagg, rfl⟩⟩

theorem formed_of_ok {d : Nat} {t : TypeId} (hp : plainT P d t = true) {u : Value} {r : Reach} {b : Nat} (h : Value.okWide P w r b t u) : u.formed P t = true := by
  unfold Value.okWide at h
  cases d with
  | zero => simp [plainT] at hp
  | succ d =>
    simp only [plainT] at hp
    cases hu : P.underlying t with
    | none => simp [hu] at hp
    | some k =>
      rw [hu] at h hp
      unfold Value.formed
      cases k <;> simp only [Bool.false_eq_true] at hp h
      case struct fs => obtain ⟨cs, rfl, hs, _⟩ := h; simp [hu, hs]
      case array n e => obtain ⟨cs, rfl, hs, _⟩ := h; simp [hu, hs]
      all_goals
        unfold Cell.okWide Cell.ok at h
        rw [hu] at h
        cases u <;> first | (simp at h; done) | simp [hu]

/-- All of a row's arguments. -/
theorem trodAll_typed {d : Nat} {r : Reach} {b : Nat} : ∀ (ts : List TypeId) (us : List Value) (ds : List (DataW H)) (p : List MemPlace), (∀ t ∈ ts, plainT P d t = true) → DataW.TrodAll enc P w base spare held ts us ds p →
    (∀ (j : Nat) t u, ts[j]? = some t → us[j]? = some u → Value.okWide P w r b t u) → ∃ vs : List V, vs.length = us.length ∧ ts.length = us.length ∧
      (∀ (j : Nat) (t : TypeId) (v : V) (u : Value), ts[j]? = some t → vs[j]? = some v → us[j]? = some u → RelD w (· < w.heap.size) v u ∧ typedV P t v)
  | [], us, ds, p, _, h, _ => by
    cases us with
    | nil => exact ⟨[], rfl, rfl, fun j t v u h => by simp at h⟩
    | cons u us => cases ds <;> simp [DataW.TrodAll] at h
  | t :: ts, us, ds, p, hp, h, hok => by
    cases us with
    | nil => cases ds <;> simp [DataW.TrodAll] at h
    | cons u us =>
      cases ds with
      | nil => simp [DataW.TrodAll] at h
      | cons dd ds =>
        obtain ⟨p1, q1, h1, h2, _⟩ := h
        have hpt := hp t List.mem_cons_self
        obtain ⟨v, hr, ht⟩ := trod_typedV hpt (formed_of_ok hpt (hok 0 t u rfl rfl)) h1
        obtain ⟨vs, hl1, hl2, hall⟩ := trodAll_typed ts us ds q1 (fun t ht => hp t (List.mem_cons_of_mem _ ht)) h2 (fun j t u h1 h2 => hok (j + 1) t u (by simpa using h1) (by simpa using h2))
        refine ⟨v :: vs, by simp [hl1], by simp [hl2], fun j t' v' u' a1 a2 a3 => ?_⟩
        cases j with
        | zero => simp at a1 a2 a3; subst a1; subst a2; subst a3; exact ⟨hr, ht⟩
        | succ j => exact hall j t' v' u' (by simpa using a1) (by simpa using a2) (by simpa using a3)

/-- What is left alone: all that there was. -/
theorem Keep.below {w w' : World} {I : Nat → Prop} (h : Keep (· < w.heap.size) I w w') : Below w.heap.size w w' := ⟨h.os, h.tape, h.output, h.size, fun k hk => h.block k (.inl hk)⟩
end
end Go.Ab
