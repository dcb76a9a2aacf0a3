/- Ab, part 34: days.lengths and MaxLen, out of a row's premises. -/
import Derived.Test.YtlflddcbfbdldaaGreatDoorT4
import Derived.FnData
import Derived.Shelf.Vars
namespace Go.Ab
open Go Go.Proofs

def lensD : DataW Unit := .agg (lens.map fun n => .lit (.int .i64 n))

theorem trod_int_inv {P : Program} {w : World} {fuel : Nat} {t : TypeId} {k : IntKind} (hu : P.underlying t = some (.int k)) {cs : List Value} {n : Int} {q : IntKind} {p : List MemPlace}
    (h : DataW.trod (fun _ => ()) P w 0 (fun _ => true) false fuel t cs = some (.lit (.int q n), p)) : cs = [.int q n] := by
  cases fuel with
  | zero => simp [DataW.trod] at h
  | succ fuel =>
    simp only [DataW.trod, hu] at h
    obtain ⟨q', m, rfl⟩ : ∃ q' m, cs = [.int q' m] := by
      rcases cs with _ | ⟨v, _ | ⟨v2, l⟩⟩
      · simp at h
      · cases v <;> first | (simp at h; done) | exact ⟨_, _, rfl⟩
      · cases v <;> simp at h
    simp only at h
    split at h
    · rename_i hc
      simp only [Option.some.injEq, Prod.mk.injEq, DataW.lit.injEq, Lit.int.injEq] at h
      obtain ⟨⟨rfl, rfl⟩, _⟩ := h
      rw [hc.1]
    · cases h

theorem lens_of_laid {P : Program} {w : World} {name : String} {t e : TypeId} (hg : P.globalNamed name = some 1) (ht : (P.globals[1]?).map (·.type) = some t) (hu : P.underlying t = some (.array 12 e)) (hc : P.cellsOf e = 1) (he : P.underlying e = some (.int .i64))
    {rest : List (String × DataW Unit)} (h' : laidMet P ((name, lensD) :: rest) w) : ∀ (i : Nat) (n : Int), lens[i]? = some n → w.cell? ⟨1, i, none⟩ = some (.int .i64 n) := by
  obtain ⟨ps, ⟨g, t', cs, fuel, p, q, h1, h2, h3, h4, _⟩, _⟩ := h'
  obtain rfl : g = 1 := Option.some.inj (h1.symm.trans hg)
  obtain rfl : t' = t := Option.some.inj (h2.symm.trans ht)
  intro i n hn
  rw [World.var?_cell hg h3 i]
  cases fuel with
  | zero => simp [DataW.trod] at h4
  | succ fuel =>
    simp only [DataW.trod, hu] at h4
    have h4 : (if cs.toList.length = P.cellsOf t' then ((List.range 12).mapM fun i => DataW.trod (fun _ => ()) P w 0 (fun _ => true) false fuel e ((cs.toList.drop (i * P.cellsOf e)).take (P.cellsOf e))).map fun xs => (DataW.agg (xs.map (·.1)), xs.flatMap (·.2)) else none) = some (lensD, p) := h4
    split at h4
    case isFalse => cases h4
    obtain ⟨xs, hxs, hx⟩ := Option.map_eq_some_iff.1 h4
    obtain ⟨hl, hget⟩ := mapM_get hxs
    simp only [lensD, Prod.mk.injEq, DataW.agg.injEq] at hx
    have hi : i < 12 := by have := (List.getElem?_eq_some_iff.1 hn).1; simpa [lens] using this
    obtain ⟨x, hx1, hx2⟩ := hget i i (by simp [hi])
    have hxi : x.1 = .lit (.int .i64 n) := by
      have := congrArg (·[i]?) hx.1
      simp only [List.getElem?_map, hx2, hn, Option.map_some, Option.some.injEq] at this
      exact this
    obtain ⟨x1, x2⟩ := x
    simp only at hxi
    subst hxi
    have := trod_int_inv he hx1
    rw [hc, Nat.mul_one] at this
    have h0 := congrArg (·[0]?) this
    simpa [List.getElem?_take, List.getElem?_drop] using h0
end Go.Ab
