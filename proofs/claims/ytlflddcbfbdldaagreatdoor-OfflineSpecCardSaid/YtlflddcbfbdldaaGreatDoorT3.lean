/- Ab, part 32: the start of a row's call. -/
import Derived.Test.YtlflddcbfbdldaaGreatDoorT2
namespace Go.Ab
open Go Go.RowKit

def lens : List Int := [31, 29, 31, 30, 31, 30, 31, 31, 30, 31, 30, 31]
theorem cell_lt {w : World} {a : Addr} {v : Value} (h : w.cell? a = some v) : a.block < w.heap.size := by
  unfold World.cell? at h
  split at h
  · rename_i hh; exact (Array.getElem?_eq_some_iff.1 hh).1
  · cases h
theorem glb_mk {w : World} (hl : ∀ (i : Nat) (n : Int), lens[i]? = some n → w.cell? ⟨1, i, none⟩ = some (.int .i64 n)) (hm : ∃ m, w.cell? ⟨2, 0, none⟩ = some (.int .i64 m)) :
    ∀ g, RelD w (· < w.heap.size) (gl g) (.pointer (some ⟨g, 0, none⟩)) := by
  intro g
  unfold gl
  split
  · rename_i hg
    subst hg
    have e : ([[.int .i64 31, .int .i64 29, .int .i64 31, .int .i64 30, .int .i64 31, .int .i64 30, .int .i64 31, .int .i64 31, .int .i64 30, .int .i64 31, .int .i64 30, .int .i64 31]] : List (List V)) = [lens.map (.int .i64)] := rfl
    rw [e]
    have h0 := cell_lt (hl 0 31 rfl)
    have key := RelD.ep (w := w) (I := (· < w.heap.size)) [lens.map (V.int .i64)] 0 0 12 ⟨1, 0, none⟩ (fun _ j => .int .i64 ((lens[j]?).getD 0)) (by simp) ⟨h0, rfl⟩ (fun i x hx => by
      cases i with
      | zero => simp at hx; subst hx; rfl
      | succ i => simp at hx) (fun i x j v hx hv => by
      cases i with
      | zero =>
        simp at hx
        subst hx
        rw [List.getElem?_map] at hv
        obtain ⟨n, hn, rfl⟩ := Option.map_eq_some_iff.1 hv
        simp only [Nat.zero_mul, Nat.zero_add, hl j n hn, hn, Option.getD_some]
      | succ i => simp at hx) (fun i x j v hx hv => by
      cases i with
      | zero =>
        simp at hx
        subst hx
        rw [List.getElem?_map] at hv
        obtain ⟨n, hn, rfl⟩ := Option.map_eq_some_iff.1 hv
        rw [hn]
        exact .int _ _
      | succ i => simp at hx)
    exact key
  · split
    · rename_i hg
      subst hg
      obtain ⟨m, hm⟩ := hm
      have h0 := cell_lt hm
      have key := RelD.ep (w := w) (I := (· < w.heap.size)) [[V.anyI .i64]] 0 0 1 ⟨2, 0, none⟩ (fun _ _ => .int .i64 m) (by simp) ⟨h0, rfl⟩ (fun i x hx => by
        cases i with
        | zero => simp at hx; subst hx; rfl
        | succ i => simp at hx) (fun i x j v hx hv => by
        cases i with
        | zero =>
          simp at hx
          subst hx
          cases j with
          | zero => simpa using hm
          | succ j => simp at hv
        | succ i => simp at hx) (fun i x j v hx hv => by
        cases i with
        | zero =>
          simp at hx
          subst hx
          cases j with
          | zero => simp at hv; subst hv; exact .anyI _ _
          | succ j => simp at hv
        | succ i => simp at hx)
      exact key
    · exact .undef _

/-- The start: no objects; all that there is is left alone, and read. -/
theorem WG.begin {w : World} (hg : ∀ g, RelD w (· < w.heap.size) (gl g) (.pointer (some ⟨g, 0, none⟩))) : WG [] w (· < w.heap.size) (· < w.heap.size) [] :=
  ⟨rfl, rfl, fun k h => h.elim id id, fun i j e e' o o' h => by simp at h, fun i e o h => by simp at h, fun i e o h => by simp at h, fun i e o h => by simp at h, fun t => .d (.undef _), .nil, hg⟩

/-- A law that holds of its arguments: called, it returns true, and what lay below stands. -/
theorem law_calls {P : Program} {f : FuncId} {vs : List V} {us : Array Value} {w : World} (hg : ∀ g, RelD w (· < w.heap.size) (gl g) (.pointer (some ⟨g, 0, none⟩)))
    (hl : vs.length = us.size) (hr : ∀ (i : Nat) (v : V) (u : Value), vs[i]? = some v → us[i]? = some u → RelD w (· < w.heap.size) v u)
    (h : Cal P f vs [] (fun x _ => x = .ret (.bool true))) : Calls P f us w (fun e w' => e = .returned (.bool true) ∧ Below w.heap.size w w') := by
  refine (callsIn_wide (n := 0)).1 (CallsIn.mono (h us w _ _ [] (WG.begin hg) ⟨hl, fun i v u a b => .d (hr i v u a b)⟩) ?_)
  rintro e w' ⟨x, G', I', η', k1, rfl, k3, k4, k5, k6⟩
  obtain ⟨u, rfl, hu⟩ := k1
  obtain rfl := hu.bool_inv
  exact ⟨rfl, k5.below⟩
end Go.Ab
