/- Ab, part 21: contracts of Go's library, as contracts over abstract values. -/
import Derived.Test.YtlflddcbfbdldaaGreatDoorC2
import Derived.Test.YtlflddcbfbdldaaGreatDoorShelf
namespace Go.Ab
open Go Go.Proofs

theorem maxLen_cell {G : List Ob} {w : World} {U I : Nat → Prop} {η : List Blk} (H : WG G w U I η) : ∃ m, w.cell? ⟨2, 0, none⟩ = some (.int .i64 m) := by
  have h := H.glb 2
  have e : gl 2 = .ep [[.anyI .i64]] 0 0 := by simp [gl]
  rw [e] at h
  generalize hp : (Value.pointer (some ⟨2, 0, none⟩)) = p at h
  cases h with
  | ep xs i off sz ad vals hi ha hsz h1 h2 =>
    injection hp with hp
    injection hp with hp
    injection hp with hb ho _
    have c1 := h1 0 [.anyI .i64] 0 (.anyI .i64) rfl rfl
    have c2 := h2 0 [.anyI .i64] 0 (.anyI .i64) rfl rfl
    generalize vals 0 0 = v at c1 c2
    cases c2 with
    | anyI k n =>
      refine ⟨n, ?_⟩
      rw [← c1]
      congr 2

theorem contains_fn {s t : ByteArray} (hs : s.size < 4294967281) : Fn1 Tryz.prog 186 [.str s, .str t] (.bool (Lib.contains s.data.toList t.data.toList)) := by
  intro G us w U I η H hr
  obtain ⟨m, hm⟩ := maxLen_cell H
  obtain ⟨hl, hr⟩ := hr
  obtain ⟨a, b, rfl⟩ : ∃ a b, us = #[a, b] := by
    obtain ⟨l⟩ := us
    match l, hl with
    | [a, b], _ => exact ⟨a, b, rfl⟩
  have ha := (hr 0 (.str s) a rfl rfl).str_inv
  have hb := (hr 1 (.str t) b rfl rfl).str_inv
  subst ha
  subst hb
  refine CallsIn.mono (callsIn_wide.2 (Tryz.strings_Contains s t m w hs hm)) ?_
  rintro e w' ⟨rfl, rfl⟩
  exact ⟨.ret (.bool _), G, I, η, ⟨_, rfl, .d (.bool _)⟩, ⟨rfl, rfl⟩, H, .refl U I, .refl U I _, .refl η⟩

/-- Go's library, by its contracts. -/
def libA (f : FuncId) (args : List V) : Option V :=
  if f = 186 then
    match args with
    | [.str s, .str t] => if s.size < 4294967281 then some (.bool (Lib.contains s.data.toList t.data.toList)) else none
    | _ => none
  else none
theorem libA_sound : ∀ f args v, libA f args = some v → Fn1 Tryz.prog f args v := by
  intro f args v h
  unfold libA at h
  split at h
  · rename_i hf
    subst hf
    split at h
    · split at h
      · rename_i hs
        injection h with h
        subst h
        exact contains_fn hs
      · cases h
    · cases h
  · cases h
end Go.Ab
