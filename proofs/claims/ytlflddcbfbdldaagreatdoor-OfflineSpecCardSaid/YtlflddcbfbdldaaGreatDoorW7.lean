/- Layer 51: what the walks compute answers as the law of merging says. -/
import Derived.Test.YtlflddcbfbdldaaGreatDoorW6
namespace Go.Ab
open Go Go.Proofs Go.L51
theorem okFrom_some : ∀ (s : List Seen) (y : Seen), okFrom (some y) s = true ↔ (∀ x ∈ s, validS x = true) ∧ Inc (y :: s)
  | [], y => by simp [okFrom, Inc]
  | x :: l, y => by
    simp only [okFrom, Bool.and_eq_true, okFrom_some l x]
    constructor
    · rintro ⟨⟨h1, h2⟩, h3, h4⟩
      refine ⟨?_, ?_, h4⟩
      · intro z hz
        rcases List.mem_cons.1 hz with rfl | hz
        · exact h1
        · exact h3 z hz
      · intro z hz
        rcases List.mem_cons.1 hz with rfl | hz
        · exact h2
        · exact before_trans h2 (h4.1 z hz)
    · rintro ⟨h1, h2, h3⟩
      exact ⟨⟨h1 x (by simp), h2 x (by simp)⟩, fun z hz => h1 z (by simp [hz]), h3⟩
theorem okFrom_none (s : List Seen) : okFrom none s = true ↔ (∀ x ∈ s, validS x = true) ∧ Inc s := by
  cases s with
  | nil => simp [okFrom, Inc]
  | cons x l =>
    simp only [okFrom, Bool.and_eq_true, okFrom_some l x]
    constructor
    · rintro ⟨⟨h1, _⟩, h3, h4⟩
      refine ⟨?_, h4⟩
      intro z hz
      rcases List.mem_cons.1 hz with rfl | hz
      · exact h1
      · exact h3 z hz
    · rintro ⟨h1, h2⟩
      exact ⟨⟨h1 x (by simp), trivial⟩, fun z hz => h1 z (by simp [hz]), h2⟩
theorem chk_zero {s : List Seen} : chk s = 0 ↔ s.length ≤ 4096 ∧ (∀ x ∈ s, validS x = true) ∧ Inc s := by
  unfold chk
  split
  · simp; omega
  · split
    · rename_i h1 h2
      rw [okFrom_none] at h2
      simp only [true_iff]
      exact ⟨by omega, h2⟩
    · rename_i h1 h2
      rw [okFrom_none] at h2
      constructor
      · intro h; cases h
      · rintro ⟨_, h⟩; exact absurd h h2
theorem mergeR_ok {xs ys : List Seen} (hx : chk xs = 0) (hy : chk ys = 0) (hl : xs.length + ys.length ≤ 4096) : mergeR xs ys = (merge xs ys, 0) := by
  have := length_merge xs ys
  unfold mergeR
  rw [if_neg (by omega), if_neg (by simp [hx, hy]), if_neg (by omega)]
theorem chk_merge {xs ys : List Seen} (hx : chk xs = 0) (hy : chk ys = 0) (hl : xs.length + ys.length ≤ 4096) : chk (merge xs ys) = 0 := by
  rw [chk_zero] at *
  have := length_merge xs ys
  refine ⟨by omega, fun z hz => ?_, inc_merge _ _ hx.2.2 hy.2.2⟩
  rcases (mem_merge _ _ _).1 hz with h | h
  · exact hx.2.1 z h
  · exact hy.2.1 z h
theorem mergeR_comm (xs ys : List Seen) : mergeR ys xs = mergeR xs ys := by
  unfold mergeR
  by_cases h1 : xs.length > 4096 ∨ ys.length > 4096
  · rw [if_pos h1, if_pos h1.symm]
  · rw [if_neg h1, if_neg (fun h => h1 h.symm)]
    by_cases h2 : chk xs ≠ 0 ∨ chk ys ≠ 0
    · rw [if_pos h2, if_pos h2.symm]
    · rw [if_neg h2, if_neg (fun h => h2 h.symm)]
      have hx : chk xs = 0 := by omega
      have hy : chk ys = 0 := by omega
      rw [merge_comm (chk_zero.1 hy).2.2 (chk_zero.1 hx).2.2]
theorem mergeR_err {xs ys : List Seen} (h : (mergeR xs ys).2 ≠ 0) : (mergeR xs ys).1 = [] := by
  unfold mergeR at *
  split
  · rfl
  · split
    · rfl
    · split
      · rfl
      · rename_i h1 h2 h3
        rw [if_neg h1, if_neg h2, if_neg h3] at h
        exact absurd rfl h
theorem mergeR_chk {xs ys : List Seen} (h : (mergeR xs ys).2 = 0) : chk xs = 0 ∧ chk ys = 0 := by
  unfold mergeR at h
  split at h
  · cases h
  · split at h
    · cases h
    · omega
theorem mergeR_len (xs ys : List Seen) : (mergeR xs ys).1.length ≤ 4096 := by
  unfold mergeR
  split
  · simp
  · split
    · simp
    · split
      · simp
      · simp; omega
theorem heldR_ok {s : List Seen} {team time : Int} (hs : chk s = 0) : heldR s team time = if 0 ≤ team ∧ team ≤ 63 ∧ 0 ≤ time ∧ time < 134217728 then ((held s team time).1, (held s team time).2, 0) else (0, false, 1) := by
  unfold heldR
  rw [if_neg (by simp [hs]), heldBrk_eq _ _ (chk_zero.1 hs).2.2]
  rfl
end Go.Ab
