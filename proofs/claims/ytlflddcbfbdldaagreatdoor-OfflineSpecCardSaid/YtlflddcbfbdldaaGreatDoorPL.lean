/- The plain law of layer 51 (receipts): sorted lists of receipts, merged. No program. -/
namespace Go.L51

structure Seen where
  team : Int
  cal : Int
  at_ : Int
  deriving DecidableEq

/-- Before: by moment, team, calendar. -/
def before (a b : Seen) : Bool :=
  decide (a.at_ < b.at_) || (decide (a.at_ = b.at_) && (decide (a.team < b.team) || (decide (a.team = b.team) && decide (a.cal < b.cal))))
theorem before_irrefl (a : Seen) : before a a = false := by simp [before]
theorem before_trans {a b c : Seen} (h : before a b = true) (k : before b c = true) : before a c = true := by
  simp only [before, Bool.or_eq_true, Bool.and_eq_true, decide_eq_true_eq] at *
  omega
theorem before_asymm {a b : Seen} (h : before a b = true) : before b a = false := by
  cases hb : before b a with
  | false => rfl
  | true => have := before_trans h hb; rw [before_irrefl] at this; cases this
theorem before_total {a b : Seen} (h : before a b = false) (hn : a ≠ b) : before b a = true := by
  obtain ⟨a1, a2, a3⟩ := a
  obtain ⟨b1, b2, b3⟩ := b
  simp only [before, Bool.or_eq_true, Bool.and_eq_true, decide_eq_true_eq, Bool.or_eq_false_iff, Bool.and_eq_false_iff, decide_eq_false_iff_not] at *
  have : ¬ (a1 = b1 ∧ a2 = b2 ∧ a3 = b3) := by rintro ⟨rfl, rfl, rfl⟩; exact hn rfl
  omega

/-- Strictly increasing. -/
def Inc : List Seen → Prop
  | [] => True
  | a :: l => (∀ b ∈ l, before a b = true) ∧ Inc l

def merge : List Seen → List Seen → List Seen
  | [], bs => bs
  | a :: as, [] => a :: as
  | a :: as, b :: bs => if before a b = true then a :: merge as (b :: bs) else if a = b then b :: merge as bs else b :: merge (a :: as) bs
termination_by as bs => as.length + bs.length

theorem mem_merge : ∀ (as bs : List Seen) (x : Seen), x ∈ merge as bs ↔ x ∈ as ∨ x ∈ bs
  | [], bs, x => by simp [merge]
  | a :: as, [], x => by simp [merge]
  | a :: as, b :: bs, x => by
    rw [merge]
    split
    · rw [List.mem_cons, mem_merge as (b :: bs) x]
      simp only [List.mem_cons]
      constructor
      · rintro (h | h | h | h) <;> simp_all
      · rintro ((h | h) | h | h) <;> simp_all
    · split
      · rename_i hab
        subst hab
        rw [List.mem_cons, mem_merge as bs x]
        simp only [List.mem_cons]
        constructor
        · rintro (h | h | h) <;> simp_all
        · rintro ((h | h) | h | h) <;> simp_all
      · rw [List.mem_cons, mem_merge (a :: as) bs x]
        simp only [List.mem_cons]
        constructor
        · rintro (h | (h | h) | h) <;> simp_all
        · rintro ((h | h) | h | h) <;> simp_all
termination_by as bs => as.length + bs.length

theorem inc_merge : ∀ (as bs : List Seen), Inc as → Inc bs → Inc (merge as bs)
  | [], bs, _, h => by simpa [merge] using h
  | a :: as, [], h, _ => by simpa [merge] using h
  | a :: as, b :: bs, ha, hb => by
    rw [merge]
    split
    · rename_i hab
      refine ⟨fun x hx => ?_, inc_merge as (b :: bs) ha.2 hb⟩
      rcases (mem_merge _ _ _).1 hx with h | h
      · exact ha.1 x h
      · rcases List.mem_cons.1 h with rfl | h
        · exact hab
        · exact before_trans hab (hb.1 x h)
    · rename_i hab
      split
      · rename_i he
        subst he
        refine ⟨fun x hx => ?_, inc_merge as bs ha.2 hb.2⟩
        rcases (mem_merge _ _ _).1 hx with h | h
        · exact ha.1 x h
        · exact hb.1 x h
      · rename_i hne
        have hba := before_total (by simpa using hab) hne
        refine ⟨fun x hx => ?_, inc_merge (a :: as) bs ha hb.2⟩
        rcases (mem_merge _ _ _).1 hx with h | h
        · rcases List.mem_cons.1 h with rfl | h
          · exact hba
          · exact before_trans hba (ha.1 x h)
        · exact hb.1 x h
termination_by as bs => as.length + bs.length

/-- Increasing lists with the same elements are the same. -/
theorem inc_ext : ∀ {l k : List Seen}, Inc l → Inc k → (∀ x, x ∈ l ↔ x ∈ k) → l = k
  | [], [], _, _, _ => rfl
  | [], b :: k, _, _, h => by have := (h b).2 (by simp); cases this
  | a :: l, [], _, _, h => by have := (h a).1 (by simp); cases this
  | a :: l, b :: k, hl, hk, h => by
    have hab : a = b := by
      rcases List.mem_cons.1 ((h a).1 (by simp)) with e | ha
      · exact e
      · rcases List.mem_cons.1 ((h b).2 (by simp)) with e | hb
        · exact e.symm
        · have := before_asymm (hl.1 b hb)
          rw [hk.1 a ha] at this
          cases this
    subst hab
    congr 1
    refine inc_ext hl.2 hk.2 fun x => ?_
    have hx := h x
    simp only [List.mem_cons] at hx
    constructor
    · intro hm
      rcases hx.1 (.inr hm) with rfl | h
      · have := hl.1 x hm; rw [before_irrefl] at this; cases this
      · exact h
    · intro hm
      rcases hx.2 (.inr hm) with rfl | h
      · have := hk.1 x hm; rw [before_irrefl] at this; cases this
      · exact h

theorem merge_comm {as bs : List Seen} (ha : Inc as) (hb : Inc bs) : merge as bs = merge bs as :=
  inc_ext (inc_merge _ _ ha hb) (inc_merge _ _ hb ha) fun x => by rw [mem_merge, mem_merge, or_comm]
theorem merge_assoc {as bs cs : List Seen} (ha : Inc as) (hb : Inc bs) (hc : Inc cs) : merge (merge as bs) cs = merge as (merge bs cs) :=
  inc_ext (inc_merge _ _ (inc_merge _ _ ha hb) hc) (inc_merge _ _ ha (inc_merge _ _ hb hc)) fun x => by simp only [mem_merge, or_assoc]
theorem merge_self {as : List Seen} (ha : Inc as) : merge as as = as := inc_ext (inc_merge _ _ ha ha) ha fun x => by rw [mem_merge, or_self]
theorem length_merge : ∀ (as bs : List Seen), (merge as bs).length ≤ as.length + bs.length
  | [], bs => by simp [merge]
  | a :: as, [] => by simp [merge]
  | a :: as, b :: bs => by
    rw [merge]
    split
    · have := length_merge as (b :: bs); simp only [List.length_cons] at *; omega
    · split
      · have := length_merge as bs; simp only [List.length_cons] at *; omega
      · have := length_merge (a :: as) bs; simp only [List.length_cons] at *; omega
termination_by as bs => as.length + bs.length

/-- What a club holds: the greatest calendar among its receipts up to a moment; whether there is one. -/
def heldBy (team time : Int) (x : Seen) : Bool := decide (x.team = team) && decide (x.at_ ≤ time)
def step (team time : Int) (r : Int × Bool) (x : Seen) : Int × Bool := if heldBy team time x = true then (max r.1 x.cal, true) else r
def held (s : List Seen) (team time : Int) : Int × Bool := s.foldl (step team time) (0, false)

theorem fold_facts (team time : Int) : ∀ (s : List Seen) (r : Int × Bool), r.1 ≤ (s.foldl (step team time) r).1 ∧ (∀ x ∈ s, heldBy team time x = true → x.cal ≤ (s.foldl (step team time) r).1) ∧
    ((s.foldl (step team time) r).1 = r.1 ∨ ∃ x ∈ s, heldBy team time x = true ∧ (s.foldl (step team time) r).1 = x.cal) ∧ ((s.foldl (step team time) r).2 = true ↔ r.2 = true ∨ ∃ x ∈ s, heldBy team time x = true)
  | [], r => by simp
  | a :: s, r => by
    rw [List.foldl_cons]
    obtain ⟨h1, h2, h3, h4⟩ := fold_facts team time s (step team time r a)
    by_cases ha : heldBy team time a = true
    · have e : step team time r a = (max r.1 a.cal, true) := by simp [step, ha]
      rw [e] at h1 h2 h3 h4 ⊢
      simp only at h1 h3 h4
      refine ⟨by clear h2 h3 h4; omega, ?_, ?_, ?_⟩
      · intro x hx hh
        rcases List.mem_cons.1 hx with rfl | hx
        · clear h2 h3 h4; omega
        · exact h2 x hx hh
      · rcases h3 with h3 | ⟨x, hx, hh, h3⟩
        · rcases Int.le_total r.1 a.cal with hc | hc
          · exact .inr ⟨a, by simp, ha, by rw [h3]; omega⟩
          · exact .inl (by rw [h3]; omega)
        · exact .inr ⟨x, List.mem_cons_of_mem _ hx, hh, h3⟩
      · rw [h4]
        constructor
        · intro _; exact .inr ⟨a, by simp, ha⟩
        · intro _; exact .inl trivial
    · have e : step team time r a = r := by simp [step, ha]
      rw [e] at h1 h2 h3 h4 ⊢
      refine ⟨h1, ?_, ?_, ?_⟩
      · intro x hx hh
        rcases List.mem_cons.1 hx with rfl | hx
        · exact absurd hh ha
        · exact h2 x hx hh
      · rcases h3 with h3 | ⟨x, hx, hh, h3⟩
        · exact .inl h3
        · exact .inr ⟨x, List.mem_cons_of_mem _ hx, hh, h3⟩
      · rw [h4]
        constructor
        · rintro (h | ⟨x, hx, hh⟩)
          · exact .inl h
          · exact .inr ⟨x, List.mem_cons_of_mem _ hx, hh⟩
        · rintro (h | ⟨x, hx, hh⟩)
          · exact .inl h
          · rcases List.mem_cons.1 hx with rfl | hx
            · exact absurd hh ha
            · exact .inr ⟨x, hx, hh⟩

theorem held_merge (as bs : List Seen) (team time : Int) : (held (merge as bs) team time).1 = max (held as team time).1 (held bs team time).1 ∧ (held (merge as bs) team time).2 = ((held as team time).2 || (held bs team time).2) := by
  obtain ⟨m1, m2, m3, m4⟩ := fold_facts team time (merge as bs) (0, false)
  obtain ⟨a1, a2, a3, a4⟩ := fold_facts team time as (0, false)
  obtain ⟨b1, b2, b3, b4⟩ := fold_facts team time bs (0, false)
  unfold held
  simp only at m1 m3 m4 a1 a3 a4 b1 b3 b4
  constructor
  · apply Int.le_antisymm
    · rcases m3 with h | ⟨x, hx, hh, h⟩
      · omega
      · rw [h]
        rcases (mem_merge _ _ _).1 hx with hx | hx
        · have := a2 x hx hh; omega
        · have := b2 x hx hh; omega
    · have ha : (as.foldl (step team time) (0, false)).1 ≤ ((merge as bs).foldl (step team time) (0, false)).1 := by
        rcases a3 with h | ⟨x, hx, hh, h⟩
        · omega
        · rw [h]; exact m2 x ((mem_merge _ _ _).2 (.inl hx)) hh
      have hb : (bs.foldl (step team time) (0, false)).1 ≤ ((merge as bs).foldl (step team time) (0, false)).1 := by
        rcases b3 with h | ⟨x, hx, hh, h⟩
        · omega
        · rw [h]; exact m2 x ((mem_merge _ _ _).2 (.inr hx)) hh
      omega
  · rw [Bool.eq_iff_iff, Bool.or_eq_true, m4, a4, b4]
    constructor
    · rintro (h | ⟨x, hx, hh⟩)
      · cases h
      · rcases (mem_merge _ _ _).1 hx with hx | hx
        · exact .inl (.inr ⟨x, hx, hh⟩)
        · exact .inr (.inr ⟨x, hx, hh⟩)
    · rintro ((h | ⟨x, hx, hh⟩) | h | ⟨x, hx, hh⟩)
      · cases h
      · exact .inr ⟨x, (mem_merge _ _ _).2 (.inl hx), hh⟩
      · cases h
      · exact .inr ⟨x, (mem_merge _ _ _).2 (.inr hx), hh⟩

/-- The loop that breaks off at the first later receipt. -/
def heldBrk (team time : Int) : List Seen → Int × Bool → Int × Bool
  | [], r => r
  | x :: s, r => if time < x.at_ then r else heldBrk team time s (if x.team = team then (max r.1 x.cal, true) else r)
theorem heldBrk_eq {team time : Int} : ∀ (s : List Seen) (r : Int × Bool), Inc s → heldBrk team time s r = s.foldl (step team time) r
  | [], r, _ => rfl
  | x :: s, r, h => by
    simp only [heldBrk, List.foldl_cons]
    split
    · rename_i hx
      have none : ∀ (l : List Seen), (∀ y ∈ l, time < y.at_) → ∀ r, l.foldl (step team time) r = r := by
        intro l
        induction l with
        | nil => intro _ r; rfl
        | cons y l ih =>
          intro hl r
          rw [List.foldl_cons, show step team time r y = r from by
            have := hl y (by simp)
            simp only [step, heldBy, Bool.and_eq_true, decide_eq_true_eq]
            rw [if_neg (by omega)]]
          exact ih (fun z hz => hl z (List.mem_cons_of_mem _ hz)) r
      rw [show step team time r x = r from by
        simp only [step, heldBy, Bool.and_eq_true, decide_eq_true_eq]
        rw [if_neg (by omega)]]
      rw [none s (fun y hy => by
        have := h.1 y hy
        simp only [before, Bool.or_eq_true, Bool.and_eq_true, decide_eq_true_eq] at this
        omega) r]
    · rename_i hx
      rw [heldBrk_eq s _ h.2]
      congr 1
      simp only [step, heldBy, Bool.and_eq_true, decide_eq_true_eq]
      by_cases ht : x.team = team
      · rw [if_pos ht, if_pos ⟨ht, by omega⟩]
      · rw [if_neg ht, if_neg (by omega)]
/-- The reference's loop, from -1 on. -/
theorem ref_held {team time : Int} : ∀ (s : List Seen) (n : Int) (r : Int × Bool), (∀ x ∈ s, 0 ≤ x.cal) → (n = -1 ∧ r = (0, false) ∨ 0 ≤ n ∧ r = (n, true)) →
    let m := s.foldl (fun n x => if heldBy team time x = true then max n x.cal else n) n
    (max m 0, decide (0 ≤ m)) = s.foldl (step team time) r
  | [], n, r, _, h => by
    rcases h with ⟨rfl, rfl⟩ | ⟨hn, rfl⟩
    · rfl
    · simp only [List.foldl_nil, Prod.mk.injEq]
      exact ⟨by omega, decide_eq_true hn⟩
  | x :: s, n, r, hs, h => by
    simp only [List.foldl_cons]
    refine ref_held s _ _ (fun y hy => hs y (List.mem_cons_of_mem _ hy)) ?_
    have hx := hs x (by simp)
    by_cases hh : heldBy team time x = true
    · simp only [hh, if_true, step]
      rcases h with ⟨rfl, rfl⟩ | ⟨hn, rfl⟩
      · right
        exact ⟨by omega, by simp only [Prod.mk.injEq, and_true]; omega⟩
      · right
        exact ⟨by omega, rfl⟩
    · simpa only [hh, if_false, step, Bool.false_eq_true] using h
end Go.L51
