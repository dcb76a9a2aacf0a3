/- Layer 51: the statement about merging, out of its walk: the row's premises, the row, the tied card. -/
import Derived.Test.YtlflddcbfbdldaaGreatDoorT5
import Derived.Test.YtlflddcbfbdldaaGreatDoorW8
import Derived.Test.YtlflddcbfbdldaaGreatDoorCards
import Derived.Test.YtlflddcbfbdldaaGreatDoorTie
import Derived.ProofKit
import Derived.JoinedOf
import Derived.LaidHandle
import Derived.LaidLaws
import Derived.Stop.Joined
namespace Go.Ab
open Go Go.Proofs Go.L51
theorem encS_list : ∀ (xs : List (List V)), (∀ x ∈ xs, ∃ z, x = encS z) → ∃ s, xs = encL s
  | [], _ => ⟨[], rfl⟩
  | x :: xs, h => by
    obtain ⟨z, hz⟩ := h x (by simp)
    obtain ⟨s, hs⟩ := encS_list xs fun y hy => h y (List.mem_cons_of_mem _ hy)
    exact ⟨z :: s, by rw [hz, hs]; rfl⟩
theorem typed_int {d : Nat} {vs : List V} (h : typed Tryz.prog d 3 vs) : ∃ n, vs = [.int .i64 n] := by
  cases d with
  | zero => exact h.elim
  | succ d =>
    simp only [typed, Tryz.underlying3] at h
    obtain ⟨n, h, _⟩ := h
    exact ⟨n, h⟩
theorem typed_seen {d : Nat} {vs : List V} (h : typed Tryz.prog d 33 vs) : ∃ z, vs = encS z := by
  cases d with
  | zero => exact h.elim
  | succ d =>
    simp only [typed, Tryz.underlying33] at h
    obtain ⟨a, r1, rfl, ha, b, r2, rfl, hb, c, r3, rfl, hc, rfl⟩ := h
    obtain ⟨x, rfl⟩ := typed_int ha
    obtain ⟨y, rfl⟩ := typed_int hb
    obtain ⟨z, rfl⟩ := typed_int hc
    exact ⟨⟨x, y, z⟩, rfl⟩
set_option maxRecDepth 100000 in
theorem typedV_int {v : V} (h : typedV Tryz.prog 3 v) : ∃ n, v = .int .i64 n := by
  obtain ⟨d, vs, h, h2⟩ := h
  obtain ⟨n, rfl⟩ := typed_int h
  rw [Tryz.underlying3] at h2
  rcases h2 with ⟨h, _⟩ | ⟨_, h⟩
  · cases h
  · injection h with h
    exact ⟨n, h.symm⟩
set_option maxRecDepth 100000 in
theorem typedV_seens {v : V} (h : typedV Tryz.prog 22 v) : ∃ s nil, v = .sl (encL s) nil ∧ s.length ≤ maxLen := by
  obtain ⟨d, vs, h, h2⟩ := h
  rw [Tryz.underlying22] at h2
  rcases h2 with ⟨h, _⟩ | ⟨_, hv⟩
  · cases h
  subst hv
  cases d with
  | zero => exact h.elim
  | succ d =>
    simp only [typed, Tryz.underlying22] at h
    obtain ⟨xs, nil, h1, h2, _, h3⟩ := h
    injection h1 with h1
    obtain ⟨s, rfl⟩ := encS_list xs fun x hx => typed_seen (h3 x hx)
    exact ⟨s, nil, h1, by simpa using h2⟩
end Go.Ab
namespace Go.Proofs.YtlflddcbfbdldaaGreatDoor
open Go Go.Ab Go.ChangeShapes Go.WideShapes Go.RowKit

theorem own_ : ownKnob Tryz.prog.godebug = none := by kernel_rfl
theorem laidOut_ : laidOutB Tryz.prog = true := by kernel_rfl
theorem gLen : Tryz.prog.globalNamed "fasti/days.lengths" = some 1 := by kernel_rfl
def laids : List (String × DataW Unit) := [("fasti/days.lengths", Rows.laid_fasti_days_lengths), ("fasti/facts.rows", Rows.laid_fasti_facts_rows)]
theorem lens_ {W : World} (h : laidMetH Tryz.prog laids W) : ∀ (i : Nat) (n : Int), lens[i]? = some n → W.cell? ⟨1, i, none⟩ = some (.int .i64 n) :=
  lens_of_laid (P := Tryz.prog) (name := "fasti/days.lengths") (t := 275) (e := 3) gLen (by kernel_rfl) Tryz.underlying275 (by kernel_rfl) Tryz.underlying3 (rest := [("fasti/facts.rows", Rows.laid_fasti_facts_rows)]) h
def rowsC : List Int := [0, 0, 0, 0, 0, 0, 0, 0, 0, 1023, 0, 0, 0, 99, 0, 99, 0, 0, 63, 73048, 1, 512, 0, 0, 63, 0, 0, 73048, 1, 512, 0, 0, 0, 0, 0, 73048, 1, 512, 0, 1440, 63, 0, 0, 73048, 0, 0, 0, 0, 0, 1023, 0, 0, 0, 73048, 0, 15]
noncomputable def laidWorld (os : Os) : World :=
  let w0 := World.holding Tryz.prog os ⟨#[], #[], []⟩
  { w0 with heap := (w0.heap.modify 1 fun
      | .cells _ t frozen => .cells (lens.map (Value.int .i64)).toArray t frozen
      | o => o).modify 0 fun
      | .cells _ t frozen => .cells (rowsC.map (Value.int .i64)).toArray t frozen
      | o => o }
theorem trodAll_stays {H : Type} {enc : TypeId × Value → H} {P : Program} (hl : laidOutB P = true) {W W' : World} (hb : Below W.heap.size W W') : ∀ (ts : List TypeId) (us : List Value) (ds : List (DataW H)) (ps : List MemPlace), (∀ t ∈ ts, P.readableRec t = true ∧ t < P.types.size) →
    DataW.TrodAll enc P W 0 (fun _ => true) true ts us ds ps → (∀ x ∈ ps, x.block < W.heap.size) → DataW.TrodAll enc P W' 0 (fun b => decide (b < W.heap.size)) true ts us ds ps
  | [], us, ds, ps, _, h, _ => by cases us <;> cases ds <;> simp [DataW.TrodAll] at h ⊢; exact h
  | t :: ts, us, ds, ps, hr, h, hlt => by
    obtain ⟨v, vs, d, ds', p, q, rfl, rfl, rfl, h1, h2⟩ := trodAll_cons h
    exact ⟨p, q, Below.trod hl (hr t (by simp)).1 (hr t (by simp)).2 h1 hb (fun x hx => hlt x (by simp [hx])), trodAll_stays hl hb ts vs ds' q (fun t ht => hr t (by simp [ht])) h2 (fun x hx => hlt x (by simp [hx])), rfl⟩
theorem laidWorld_met (os : Os) (args : Array Value) : laidMetH Tryz.prog laids ((laidWorld os).forCall (fun _ _ => 0) ⟨#[], args, []⟩).memory :=
  show laidMet _ _ _ from laidMet_of_run' 8 (by kernel_rfl) (by kernel_rfl)
def pts : List TypeId := [22, 22, 22, 3, 3]
theorem law_ (vs : List V) (hl : vs.length = 5) (h : ∀ (j : Nat) (t : TypeId) (v : V), pts[j]? = some t → vs[j]? = some v → typedV Tryz.prog t v) : Cal Tryz.prog 4 vs [] (fun x _ => x = .ret (.bool true)) := by
  match vs, hl with
  | [v0, v1, v2, v3, v4], _ =>
  obtain ⟨a, n1, rfl, _⟩ := typedV_seens (h 0 _ _ rfl rfl)
  obtain ⟨b, n2, rfl, _⟩ := typedV_seens (h 1 _ _ rfl rfl)
  obtain ⟨c, n3, rfl, _⟩ := typedV_seens (h 2 _ _ rfl rfl)
  obtain ⟨team, rfl⟩ := typedV_int (h 3 _ _ rfl rfl)
  obtain ⟨time, rfl⟩ := typedV_int (h 4 _ _ rfl rfl)
  exact (law_merge a b c n1 n2 n3 team time []).mono fun x G hx => hx.1
set_option maxRecDepth 100000 in
theorem lifted (os : Os) (started : os.Started) (H : Type) (enc : TypeId × Value → H) :
    ReturnsInHanded {} Tryz.checked os 4 .any (fun w args => (Rows.offlineMergeSpec.pre enc Tryz.prog Tryz.f4 [] false w args ∧ laidMetH Tryz.prog Rows.offlineMergeRow.laid w) ∧ sizedMet enc Tryz.prog Tryz.f4 (OpenSpec.ofChange Rows.offlineMergeSpec) false w args)
      (Rows.offlineMergeSpec.post enc Tryz.prog Tryz.f4 false true false false) := by
  refine handed_and_shaped (C := Tryz.checked) (X := fun w _ => laidMetH Tryz.prog laids w) (fun _ _ _ hh h => h.of_heap hh) own_ started (by kernel_rfl) Tryz.func4
    (ChangeSpec.witness_at (enc := enc) (C := Tryz.checked) (os := os) (X := fun w _ => laidMetH Tryz.prog laids w) false (laidWorld os) #[.slice none 0 0, .slice none 0 0, .slice none 0 0, .int .i64 0, .int .i64 0] 8 rfl (by kernel_rfl) (by kernel_rfl) (by kernel_rfl) (by kernel_rfl) (by kernel_rfl) (laidWorld_met os _)) ?_
  intro W base args ds gs before hval0 hW _ _ hL hsh _
  have hval : ∀ (j : Nat) t v, Tryz.f4.params[j]? = some t → args[j]? = some v → Value.okWide Tryz.prog W .any base t v := hval0
  have hW' := hW
  obtain ⟨p, q, hA0, hV0, rfl, hfz, hnd⟩ := hW
  have hA : DataW.TrodAll enc Tryz.prog W 0 (fun _ => true) true Tryz.f4.params.toList args.toList ds p := hA0
  have hV : DataW.TrodVars enc Tryz.prog W (fun _ => true) [] gs q := hV0
  rw [Tryz.params4] at hA hval
  obtain ⟨rfl, rfl⟩ : gs = [] ∧ q = [] := by
    cases gs with
    | nil => exact ⟨rfl, hV⟩
    | cons g r => exact absurd hV (by intro h; cases h)
  have hpl : ∀ t ∈ pts, plainT Tryz.prog 16 t = true := by
    have : (pts.all fun t => plainT Tryz.prog 16 t) = true := by decide +kernel
    exact fun t ht => List.all_eq_true.1 this t ht
  obtain ⟨vs, hl1, hl2, hall⟩ := trodAll_typed (P := Tryz.prog) (d := 16) pts args.toList ds p hpl hA (fun j t u h1 h2 => hval j t u (by simpa [pts] using h1) (by simpa using h2))
  have hsz : args.size = 5 := by simpa [pts] using hl2.symm
  obtain ⟨m, hm⟩ : ∃ m, W.cell? ⟨2, 0, none⟩ = some (.int .i64 m) := cell_of_shapedOpen_int (zero := #[.int .i64 0]) hsh (by decide +kernel) (by kernel_rfl) (by kernel_rfl) (by kernel_rfl) (by kernel_rfl) Tryz.underlying3
  have hlen : vs.length = 5 := by rw [hl1]; simpa using hsz
  refine (law_calls (glb_mk (lens_ hL) ⟨m, hm⟩) (by rw [hlen, hsz]) (fun i v u h1 h2 => ?_) (law_ vs hlen (fun j t v h1 h2 => ?_))).mono fun e W' hres => ?_
  · have hi : i < 5 := by have := (List.getElem?_eq_some_iff.1 h1).1; omega
    obtain ⟨t, ht⟩ : ∃ t, pts[i]? = some t := ⟨_, List.getElem?_eq_getElem (by simpa [pts] using hi)⟩
    exact (hall i t v u ht h1 (by simpa using h2)).1
  · have hi : j < 5 := by have := (List.getElem?_eq_some_iff.1 h2).1; omega
    exact (hall j t v _ h1 h2 (List.getElem?_eq_getElem (by simpa using (by omega : j < args.size)))).2
  · obtain ⟨he, hb⟩ := hres
    subst he
    obtain ⟨u0, us0, d0, ds0, p0, q0, ha0, hd0, rfl, _, hA1⟩ := trodAll_cons hA
    obtain ⟨u1, us1, d1, ds1, p1, q1, rfl, rfl, rfl, _, hA2⟩ := trodAll_cons hA1
    obtain ⟨u2, us2, d2, ds2, p2, q2, rfl, rfl, rfl, _, hA3⟩ := trodAll_cons hA2
    obtain ⟨u3, us3, d3, ds3, p3, q3, rfl, rfl, rfl, _, hA4⟩ := trodAll_cons hA3
    obtain ⟨u4, us4, d4, ds4, p4, q4, rfl, rfl, rfl, _, hA5⟩ := trodAll_cons hA4
    obtain rfl : ds4 = [] := by
      cases us4 <;> cases ds4 <;> simp [DataW.TrodAll] at hA5 ⊢
    subst hd0
    have e1 : Rows.offlineMergeSpec.fn H ([d0, d1, d2, d3, d4] ++ []) = { results := [.lit (.bool true)], args := [d0, d1, d2, d3, d4] } := by simp [Rows.offlineMergeSpec]
    have hlt : ∀ x ∈ p0 ++ (p1 ++ (p2 ++ (p3 ++ (p4 ++ q4)))), x.block < W.heap.size := fun x hx => hW'.lt x (by simpa using hx)
    refine ⟨_, rfl, _, _, _, [], p0 ++ (p1 ++ (p2 ++ (p3 ++ (p4 ++ q4)))), [], hW', ?_, ?_, ?_, Below.frame hb _, fun h => by cases h⟩
    · rw [e1]; exact trodAll_mk1 (shut_bool Tryz.underlying4 true)
    · rw [e1, Tryz.params4]
      exact trodAll_stays laidOut_ hb pts args.toList [d0, d1, d2, d3, d4] _ (fun t ht => by
        have : (pts.all fun t => Tryz.prog.readableRec t && decide (t < Tryz.prog.types.size)) = true := by kernel_rfl
        have := List.all_eq_true.1 this t ht
        simpa using this) hA hlt
    · rw [e1]; rfl
end Go.Proofs.YtlflddcbfbdldaaGreatDoor
