/- Layer 51: the statement that Held and Merge match the specification, out of its walk: the row's premises. -/
import Derived.Test.YtlflddcbfbdldaaGreatDoorTA
import Derived.Test.YtlflddcbfbdldaaGreatDoorW11
namespace Go.Proofs.YtlflddcbfbdldaaGreatDoor
open Go Go.Ab Go.Proofs Go.L51 Go.ChangeShapes Go.WideShapes Go.RowKit
def ptsS : List TypeId := [22, 22, 3, 3]
theorem lawS_ (vs : List V) (hl : vs.length = 4) (h : ∀ (j : Nat) (t : TypeId) (v : V), ptsS[j]? = some t → vs[j]? = some v → typedV Tryz.prog t v) : Cal Tryz.prog 3 vs [] (fun x _ => x = .ret (.bool true)) := by
  match vs, hl with
  | [v0, v1, v2, v3], _ =>
  obtain ⟨a, n1, rfl, _⟩ := typedV_seens (h 0 _ _ rfl rfl)
  obtain ⟨b, n2, rfl, _⟩ := typedV_seens (h 1 _ _ rfl rfl)
  obtain ⟨team, rfl⟩ := typedV_int (h 2 _ _ rfl rfl)
  obtain ⟨time, rfl⟩ := typedV_int (h 3 _ _ rfl rfl)
  exact (law_spec a b n1 n2 team time []).mono fun x G hx => hx.1
set_option maxRecDepth 100000 in
theorem liftedS (os : Os) (started : os.Started) (H : Type) (enc : TypeId × Value → H) :
    ReturnsInHanded {} Tryz.checked os 3 .any (fun w args => (Rows.offlineSpecSpec.pre enc Tryz.prog Tryz.f3 [] false w args ∧ laidMetH Tryz.prog Rows.offlineSpecRow.laid w) ∧ sizedMet enc Tryz.prog Tryz.f3 (OpenSpec.ofChange Rows.offlineSpecSpec) false w args)
      (Rows.offlineSpecSpec.post enc Tryz.prog Tryz.f3 false true false false) := by
  refine handed_and_shaped (C := Tryz.checked) (X := fun w _ => laidMetH Tryz.prog laids w) (fun _ _ _ hh h => h.of_heap hh) own_ started (by kernel_rfl) Tryz.func3
    (ChangeSpec.witness_at (enc := enc) (C := Tryz.checked) (os := os) (X := fun w _ => laidMetH Tryz.prog laids w) false (laidWorld os) #[.slice none 0 0, .slice none 0 0, .int .i64 0, .int .i64 0] 8 rfl (by kernel_rfl) (by kernel_rfl) (by kernel_rfl) (by kernel_rfl) (by kernel_rfl) (laidWorld_met os _)) ?_
  intro W base args ds gs before hval0 hW _ _ hL hsh _
  have hval : ∀ (j : Nat) t v, Tryz.f3.params[j]? = some t → args[j]? = some v → Value.okWide Tryz.prog W .any base t v := hval0
  have hW' := hW
  obtain ⟨p, q, hA0, hV0, rfl, hfz, hnd⟩ := hW
  have hA : DataW.TrodAll enc Tryz.prog W 0 (fun _ => true) true Tryz.f3.params.toList args.toList ds p := hA0
  have hV : DataW.TrodVars enc Tryz.prog W (fun _ => true) [] gs q := hV0
  rw [Tryz.params3] at hA hval
  obtain ⟨rfl, rfl⟩ : gs = [] ∧ q = [] := by
    cases gs with
    | nil => exact ⟨rfl, hV⟩
    | cons g r => exact absurd hV (by intro h; cases h)
  have hpl : ∀ t ∈ ptsS, plainT Tryz.prog 16 t = true := by
    have : (ptsS.all fun t => plainT Tryz.prog 16 t) = true := by decide +kernel
    exact fun t ht => List.all_eq_true.1 this t ht
  obtain ⟨vs, hl1, hl2, hall⟩ := trodAll_typed (P := Tryz.prog) (d := 16) ptsS args.toList ds p hpl hA (fun j t u h1 h2 => hval j t u (by simpa [ptsS] using h1) (by simpa using h2))
  have hsz : args.size = 4 := by simpa [ptsS] using hl2.symm
  obtain ⟨m, hm⟩ : ∃ m, W.cell? ⟨2, 0, none⟩ = some (.int .i64 m) := cell_of_shapedOpen_int (zero := #[.int .i64 0]) hsh (by decide +kernel) (by kernel_rfl) (by kernel_rfl) (by kernel_rfl) (by kernel_rfl) Tryz.underlying3
  have hlen : vs.length = 4 := by rw [hl1]; simpa using hsz
  refine (law_calls (glb_mk (lens_ hL) ⟨m, hm⟩) (by rw [hlen, hsz]) (fun i v u h1 h2 => ?_) (lawS_ vs hlen (fun j t v h1 h2 => ?_))).mono fun e W' hres => ?_
  · have hi : i < 4 := by have := (List.getElem?_eq_some_iff.1 h1).1; omega
    obtain ⟨t, ht⟩ : ∃ t, ptsS[i]? = some t := ⟨_, List.getElem?_eq_getElem (by simpa [ptsS] using hi)⟩
    exact (hall i t v u ht h1 (by simpa using h2)).1
  · have hi : j < 4 := by have := (List.getElem?_eq_some_iff.1 h2).1; omega
    exact (hall j t v _ h1 h2 (List.getElem?_eq_getElem (by simpa using (by omega : j < args.size)))).2
  · obtain ⟨he, hb⟩ := hres
    subst he
    obtain ⟨u0, us0, d0, ds0, p0, q0, ha0, hd0, rfl, _, hA1⟩ := trodAll_cons hA
    obtain ⟨u1, us1, d1, ds1, p1, q1, rfl, rfl, rfl, _, hA2⟩ := trodAll_cons hA1
    obtain ⟨u2, us2, d2, ds2, p2, q2, rfl, rfl, rfl, _, hA3⟩ := trodAll_cons hA2
    obtain ⟨u3, us3, d3, ds3, p3, q3, rfl, rfl, rfl, _, hA4⟩ := trodAll_cons hA3
    obtain rfl : ds3 = [] := by
      cases us3 <;> cases ds3 <;> simp [DataW.TrodAll] at hA4 ⊢
    subst hd0
    have e1 : Rows.offlineSpecSpec.fn H ([d0, d1, d2, d3] ++ []) = { results := [.lit (.bool true)], args := [d0, d1, d2, d3] } := by simp [Rows.offlineSpecSpec]
    have hlt : ∀ x ∈ p0 ++ (p1 ++ (p2 ++ (p3 ++ q3))), x.block < W.heap.size := fun x hx => hW'.lt x (by simpa using hx)
    refine ⟨_, rfl, _, _, _, [], p0 ++ (p1 ++ (p2 ++ (p3 ++ q3))), [], hW', ?_, ?_, ?_, Below.frame hb _, fun h => by cases h⟩
    · rw [e1]; exact trodAll_mk1 (shut_bool Tryz.underlying4 true)
    · rw [e1, Tryz.params3]
      exact trodAll_stays laidOut_ hb ptsS args.toList [d0, d1, d2, d3] _ (fun t ht => by
        have : (ptsS.all fun t => Tryz.prog.readableRec t && decide (t < Tryz.prog.types.size)) = true := by kernel_rfl
        have := List.all_eq_true.1 this t ht
        simpa using this) hA hlt
    · rw [e1]; rfl
end Go.Proofs.YtlflddcbfbdldaaGreatDoor
