/- Layer 51: what the rows of this seat share: receipts as abstract values, the listed variables, a world to begin with. -/
import Derived.Test.YtlflddcbfbdldaaGreatDoorT5
import Derived.Test.YtlflddcbfbdldaaGreatDoorW2
import Derived.Test.YtlflddcbfbdldaaGreatDoorCards
import Derived.Test.YtlflddcbfbdldaaGreatDoorTie
import Derived.ProofKit
import Derived.JoinedOf
import Derived.LaidHandle
import Derived.LaidLaws
import Derived.Stop.Joined
namespace Go.Ab
open Go Go.Proofs Go.L51
theorem encS_list : ∀ (xs : List (List V)), (∀ x ∈ xs, ∃ z, x = encS z) → ∃ s, xs = encL s
  | [], _ => ⟨[], rfl⟩
  | x :: xs, h => by
    obtain ⟨z, hz⟩ := h x (by simp)
    obtain ⟨s, hs⟩ := encS_list xs fun y hy => h y (List.mem_cons_of_mem _ hy)
    exact ⟨z :: s, by rw [hz, hs]; rfl⟩
theorem typed_int {d : Nat} {vs : List V} (h : typed Tryz.prog d 3 vs) : ∃ n, vs = [.int .i64 n] := by
  cases d with
  | zero => exact h.elim
  | succ d =>
    simp only [typed, Tryz.underlying3] at h
    obtain ⟨n, h, _⟩ := h
    exact ⟨n, h⟩
theorem typed_seen {d : Nat} {vs : List V} (h : typed Tryz.prog d 33 vs) : ∃ z, vs = encS z := by
  cases d with
  | zero => exact h.elim
  | succ d =>
    simp only [typed, Tryz.underlying33] at h
    obtain ⟨a, r1, rfl, ha, b, r2, rfl, hb, c, r3, rfl, hc, rfl⟩ := h
    obtain ⟨x, rfl⟩ := typed_int ha
    obtain ⟨y, rfl⟩ := typed_int hb
    obtain ⟨z, rfl⟩ := typed_int hc
    exact ⟨⟨x, y, z⟩, rfl⟩
set_option maxRecDepth 100000 in
theorem typedV_int {v : V} (h : typedV Tryz.prog 3 v) : ∃ n, v = .int .i64 n := by
  obtain ⟨d, vs, h, h2⟩ := h
  obtain ⟨n, rfl⟩ := typed_int h
  rw [Tryz.underlying3] at h2
  rcases h2 with ⟨h, _⟩ | ⟨_, h⟩
  · cases h
  · injection h with h
    exact ⟨n, h.symm⟩
set_option maxRecDepth 100000 in
theorem typedV_seens {v : V} (h : typedV Tryz.prog 22 v) : ∃ s nil, v = .sl (encL s) nil ∧ s.length ≤ maxLen := by
  obtain ⟨d, vs, h, h2⟩ := h
  rw [Tryz.underlying22] at h2
  rcases h2 with ⟨h, _⟩ | ⟨_, hv⟩
  · cases h
  subst hv
  cases d with
  | zero => exact h.elim
  | succ d =>
    simp only [typed, Tryz.underlying22] at h
    obtain ⟨xs, nil, h1, h2, _, h3⟩ := h
    injection h1 with h1
    obtain ⟨s, rfl⟩ := encS_list xs fun x hx => typed_seen (h3 x hx)
    exact ⟨s, nil, h1, by simpa using h2⟩
end Go.Ab
namespace Go.Proofs.YtlflddcbfbdldaaGreatDoor
open Go Go.Ab Go.ChangeShapes Go.WideShapes Go.RowKit

theorem own_ : ownKnob Tryz.prog.godebug = none := by kernel_rfl
theorem laidOut_ : laidOutB Tryz.prog = true := by kernel_rfl
theorem gLen : Tryz.prog.globalNamed "fasti/days.lengths" = some 1 := by kernel_rfl
def laids : List (String × DataW Unit) := [("fasti/days.lengths", Rows.laid_fasti_days_lengths), ("fasti/facts.rows", Rows.laid_fasti_facts_rows)]
theorem lens_ {W : World} (h : laidMetH Tryz.prog laids W) : ∀ (i : Nat) (n : Int), lens[i]? = some n → W.cell? ⟨1, i, none⟩ = some (.int .i64 n) :=
  lens_of_laid (P := Tryz.prog) (name := "fasti/days.lengths") (t := 275) (e := 3) gLen (by kernel_rfl) Tryz.underlying275 (by kernel_rfl) Tryz.underlying3 (rest := [("fasti/facts.rows", Rows.laid_fasti_facts_rows)]) h
def rowsC : List Int := [0, 0, 0, 0, 0, 0, 0, 0, 0, 1023, 0, 0, 0, 99, 0, 99, 0, 0, 63, 73048, 1, 512, 0, 0, 63, 0, 0, 73048, 1, 512, 0, 0, 0, 0, 0, 73048, 1, 512, 0, 1440, 63, 0, 0, 73048, 0, 0, 0, 0, 0, 1023, 0, 0, 0, 73048, 0, 15]
noncomputable def laidWorld (os : Os) : World :=
  let w0 := World.holding Tryz.prog os ⟨#[], #[], []⟩
  { w0 with heap := (w0.heap.modify 1 fun
      | .cells _ t frozen => .cells (lens.map (Value.int .i64)).toArray t frozen
      | o => o).modify 0 fun
      | .cells _ t frozen => .cells (rowsC.map (Value.int .i64)).toArray t frozen
      | o => o }
theorem trodAll_stays {H : Type} {enc : TypeId × Value → H} {P : Program} (hl : laidOutB P = true) {W W' : World} (hb : Below W.heap.size W W') : ∀ (ts : List TypeId) (us : List Value) (ds : List (DataW H)) (ps : List MemPlace), (∀ t ∈ ts, P.readableRec t = true ∧ t < P.types.size) →
    DataW.TrodAll enc P W 0 (fun _ => true) true ts us ds ps → (∀ x ∈ ps, x.block < W.heap.size) → DataW.TrodAll enc P W' 0 (fun b => decide (b < W.heap.size)) true ts us ds ps
  | [], us, ds, ps, _, h, _ => by cases us <;> cases ds <;> simp [DataW.TrodAll] at h ⊢; exact h
  | t :: ts, us, ds, ps, hr, h, hlt => by
    obtain ⟨v, vs, d, ds', p, q, rfl, rfl, rfl, h1, h2⟩ := trodAll_cons h
    exact ⟨p, q, Below.trod hl (hr t (by simp)).1 (hr t (by simp)).2 h1 hb (fun x hx => hlt x (by simp [hx])), trodAll_stays hl hb ts vs ds' q (fun t ht => hr t (by simp [ht])) h2 (fun x hx => hlt x (by simp [hx])), rfl⟩
theorem laidWorld_met (os : Os) (args : Array Value) : laidMetH Tryz.prog laids ((laidWorld os).forCall (fun _ _ => 0) ⟨#[], args, []⟩).memory :=
  show laidMet _ _ _ from laidMet_of_run' 8 (by kernel_rfl) (by kernel_rfl)
end Go.Proofs.YtlflddcbfbdldaaGreatDoor
