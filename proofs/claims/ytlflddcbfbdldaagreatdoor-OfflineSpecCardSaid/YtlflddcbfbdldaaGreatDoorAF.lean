/- Ab, part 5b: slices of slices; assertions of types; maps, read. -/
import Derived.Test.YtlflddcbfbdldaaGreatDoorAE
namespace Go.Ab
open Go

/-- A bound of a slice expression: between 0 and m. -/
def bnd (o : Option V) (d m : Nat) : Option Nat :=
  match o with
  | none => some d
  | some (.int _ i) => if 0 ≤ i ∧ i ≤ m then some i.toNat else none
  | _ => none
def cutL {α : Type} (xs : List α) (l h : Nat) : List α := (xs.take h).drop l
def absSlice (P : Program) (t : TypeId) (x : V) (lo hi : Option V) : Option V :=
  match P.underlying t, x with
  | some .string, .str s => (bnd hi s.size s.size).bind fun h => (bnd lo 0 h).map fun l => .str (s.extract l h)
  | some (.slice e), .sl xs nil => (bnd hi xs.length xs.length).bind fun h => (bnd lo 0 h).bind fun l =>
      (P.info? e).bind fun i => if (xs.all fun x => x.length == i.size) = true then some (.sl (cutL xs l h) nil) else none
  | _, _ => none

def chunk : Nat → Nat → List V → List (List V)
  | 0, _, _ => []
  | n + 1, s, l => l.take s :: chunk n s (l.drop s)
theorem chunk_length : ∀ (n s : Nat) (l : List V), (chunk n s l).length = n
  | 0, _, _ => rfl
  | n + 1, s, l => by simp [chunk, chunk_length n s]
theorem chunk_get : ∀ (n s : Nat) (l : List V) (i : Nat) (x : List V), (chunk n s l)[i]? = some x → i < n ∧ x = (l.drop (i * s)).take s
  | 0, _, _, i, x, h => by simp [chunk] at h
  | n + 1, s, l, 0, x, h => by simp [chunk] at h; simp [h.symm]
  | n + 1, s, l, i + 1, x, h => by
    simp only [chunk, List.getElem?_cons_succ] at h
    obtain ⟨h1, h2⟩ := chunk_get n s (l.drop s) i x h
    refine ⟨by omega, ?_⟩
    rw [h2, List.drop_drop, Nat.succ_mul, Nat.add_comm]

def absSliceAt (P : Program) (t : TypeId) (x : V) (lo hi : Option V) : Option V :=
  match P.underlying t with
  | some (.array n e) => match x with
    | .ep xs i off => (xs[i]?).bind fun cs => (P.info? e).bind fun inf => (bnd hi n n).bind fun h => (bnd lo 0 h).bind fun l =>
        if off + n * inf.size ≤ cs.length then some (.sl (chunk (h - l) inf.size (cs.drop (off + l * inf.size))) false) else none
    | _ => none
  | _ => absSlice P t x lo hi
def absTA (P : Program) (x : V) (asserted : TypeId) (ok : Bool) : Option V :=
  match x with
  | .ifc t v => if t = asserted ∧ notIface P asserted = true then some (if ok = true then .tup [v, .bool true] else v) else none
  | _ => none

def zeroVal (P : Program) (t : TypeId) : Option V :=
  (P.info? t).bind fun i => i.zero.map fun z => match z with
    | .agg cs => .agg (cs.toList.map absC)
    | z => absC z

section
variable {P : Program} {st : St} {a : Act} {w : World} {U I : Nat → Prop} {η : List Blk}

theorem zeroVal_run {t : TypeId} {v : V} (h : zeroVal P t = some v) : ∃ u, (zeroValue t).run P w = .ok u w ∧ Rel w I η v u := by
  unfold zeroVal at h
  obtain ⟨i, hi, h⟩ := Option.bind_eq_some_iff.1 h
  obtain ⟨z, hz, h⟩ := Option.map_eq_some_iff.1 h
  refine ⟨z, ?_, ?_⟩
  · simp [zeroValue, typeInfo, hi, hz]
  · split at h
    · rename_i cs
      subst h
      refine .agg _ _ (by simp) (fun i v u hv hu => ?_)
      rw [List.getElem?_map, Array.getElem?_toList, hu] at hv
      simp only [Option.map_some, Option.some.injEq] at hv
      subst hv
      exact .d (absC_rel w I _)
    · subst h
      exact .d (absC_rel w I _)

def bndM : Option Value → Nat → Nat → BoundsCode → Sem Nat
  | some v, _, m, code => Instr.sliceBound v m code
  | none, d, _, _ => pure d
theorem bnd_run {o : Option V} {o' : Option Value} {d m r : Nat} (h : bnd o d m = some r) (hr : ∀ v, o = some v → ∃ u, o' = some u ∧ Rel w I η v u) (hn : o = none → o' = none) (code : BoundsCode) :
    (bndM o' d m code).run P w = .ok r w ∧ (o = none → r = d) ∧ (o ≠ none → r ≤ m) := by
  unfold bnd at h
  split at h
  · injection h with h
    subst h
    obtain rfl := hn rfl
    exact ⟨rfl, fun _ => rfl, fun h => absurd rfl h⟩
  · rename_i k i
    split at h
    · rename_i hc
      injection h with h
      subst h
      obtain ⟨u, rfl, hu⟩ := hr _ rfl
      obtain rfl := hu.int_inv
      refine ⟨?_, fun h => by simp at h, fun _ => by omega⟩
      simp [bndM, Instr.sliceBound, asIntOf, hc]
    · cases h
  · cases h
theorem bounds_run {isSl : Bool} {len cap h l : Nat} {lo' hi' : Option Value} (h1 : (bndM hi' len cap (if isSl then .sliceAcap else .sliceAlen)).run P w = .ok h w) (h2 : (bndM lo' 0 h .sliceB).run P w = .ok l w) :
    (Instr.sliceBounds isSl len cap lo' hi' none).run P w = .ok (l, h, cap) w := by
  unfold Instr.sliceBounds
  cases hi' with
  | none =>
    simp only [bndM, Sem.run_pure, Result.ok.injEq, and_true] at h1
    subst h1
    cases lo' with
    | none =>
      simp only [bndM, Sem.run_pure, Result.ok.injEq, and_true] at h2
      subst h2
      rfl
    | some z =>
      simp only [bndM] at h2
      simp only [Sem.run_bind, Sem.run_pure, Result.andThen_ok]
      change Result.andThen (Sem.run P (Instr.sliceBound z len .sliceB) w) _ = _
      rw [h2]
      rfl
  | some y =>
    simp only [bndM] at h1
    simp only [Sem.run_bind, Sem.run_pure, Result.andThen_ok]
    rw [h1]
    cases lo' with
    | none =>
      simp only [bndM, Sem.run_pure, Result.ok.injEq, and_true] at h2
      subst h2
      rfl
    | some z =>
      simp only [bndM] at h2
      simp only [Result.andThen_ok, Sem.run_bind]
      change Result.andThen (Sem.run P (Instr.sliceBound z h .sliceB) w) _ = _
      rw [h2]
      rfl

theorem slice_run {t : TypeId} {x v : V} {lo hi : Option V} {y : Value} {lo' hi' : Option Value} (hx : Rel w I η x y)
    (hl : ∀ v, lo = some v → ∃ u, lo' = some u ∧ Rel w I η v u) (hln : lo = none → lo' = none) (hh : ∀ v, hi = some v → ∃ u, hi' = some u ∧ Rel w I η v u) (hhn : hi = none → hi' = none)
    (h : absSlice P t x lo hi = some v) : ∃ u, (Instr.slice t y lo' hi' none).run P w = .ok u w ∧ Rel w I η v u := by
  unfold absSlice at h
  split at h
  · rename_i s hu
    obtain rfl := hx.str_inv
    obtain ⟨h1, hb, h⟩ := Option.bind_eq_some_iff.1 h
    obtain ⟨l1, lb, rfl⟩ := Option.map_eq_some_iff.1 h
    obtain ⟨r1, _, _⟩ := bnd_run (P := P) hb hh hhn .sliceAlen
    obtain ⟨r2, _, _⟩ := bnd_run (P := P) lb hl hln .sliceB
    refine ⟨.string (s.extract l1 h1), ?_, .d (.str _)⟩
    have hb' := bounds_run (P := P) (isSl := false) r1 r2
    unfold Instr.slice
    simp only [Sem.run_bind, run_underlying hu, Result.andThen_ok]
    simp only [Option.isSome_none, Bool.false_eq_true, if_false, Sem.run_bind]
    change Result.andThen (Sem.run P (Instr.sliceBounds false s.size s.size lo' hi' none) w) _ = _
    rw [hb']
    rfl
  · rename_i e xs nil hu
    obtain ⟨h1, hb, h⟩ := Option.bind_eq_some_iff.1 h
    obtain ⟨l1, lb, h⟩ := Option.bind_eq_some_iff.1 h
    obtain ⟨i, hi0, h⟩ := Option.bind_eq_some_iff.1 h
    split at h
    case isFalse => cases h
    rename_i hall
    injection h with h
    subst h
    have hxx := hx.sl_inv
    cases hxx with
    | sl _ _ ad0 c sz ad vals hn hc0 ha hc hsz g1 g2 =>
      have hbc : bnd hi xs.length c = some h1 ∧ h1 ≤ xs.length := by
        unfold bnd at hb ⊢
        split at hb
        · injection hb with hb; subst hb; exact ⟨rfl, Nat.le_refl _⟩
        · split at hb
          · rename_i hcc
            injection hb with hb
            subst hb
            refine ⟨?_, by omega⟩
            rw [if_pos (by omega)]
          · cases hb
        · cases hb
      obtain ⟨r1, _, _⟩ := bnd_run (P := P) hbc.1 hh hhn .sliceAcap
      obtain ⟨r2, r3, r4⟩ := bnd_run (P := P) lb hl hln .sliceB
      have hl1 : l1 ≤ h1 := by
        by_cases hlo : lo = none
        · rw [r3 hlo]; omega
        · exact r4 hlo
      have hb' := bounds_run (P := P) (isSl := true) (len := xs.length) r1 r2
      refine ⟨.slice (if c = l1 then ad0 else ad0.map (·.add (l1 * P.cellsOf e))) (h1 - l1) (c - l1), ?_, ?_⟩
      · unfold Instr.slice
        simp only [Sem.run_bind, run_underlying hu, Result.andThen_ok]
        change Result.andThen (Sem.run P (Instr.sliceBounds true xs.length c lo' hi' none) w) _ = _
        rw [hb']
        simp only [Sem.run_bind, Result.andThen_ok, run_sizeOf w hi0, Sem.run_pure]
      · have hlen : (cutL xs l1 h1).length = h1 - l1 := by simp [cutL]; omega
        have hget : ∀ (k : Nat) (x : List V), (cutL xs l1 h1)[k]? = some x → xs[l1 + k]? = some x := by
          intro k x hk
          unfold cutL at hk
          rw [List.getElem?_drop, List.getElem?_take] at hk
          split at hk
          · exact hk
          · cases hk
        have hcell : P.cellsOf e = i.size := by simp [Program.cellsOf, hi0]
        have hsz' : ∀ (k : Nat) (x : List V), xs[k]? = some x → x.length = P.cellsOf e := by
          intro k x hk
          have := List.all_eq_true.1 hall x (List.mem_of_getElem? hk)
          rw [hcell]
          simpa using this
        have hval : ∀ (k : Nat) (x : List V), xs[k]? = some x → sz = P.cellsOf e := fun k x hk => (hsz k x hk).symm.trans (hsz' k x hk)
        refine .d (hlen ▸ RelD.sl (cutL xs l1 h1) nil _ (c - l1) (P.cellsOf e) ⟨ad.block, ad.off + l1 * P.cellsOf e, none⟩ (fun p q => vals (l1 + p) q) ?_ ?_ ?_ ?_ ?_ ?_ ?_)
        · split
          · exact hn
          · rw [hn]; cases ad0 <;> rfl
        · intro hnil
          have := hc0 hnil
          omega
        · intro hpos
          rw [hlen] at hpos
          obtain ⟨q1, q2, q3⟩ := ha (by omega)
          rw [if_neg (by omega), q1]
          refine ⟨?_, q2, rfl⟩
          simp only [Option.map_some, Option.some.injEq, Addr.add]
          split
          · rename_i h0
            rw [h0]
            obtain ⟨ab, ao, as⟩ := ad
            simp only at q3
            subst q3
            rfl
          · rfl
        · omega
        · exact fun k x hk => hsz' _ x (hget k x hk)
        · intro k x j v hk hj
          have hk' := hget k x hk
          rw [← g1 (l1 + k) x j v hk' hj, hval _ x hk', Nat.add_mul]
          simp only [Nat.add_assoc]
        · exact fun k x j v hk hj => g2 (l1 + k) x j v (hget k x hk) hj
  · cases h

theorem sliceAt_run {t : TypeId} {x v : V} {lo hi : Option V} {y : Value} {lo' hi' : Option Value} (hx : Rel w I η x y)
    (hl : ∀ v, lo = some v → ∃ u, lo' = some u ∧ Rel w I η v u) (hln : lo = none → lo' = none) (hh : ∀ v, hi = some v → ∃ u, hi' = some u ∧ Rel w I η v u) (hhn : hi = none → hi' = none)
    (h : absSliceAt P t x lo hi = some v) : ∃ u, (Instr.sliceAt t y lo' hi' none).run P w = .ok u w ∧ Rel w I η v u := by
  unfold absSliceAt at h
  split at h
  · rename_i n e hu
    split at h
    case h_2 => cases h
    rename_i xs i off
    obtain ⟨cs, hcs, h⟩ := Option.bind_eq_some_iff.1 h
    obtain ⟨inf, hi0, h⟩ := Option.bind_eq_some_iff.1 h
    obtain ⟨h1, hb, h⟩ := Option.bind_eq_some_iff.1 h
    obtain ⟨l1, lb, h⟩ := Option.bind_eq_some_iff.1 h
    split at h
    case isFalse => cases h
    rename_i hle
    injection h with h
    subst h
    cases hx.ep_inv with
    | ep _ _ _ sz ad vals hi1 ha hsz g1 g2 =>
      obtain ⟨r1, r1n, r1m⟩ := bnd_run (P := P) hb hh hhn .sliceAlen
      obtain ⟨r2, r3, r4⟩ := bnd_run (P := P) lb hl hln .sliceB
      have hh1 : h1 ≤ n := by
        by_cases hhi : hi = none
        · rw [r1n hhi]; exact Nat.le_refl _
        · exact r1m hhi
      have hl1 : l1 ≤ h1 := by
        by_cases hlo : lo = none
        · rw [r3 hlo]; omega
        · exact r4 hlo
      have hb' := bounds_run (P := P) (isSl := false) r1 r2
      have hcell : P.cellsOf e = inf.size := by simp [Program.cellsOf, hi0]
      refine ⟨.slice (some (if n = l1 then ⟨ad.block, ad.off + (i * sz + off), none⟩ else (⟨ad.block, ad.off + (i * sz + off), none⟩ : Addr).add (l1 * P.cellsOf e))) (h1 - l1) (n - l1), ?_, ?_⟩
      · unfold Instr.sliceAt
        simp only [Sem.run_bind, run_underlying hu, Result.andThen_ok, Instr.sureAddr, Sem.run_pure]
        change Result.andThen (Sem.run P (Instr.sliceBounds false n n lo' hi' none) w) _ = _
        rw [hb']
        simp only [Sem.run_bind, Result.andThen_ok, run_sizeOf w hi0, Sem.run_pure]
      · have hlen : (chunk (h1 - l1) inf.size (cs.drop (off + l1 * inf.size))).length = h1 - l1 := chunk_length _ _ _
        have hget : ∀ (k : Nat) (x : List V), (chunk (h1 - l1) inf.size (cs.drop (off + l1 * inf.size)))[k]? = some x → k < h1 - l1 ∧ x = (cs.drop (off + l1 * inf.size + k * inf.size)).take inf.size := by
          intro k x hk
          obtain ⟨q1, q2⟩ := chunk_get _ _ _ _ _ hk
          rw [List.drop_drop] at q2
          exact ⟨q1, q2⟩
        have hroom : ∀ k, k < h1 - l1 → off + l1 * inf.size + k * inf.size + inf.size ≤ cs.length := by
          intro k hk
          have : (l1 + k + 1) * inf.size ≤ n * inf.size := Nat.mul_le_mul_right _ (by omega)
          rw [Nat.add_mul, Nat.add_mul] at this
          omega
        have hcell' : ∀ (k : Nat) (x : List V) (j : Nat) (v : V), (chunk (h1 - l1) inf.size (cs.drop (off + l1 * inf.size)))[k]? = some x → x[j]? = some v → cs[off + l1 * inf.size + k * inf.size + j]? = some v := by
          intro k x j v hk hj
          obtain ⟨q1, rfl⟩ := hget k x hk
          rw [List.getElem?_take] at hj
          split at hj
          · rw [List.getElem?_drop] at hj; exact hj
          · cases hj
        suffices key : RelD w I (.sl (chunk (h1 - l1) inf.size (cs.drop (off + l1 * inf.size))) false) (.slice (some (if n = l1 then ⟨ad.block, ad.off + (i * sz + off), none⟩ else (⟨ad.block, ad.off + (i * sz + off), none⟩ : Addr).add (l1 * P.cellsOf e))) (chunk (h1 - l1) inf.size (cs.drop (off + l1 * inf.size))).length (n - l1)) by
          rw [hlen] at key
          exact .d key
        refine (RelD.sl _ false _ (n - l1) inf.size ⟨ad.block, ad.off + (i * sz + off) + l1 * inf.size, none⟩ (fun p q => vals i (off + l1 * inf.size + p * inf.size + q)) rfl (fun h => by cases h) ?_ ?_ ?_ ?_ ?_)
        · intro hpos
          rw [hlen] at hpos
          rw [if_neg (by omega), hcell]
          refine ⟨?_, ha.1, rfl⟩
          simp only [Option.some.injEq, Addr.add]
          split
          · rename_i h0; simp [h0]
          · rfl
        · omega
        · intro k x hk
          obtain ⟨q1, rfl⟩ := hget k x hk
          have := hroom k q1
          simp
          omega
        · intro k x j v hk hj
          rw [← g1 i cs _ v hcs (hcell' k x j v hk hj)]
          simp only [Nat.add_assoc]
        · exact fun k x j v hk hj => g2 i cs _ v hcs (hcell' k x j v hk hj)
  · rename_i hna
    obtain ⟨u, hu, hr⟩ := slice_run hx hl hln hh hhn h
    refine ⟨u, ?_, hr⟩
    obtain ⟨d, hd⟩ : ∃ d, P.underlying t = some d := by
      cases hd : P.underlying t with
      | none => simp [absSlice, hd] at h
      | some d => exact ⟨d, rfl⟩
    unfold Instr.sliceAt
    simp only [Sem.run_bind, run_underlying hd, Result.andThen_ok]
    cases d <;> first | exact hu | exact absurd hd (hna _ _)

theorem ta_run {x v : V} {y : Value} {t asserted : TypeId} {ok : Bool} (hx : Rel w I η x y) (h : absTA P x asserted ok = some v) : ∃ u, (Instr.typeAssert y t asserted ok).run P w = .ok u w ∧ Rel w I η v u := by
  unfold absTA at h
  split at h
  · rename_i t' v'
    split at h
    · rename_i hc
      obtain ⟨rfl, hni⟩ := hc
      injection h with h
      subst h
      obtain ⟨z, rfl, hz⟩ := hx.ifc_inv
      unfold notIface at hni
      obtain ⟨d, hd⟩ : ∃ d, P.underlying t' = some d := by
        cases hd : P.underlying t' with
        | none => simp [hd] at hni
        | some d => exact ⟨d, rfl⟩
      refine ⟨if ok = true then .tuple #[z, .bool true] else z, ?_, ?_⟩
      · unfold Instr.typeAssert
        simp only [Sem.run_bind, run_underlying hd, Result.andThen_ok]
        rw [hd] at hni
        cases d <;> first | (simp at hni; done) | simp
      · cases ok
        · exact hz
        · refine .tup _ _ rfl (fun i v u hv hu => ?_)
          match i with
          | 0 => simp at hv hu; subst hv; subst hu; exact hz
          | 1 => simp at hv hu; subst hv; subst hu; exact .d (.bool _)
          | i + 2 => simp at hv
    · cases h
  · cases h
end
end Go.Ab
