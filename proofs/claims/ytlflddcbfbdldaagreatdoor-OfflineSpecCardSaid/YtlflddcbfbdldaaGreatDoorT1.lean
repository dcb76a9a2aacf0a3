/- Ab, part 30: what a row's input reads as, as abstract values. -/
import Derived.Test.YtlflddcbfbdldaaGreatDoorE1
import Derived.DataReads
namespace Go.Ab
open Go

/-- Cells fit, data through I. -/
def RL (w : World) (I : Nat → Prop) (vs : List V) (cs : List Value) : Prop :=
  vs.length = cs.length ∧ ∀ (i : Nat) (v : V) (u : Value), vs[i]? = some v → cs[i]? = some u → RelD w I v u
theorem RL.append {w : World} {I : Nat → Prop} {vs vs' : List V} {cs cs' : List Value} (h : RL w I vs cs) (k : RL w I vs' cs') : RL w I (vs ++ vs') (cs ++ cs') := by
  refine ⟨by simp [h.1, k.1], fun i v u hv hu => ?_⟩
  rw [List.getElem?_append] at hv hu
  rw [h.1] at hv
  split at hv
  · rename_i hi
    rw [if_pos hi] at hu
    exact h.2 i v u hv hu
  · rename_i hi
    rw [if_neg hi] at hu
    exact k.2 _ v u hv hu
theorem RL.one {w : World} {I : Nat → Prop} {v : V} {u : Value} (h : RelD w I v u) : RL w I [v] [u] :=
  ⟨rfl, fun i x y hx hy => by
    cases i with
    | zero => simp at hx hy; subst hx; subst hy; exact h
    | succ i => simp at hx⟩

def typedFs (rec : TypeId → List V → Prop) : List Field → List V → Prop
  | [], vs => vs = []
  | f :: fs, vs => ∃ a b, vs = a ++ b ∧ rec f.type a ∧ typedFs rec fs b
def typedN (rec : List V → Prop) : Nat → List V → Prop
  | 0, vs => vs = []
  | n + 1, vs => ∃ a b, vs = a ++ b ∧ rec a ∧ typedN rec n b
/-- The cells of a value of a type. -/
def typed (P : Program) : Nat → TypeId → List V → Prop
  | 0, _, _ => False
  | d + 1, t, vs =>
    match P.underlying t with
    | some .bool => ∃ b, vs = [.bool b]
    | some (.int k) => ∃ n, vs = [.int k n] ∧ (Lit.int k n).wf = true
    | some .string => ∃ s : ByteArray, vs = [.str s] ∧ s.size ≤ maxLen
    | some (.slice e) => ∃ xs nil, vs = [.sl xs nil] ∧ xs.length ≤ maxLen ∧ (nil = true → xs = []) ∧ ∀ x ∈ xs, typed P d e x
    | some (.struct fs) => typedFs (typed P d) fs.toList vs
    | some (.array n e) => typedN (typed P d e) n vs
    | _ => False

/-- Fields that lie one behind the other. -/
def consec (P : Program) : Nat → List Field → Option Nat
  | off, [] => some off
  | off, f :: fs => if f.offset = off then consec P (off + P.cellsOf f.type) fs else none
/-- A type of plain data: no pointers, maps, functions, interfaces, floats. -/
def plainT (P : Program) : Nat → TypeId → Bool
  | 0, _ => false
  | d + 1, t =>
    match P.underlying t with
    | some .bool | some (.int _) | some .string => P.cellsOf t == 1
    | some (.slice e) => P.cellsOf t == 1 && decide (0 < P.cellsOf e) && plainT P d e
    | some (.struct fs) => (consec P 0 fs.toList == some (P.cellsOf t)) && fs.toList.all fun f => plainT P d f.type
    | some (.array n e) => (n * P.cellsOf e == P.cellsOf t) && plainT P d e
    | _ => false

theorem mapM_get {α β : Type} {f : α → Option β} : ∀ {l : List α} {r : List β}, l.mapM f = some r → r.length = l.length ∧ ∀ (i : Nat) (a : α), l[i]? = some a → ∃ b, f a = some b ∧ r[i]? = some b
  | [], r, h => by
    simp only [List.mapM_nil, pure, Option.some.injEq] at h
    subst h
    exact ⟨rfl, fun i a ha => by simp at ha⟩
  | x :: l, r, h => by
    rw [List.mapM_cons] at h
    simp only [bind, Option.bind_eq_some_iff, pure, Option.some.injEq] at h
    obtain ⟨b, hb, r', hr', rfl⟩ := h
    obtain ⟨h1, h2⟩ := mapM_get hr'
    refine ⟨by simp [h1], fun i a ha => ?_⟩
    cases i with
    | zero => simp at ha; subst ha; exact ⟨b, hb, rfl⟩
    | succ i => simpa using h2 i a (by simpa using ha)

section
variable {P : Program} {w : World} {H : Type} {enc : TypeId × Value → H} {base : Nat} {spare : Nat → Bool} {held : Bool}

theorem fields_typed {d fuel : Nat} {cs : List Value} (rec : ∀ (t : TypeId) (cs : List Value) x, plainT P d t = true → DataW.trod enc P w base spare held fuel t cs = some x → cs.length = P.cellsOf t ∧ ∃ vs, RL w (· < w.heap.size) vs cs ∧ typed P d t vs) :
    ∀ (fs : List Field) (off e : Nat) (xs : List (DataW H × List MemPlace)), consec P off fs = some e → e = cs.length → (fs.all fun f => plainT P d f.type) = true →
      (fs.mapM fun f => DataW.trod enc P w base spare held fuel f.type ((cs.drop f.offset).take (P.cellsOf f.type))) = some xs →
      ∃ vs, RL w (· < w.heap.size) vs (cs.drop off) ∧ typedFs (typed P d) fs vs
  | [], off, e, xs, hc, he, _, _ => by
    simp only [consec, Option.some.injEq] at hc
    subst hc
    refine ⟨[], ?_, rfl⟩
    rw [he, List.drop_length]
    exact ⟨rfl, fun i v u hv => by simp at hv⟩
  | f :: fs, off, e, xs, hc, he, hp, hm => by
    simp only [consec] at hc
    split at hc
    case isFalse => cases hc
    rename_i hoff
    subst hoff
    simp only [List.all_cons, Bool.and_eq_true] at hp
    rw [List.mapM_cons] at hm
    simp only [bind, Option.bind_eq_some_iff, pure, Option.some.injEq] at hm
    obtain ⟨x, hx, xs', hxs', rfl⟩ := hm
    obtain ⟨hl, va, ra, ta⟩ := rec f.type _ x hp.1 hx
    obtain ⟨vb, rb, tb⟩ := fields_typed rec fs (f.offset + P.cellsOf f.type) e xs' hc he hp.2 hxs'
    refine ⟨va ++ vb, ?_, va, vb, rfl, ta, tb⟩
    have : cs.drop f.offset = (cs.drop f.offset).take (P.cellsOf f.type) ++ cs.drop (f.offset + P.cellsOf f.type) := by
      rw [← List.drop_drop, List.take_append_drop]
    rw [this]
    exact ra.append rb

theorem items_typed {d fuel : Nat} {e : TypeId} {cs : List Value} (rec : ∀ (cs : List Value) x, DataW.trod enc P w base spare held fuel e cs = some x → cs.length = P.cellsOf e ∧ ∃ vs, RL w (· < w.heap.size) vs cs ∧ typed P d e vs) :
    ∀ (n k : Nat) (xs : List (DataW H × List MemPlace)), (k + n) * P.cellsOf e = cs.length →
      ((List.range' k n).mapM fun i => DataW.trod enc P w base spare held fuel e ((cs.drop (i * P.cellsOf e)).take (P.cellsOf e))) = some xs →
      ∃ vs, RL w (· < w.heap.size) vs (cs.drop (k * P.cellsOf e)) ∧ typedN (typed P d e) n vs
  | 0, k, xs, hl, _ => by
    refine ⟨[], ?_, rfl⟩
    rw [Nat.add_zero] at hl
    rw [hl, List.drop_length]
    exact ⟨rfl, fun i v u hv => by simp at hv⟩
  | n + 1, k, xs, hl, hm => by
    rw [List.range'_succ, List.mapM_cons] at hm
    simp only [bind, Option.bind_eq_some_iff, pure, Option.some.injEq] at hm
    obtain ⟨x, hx, xs', hxs', rfl⟩ := hm
    obtain ⟨_, va, ra, ta⟩ := rec _ x hx
    obtain ⟨vb, rb, tb⟩ := items_typed rec n (k + 1) xs' (by rw [← hl]; congr 1; omega) hxs'
    refine ⟨va ++ vb, ?_, va, vb, rfl, ta, tb⟩
    have : cs.drop (k * P.cellsOf e) = (cs.drop (k * P.cellsOf e)).take (P.cellsOf e) ++ cs.drop ((k + 1) * P.cellsOf e) := by
      rw [Nat.succ_mul, ← List.drop_drop, List.take_append_drop]
    rw [this]
    exact ra.append rb

theorem trod_typed : ∀ (d : Nat) (t : TypeId), plainT P d t = true → ∀ (fuel : Nat) (cs : List Value) (x : DataW H × List MemPlace), DataW.trod enc P w base spare held fuel t cs = some x →
    cs.length = P.cellsOf t ∧ ∃ vs, RL w (· < w.heap.size) vs cs ∧ typed P d t vs
  | 0, t, hp, _, _, _, _ => by simp [plainT] at hp
  | d + 1, t, hp, 0, cs, x, h => by simp [DataW.trod] at h
  | d + 1, t, hp, fuel + 1, cs, x, h => by
    simp only [plainT] at hp
    simp only [typed]
    cases hu : P.underlying t with
    | none => simp [hu] at hp
    | some k =>
      rw [hu] at hp
      simp only [DataW.trod, hu] at h
      cases k <;> simp only [Bool.false_eq_true, Bool.and_eq_true, beq_iff_eq, decide_eq_true_eq] at hp
      case bool =>
        obtain ⟨b, rfl⟩ : ∃ b, cs = [.bool b] := by
          rcases cs with _ | ⟨v, _ | ⟨v2, l⟩⟩
          · simp at h
          · cases v <;> first | (simp at h; done) | exact ⟨_, rfl⟩
          · cases v <;> simp at h
        exact ⟨by simp [hp], [.bool b], .one (.bool b), b, rfl⟩
      case int q =>
        obtain ⟨q', n, rfl⟩ : ∃ q' n, cs = [.int q' n] := by
          rcases cs with _ | ⟨v, _ | ⟨v2, l⟩⟩
          · simp at h
          · cases v <;> first | (simp at h; done) | exact ⟨_, _, rfl⟩
          · cases v <;> simp at h
        simp only at h
        split at h
        · rename_i hc
          obtain ⟨rfl, hwf⟩ := hc
          exact ⟨by simp [hp], [.int _ n], .one (.int _ n), n, rfl, hwf⟩
        · cases h
      case string =>
        obtain ⟨s, rfl⟩ : ∃ s, cs = [.string s] := by
          rcases cs with _ | ⟨v, _ | ⟨v2, l⟩⟩
          · simp at h
          · cases v <;> first | (simp at h; done) | exact ⟨_, rfl⟩
          · cases v <;> simp at h
        simp only at h
        split at h
        · rename_i hc
          exact ⟨by simp [hp], [.str s], .one (.str s), s, rfl, hc⟩
        · cases h
      case slice e =>
        obtain ⟨a, len, cap, rfl⟩ : ∃ a len cap, cs = [.slice a len cap] := by
          rcases cs with _ | ⟨v, _ | ⟨v2, l⟩⟩
          · simp at h
          · cases v <;> first | (simp at h; done) | exact ⟨_, _, _, rfl⟩
          · cases v <;> simp at h
        obtain ⟨⟨hp1, hp2⟩, hp3⟩ := hp
        cases a with
        | none =>
          have h0 : len = 0 ∧ cap = 0 := by
            rcases len with _ | len <;> rcases cap with _ | cap <;> simp at h ⊢
          obtain ⟨rfl, rfl⟩ := h0
          refine ⟨by simp [hp1], [.sl [] true], .one (.sl [] true none 0 0 ⟨0, 0, none⟩ (fun _ _ => .nilIface) rfl (fun _ => rfl) (fun h => by simp at h) (Nat.le_refl _) (fun i x h => by simp at h) (fun i x j v h => by simp at h) (fun i x j v h => by simp at h)), [], true, rfl, by simp, fun _ => rfl, fun x hx => by simp at hx⟩
        | some a =>
          simp only at h
          split at h
          case isFalse => cases h
          rename_i hc
          obtain ⟨hb, hlc, hcm⟩ := hc
          obtain ⟨elems, hel, _⟩ := Option.bind_eq_some_iff.1 h
          obtain ⟨_, hget⟩ := mapM_get hel
          have each : ∀ i, i < len → ∃ (ec : List Value) (vs : List V), w.cells? base (a.add (i * P.cellsOf e)) (P.cellsOf e) = some ec ∧ ec.length = P.cellsOf e ∧ RL w (· < w.heap.size) vs ec ∧ typed P d e vs := by
            intro i hi
            obtain ⟨y, hy, _⟩ := hget i i (by simp [hi])
            obtain ⟨ec, hec, hy⟩ := Option.bind_eq_some_iff.1 hy
            obtain ⟨hl, vs, hr, ht⟩ := trod_typed d e hp3 fuel ec y hy
            exact ⟨ec, vs, hec, hl, hr, ht⟩
          let X : Nat → List V := fun i => if hi : i < len then Classical.choose (Classical.choose_spec (each i hi)) else []
          let C : Nat → List Value := fun i => if hi : i < len then Classical.choose (each i hi) else []
          have hX : ∀ i, i < len → w.cells? base (a.add (i * P.cellsOf e)) (P.cellsOf e) = some (C i) ∧ (C i).length = P.cellsOf e ∧ RL w (· < w.heap.size) (X i) (C i) ∧ typed P d e (X i) := by
            intro i hi
            have := Classical.choose_spec (Classical.choose_spec (each i hi))
            simp only [X, C, dif_pos hi]
            exact this
          have hcell : ∀ i, i < len → ∀ j, j < P.cellsOf e → w.cell? ((a.add (i * P.cellsOf e)).add j) = (C i)[j]? := by
            intro i hi j hj
            have h1 := (hX i hi).1
            unfold World.cells? at h1
            split at h1
            · obtain ⟨hl, hg⟩ := mapM_get h1
              obtain ⟨u, hu1, hu2⟩ := hg j j (by simp [hj])
              rw [hu1, hu2]
            · cases h1
          have hsp : 0 < len → a.spot = none ∧ a.block < w.heap.size := by
            intro h0
            have h1 := hcell 0 h0 0 hp2
            rw [Nat.zero_mul] at h1
            have : (a.add 0).add 0 = a := rfl
            rw [this, List.getElem?_eq_getElem (by rw [(hX 0 h0).2.1]; exact hp2)] at h1
            unfold World.cell? at h1
            split at h1
            · rename_i hh
              split at h1
              · cases h1
              · rename_i hs
                exact ⟨by simpa using hs, (Array.getElem?_eq_some_iff.1 hh).1⟩
            · cases h1
          have hadd : 0 < len → ∀ i j, (a.add (i * P.cellsOf e)).add j = ⟨a.block, a.off + (i * P.cellsOf e + j), none⟩ := by
            intro h0 i j
            have hs := (hsp h0).1
            obtain ⟨ab, ao, sp⟩ := a
            simp only at hs
            subst hs
            simp only [Addr.add]
            split <;> split <;> simp_all <;> omega
          have hxs : ∀ (i : Nat) (x : List V), ((List.range len).map X)[i]? = some x → i < len ∧ x = X i := by
            intro i x hx
            rw [List.getElem?_map] at hx
            obtain ⟨k, hk, rfl⟩ := Option.map_eq_some_iff.1 hx
            have hi : i < len := by have := (List.getElem?_eq_some_iff.1 hk).1; simpa using this
            rw [List.getElem?_range hi] at hk
            injection hk with hk
            subst hk
            exact ⟨hi, rfl⟩
          refine ⟨by simp [hp1], [.sl ((List.range len).map X) false], .one ?_, (List.range len).map X, false, rfl, by simp; omega, fun h => (by cases h), ?_⟩
          · have key := RelD.sl (w := w) (I := (· < w.heap.size)) ((List.range len).map X) false (some a) cap (P.cellsOf e) a (fun i j => ((C i)[j]?).getD undef) rfl (fun h => by cases h)
              (fun h0 => ⟨rfl, (hsp (by simpa using h0)).2, (hsp (by simpa using h0)).1⟩) (by simpa using hlc)
              (fun i x hx => by obtain ⟨hi, rfl⟩ := hxs i x hx; rw [(hX i hi).2.2.1.1]; exact (hX i hi).2.1)
              (fun i x j v hx hv => by
                obtain ⟨hi, rfl⟩ := hxs i x hx
                have hj : j < P.cellsOf e := by have := (List.getElem?_eq_some_iff.1 hv).1; rw [(hX i hi).2.2.1.1, (hX i hi).2.1] at this; exact this
                rw [← hadd (by omega) i j, hcell i hi j hj, List.getElem?_eq_getElem (by rw [(hX i hi).2.1]; exact hj)]
                rfl)
              (fun i x j v hx hv => by
                obtain ⟨hi, rfl⟩ := hxs i x hx
                have hj : j < (C i).length := by have := (List.getElem?_eq_some_iff.1 hv).1; rw [(hX i hi).2.2.1.1] at this; exact this
                rw [List.getElem?_eq_getElem hj]
                exact (hX i hi).2.2.1.2 j v _ hv (List.getElem?_eq_getElem hj))
            rw [show ((List.range len).map X).length = len by simp] at key
            exact key
          · intro x hx
            obtain ⟨k, hk, rfl⟩ := List.mem_map.1 hx
            exact (hX k (by simpa using hk)).2.2.2
      case struct fs =>
        obtain ⟨hp1, hp2⟩ := hp
        have h : (if cs.length = P.cellsOf t then (fs.toList.mapM fun f => DataW.trod enc P w base spare held fuel f.type ((cs.drop f.offset).take (P.cellsOf f.type))).map fun xs => (DataW.agg (xs.map (·.1)), xs.flatMap (·.2)) else none) = some x := h
        split at h
        case isFalse => cases h
        rename_i hl
        obtain ⟨xs, hxs, _⟩ := Option.map_eq_some_iff.1 h
        obtain ⟨vs, hr, ht⟩ := fields_typed (fun t cs x h1 h2 => trod_typed d t h1 fuel cs x h2) fs.toList 0 _ xs hp1 hl.symm hp2 hxs
        exact ⟨hl, vs, by simpa using hr, ht⟩
      case array n e =>
        obtain ⟨hp1, hp2⟩ := hp
        have h : (if cs.length = P.cellsOf t then ((List.range n).mapM fun i => DataW.trod enc P w base spare held fuel e ((cs.drop (i * P.cellsOf e)).take (P.cellsOf e))).map fun xs => (DataW.agg (xs.map (·.1)), xs.flatMap (·.2)) else none) = some x := h
        split at h
        case isFalse => cases h
        rename_i hl
        obtain ⟨xs, hxs, _⟩ := Option.map_eq_some_iff.1 h
        obtain ⟨vs, hr, ht⟩ := items_typed (fun cs x h2 => trod_typed d e hp2 fuel cs x h2) n 0 xs (by rw [Nat.zero_add, hp1, hl]) (by rw [← List.range_eq_range']; exact hxs)
        exact ⟨hl, vs, by simpa using hr, ht⟩
end
end Go.Ab
