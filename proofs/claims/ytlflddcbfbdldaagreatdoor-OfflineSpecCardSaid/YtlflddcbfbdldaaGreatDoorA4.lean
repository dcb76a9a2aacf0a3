/- Ab, part 4: addresses, indexes, lengths, tuples, literals: the other operations that leave memory as it is. -/
import Derived.Test.YtlflddcbfbdldaaGreatDoorA3
namespace Go.Ab
open Go

def absAdd (v : V) (n : Nat) : Option V :=
  match v with
  | .ptr i off => some (.ptr i (off + n))
  | .rp i idx off => some (.rp i idx (off + n))
  | .ep xs i off => some (.ep xs i (off + n))
  | _ => none

def absIndexAddr (P : Program) (st : St) (t : TypeId) (x i : V) : Option V :=
  match i with
  | .int _ n =>
    match x with
    | .sl xs _ => if 0 ≤ n then (elemSz P t).bind fun sz => (xs[n.toNat]?).bind fun y => if y.length = sz then some (.ep xs n.toNat 0) else none else none
    | .row r len => if 0 ≤ n ∧ n < len then
        match st.G[r]? with
        | some (.row _ _ sz _) => if elemSz P t = some sz then some (.rp r n.toNat 0) else none
        | _ => none else none
    | p => (arrSz P t).bind fun s => if 0 ≤ n ∧ n < s.1 then absAdd p (n.toNat * s.2) else none
  | _ => none

def absIndex (P : Program) (t : TypeId) (x i : V) : Option V :=
  match i with
  | .int _ n =>
    match x with
    | .str s => if isStrT P t = true ∧ 0 ≤ n then if h : n.toNat < s.size then some (.int .u8 (s[n.toNat]'h).toNat) else none else none
    | _ => none
  | _ => none

def absLen (P : Program) (t : TypeId) (x : V) : Option V :=
  match x with
  | .str s => if isStrT P t then some (.int .i64 s.size) else none
  | .sl xs _ => if isSlT P t then some (.int .i64 xs.length) else none
  | .row _ len => if isSlT P t then some (.int .i64 len) else none
  | _ => none

def absUn (op : UnOp) (x : V) : Option V :=
  match op, x with
  | .not, .bool b => some (.bool !b)
  | .neg, .int k n => some (.int k (k.wrap (0 - n)))
  | _, _ => none

def absPick (c : Bool) (x y : V) : V :=
  match x, y with
  | .bool a, .bool b => .bool (bif c then a else b)
  | x, y => bif c then x else y

def absNil (x : V) : Option V :=
  match x with
  | .ptr i off => some (.ptr i off)
  | .rp i idx off => some (.rp i idx off)
  | .ep xs i off => some (.ep xs i off)
  | .fn (.func f) xs ys => some (.fn (.func f) xs ys)
  | .ifc t v => some (.ifc t v)
  | _ => none

def absConv (P : Program) (dst : TypeId) (x : V) : Option V :=
  match x, intT P dst with
  | .int _ n, some k => some (.int k (k.wrap n))
  | .str s, none => if isStrT P dst then some (.str s) else none
  | _, _ => none

def absMm2 (mx : Bool) (x y : V) : Option V :=
  match x, y with
  | .int k a, .int k' b => if k = k' then some (.int k (if (if mx then b > a else b < a) then b else a)) else none
  | _, _ => none
def absMm (mx : Bool) : List V → Option V
  | [] => none
  | x :: rest => rest.foldlM (absMm2 mx) x

def V.cells : V → List V
  | .agg cs => cs
  | v => [v]

def V.whole : V → Bool
  | .agg _ => true
  | v => v.one
def fillV (pl : Nat → Option (Nat × Nat)) : List (Nat × V) → List V → Option (List V)
  | [], cs => some cs
  | (i, v) :: rest, cs =>
    match pl i with
    | some (off, size) => if v.cells.length = size ∧ off + size ≤ cs.length ∧ v.whole = true then fillV pl rest (cs.take off ++ v.cells ++ cs.drop (off + size)) else none
    | none => none

section
variable {P : Program} {st : St} {a : Act} {w : World} {U I : Nat → Prop} {η : List Blk}

theorem addr_add (b o n : Nat) : (⟨b, o, none⟩ : Addr).add n = ⟨b, o + n, none⟩ := by unfold Addr.add; split <;> simp_all

theorem absAdd_rel {p v : V} {n : Nat} {x : Value} (hp : Rel w I η p x) (h : absAdd p n = some v) : ∃ b o, x = .pointer (some ⟨b, o, none⟩) ∧ Rel w I η v (.pointer (some ⟨b, o + n, none⟩)) := by
  unfold absAdd at h
  split at h
  · injection h with h
    subst h
    obtain ⟨e, he, rfl⟩ := hp.ptr_inv
    exact ⟨_, _, rfl, .ptr _ _ e he⟩
  · injection h with h
    subst h
    obtain ⟨e, he, rfl⟩ := hp.rp_inv
    exact ⟨_, _, rfl, by rw [Nat.add_assoc]; exact .rp _ _ _ e he⟩
  · injection h with h
    subst h
    cases hp.ep_inv with
    | ep xs i off sz ad vals hi ha hsz h1 h2 =>
      exact ⟨_, _, rfl, by rw [Nat.add_assoc, Nat.add_assoc]; exact .d (.ep _ _ _ sz ad vals hi ha hsz h1 h2)⟩
  · cases h

theorem fieldAddr_run {s : TypeId} {f n : Nat} (hf : fieldOff P s f = some n) {p v : V} {x : Value} (hp : Rel w I η p x) (h : absAdd p n = some v) :
    ∃ u, (Instr.fieldAt s x f).run P w = .ok u w ∧ Rel w I η v u := by
  obtain ⟨b, o, rfl, hr⟩ := absAdd_rel hp h
  refine ⟨_, ?_, hr⟩
  unfold fieldOff at hf
  split at hf
  · rename_i fs hu
    split at hf
    · rename_i fd hfd
      obtain ⟨i, hi, hf⟩ := Option.bind_eq_some_iff.1 hf
      split at hf
      · cases hf
      · rename_i hz
        injection hf with hf
        subst hf
        simp [Instr.fieldAt, run_underlying hu, hfd, Instr.sureAddr, fieldPlace, sizeOf, typeInfo, hi, hz, addr_add]
    · cases hf
  · cases hf

theorem elemSz_some {t : TypeId} {sz : Nat} (h : elemSz P t = some sz) : ∃ e i, P.underlying t = some (.slice e) ∧ P.info? e = some i ∧ i.size = sz := by
  unfold elemSz at h
  split at h
  · rename_i e hu
    obtain ⟨i, hi, h⟩ := Option.map_eq_some_iff.1 h
    exact ⟨e, i, hu, hi, h⟩
  · cases h
theorem arrSz_some {t : TypeId} {n sz : Nat} (h : arrSz P t = some (n, sz)) : ∃ e i, P.underlying t = some (.array n e) ∧ P.info? e = some i ∧ i.size = sz := by
  unfold arrSz at h
  split at h
  · rename_i m e hu
    obtain ⟨i, hi, h⟩ := Option.map_eq_some_iff.1 h
    rw [Prod.mk.injEq] at h
    obtain ⟨rfl, h2⟩ := h
    exact ⟨e, i, hu, hi, h2⟩
  · cases h

theorem indexAddr_run (H : WR st a w U I η) {t : TypeId} {x i v : V} {y j : Value} (hx : Rel w I η x y) (hi : Rel w I η i j) (h : absIndexAddr P st t x i = some v) :
    ∃ u, (Instr.indexAt t y j).run P w = .ok u w ∧ Rel w I η v u := by
  unfold absIndexAddr at h
  split at h
  · rename_i k n
    obtain rfl := hi.int_inv
    split at h
    · rename_i xs nil
      split at h
      · rename_i h0
        obtain ⟨sz, hsz, h⟩ := Option.bind_eq_some_iff.1 h
        obtain ⟨z, hz, h⟩ := Option.bind_eq_some_iff.1 h
        split at h
        · rename_i hzl
          injection h with h
          subst h
          obtain ⟨e, inf, hu, hinf, hs⟩ := elemSz_some hsz
          have hlt := (List.getElem?_eq_some_iff.1 hz).1
          cases hx.sl_inv with
          | sl xs nil a c sz' ad vals hn hc0 ha hc hsz' h1 h2 =>
            obtain ⟨rfl, hI, hsp⟩ := ha (by omega)
            have he : sz' = sz := by rw [← hsz' _ _ hz, hzl]
            subst he
            obtain ⟨bl, of, sp⟩ := ad
            simp only at hsp
            subst hsp
            refine ⟨_, ?_, .d (.ep xs n.toNat 0 sz' ⟨bl, of, none⟩ vals hlt ⟨hI, rfl⟩ hsz' h1 h2)⟩
            have hlt' : n < (xs.length : Int) := by omega
            simp [Instr.indexAt, asIntOf, run_underlying hu, sizeOf, typeInfo, hinf, hs, addr_add, h0, hlt']
        · cases h
      · cases h
    · rename_i r len
      split at h
      · rename_i h0
        split at h
        · rename_i fz t' sz xs hG
          split at h
          · rename_i hsz
            injection h with h
            subst h
            obtain ⟨e, he, rfl⟩ := hx.row_inv
            obtain ⟨e', inf, hu, hinf, hs⟩ := elemSz_some hsz
            have hes : e.sz = sz := (H.ob r e _ he hG).1
            refine ⟨_, ?_, .rp r n.toNat 0 e he⟩
            simp [Instr.indexAt, asIntOf, run_underlying hu, sizeOf, typeInfo, hinf, hs, addr_add, h0, hes]
          · cases h
        · cases h
      · cases h
    · rename_i hn1 hn2
      obtain ⟨⟨m, sz⟩, hsz, h⟩ := Option.bind_eq_some_iff.1 h
      split at h
      · rename_i h0
        obtain ⟨e, inf, hu, hinf, hs⟩ := arrSz_some hsz
        obtain ⟨b, o, rfl, hr⟩ := absAdd_rel hx h
        refine ⟨_, ?_, hr⟩
        simp only at h0
        simp [Instr.indexAt, asIntOf, run_underlying hu, Instr.sureAddr, sizeOf, typeInfo, hinf, hs, addr_add, h0]
      · cases h
  · cases h
end
end Go.Ab
