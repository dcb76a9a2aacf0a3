/- Ab, part 2: operations that touch no memory, over abstract values; each is what the machine computes. -/
import Derived.Test.YtlflddcbfbdldaaGreatDoorA1
namespace Go.Ab
open Go

def absC : Value → V
  | .int k n => .int k n
  | .bool b => .bool b
  | .string s => .str s
  | .pointer none => .pnil
  | .nilFunc => .fnil
  | .nilIface => .inil
  | .map none => .mnil
  | .slice none 0 0 => .sl [] true
  | _ => .undef
theorem absC_rel (w : World) (I : Nat → Prop) (c : Value) : RelD w I (absC c) c := by
  unfold absC
  split
  · exact .int _ _
  · exact .bool _
  · exact .str _
  · exact .pnil
  · exact .fnil
  · exact .inil
  · exact .mnil
  · exact .sl [] true none 0 0 ⟨0, 0, none⟩ (fun _ _ => .nilIface) rfl (fun _ => rfl) (fun h => by simp at h) (Nat.le_refl _) (fun i x h => by simp at h) (fun i x j v h => by simp at h) (fun i x j v h => by simp at h)
  · exact .undef _

def St.ev (st : St) : Operand → V
  | .tmp t => st.s t
  | .const c => absC c
  | .func f => .fn (.func f) [] []
  | .global g => gl g

/-- The value of each operand fits. -/
def Fits (w : World) (I : Nat → Prop) (η : List Blk) (ev : Operand → V) (ρ : Operand → Value) : Prop := ∀ x, Rel w I η (ev x) (ρ x)
theorem WR.fits {st : St} {a : Act} {w : World} {U I : Nat → Prop} {η : List Blk} (h : WR st a w U I η) : Fits w I η st.ev a.eval := by
  intro x
  cases x with
  | tmp t => exact h.sl t
  | const c => exact .d (absC_rel w I c)
  | global g => exact .d (h.glb g)
  | func f => exact .fn (.func f) [] [] #[] #[] rfl rfl (fun i v u hv => by simp at hv) (fun i v u hv => by simp at hv)

/-! ### What is asked of the program's types -/
/-- A field's place: none for what takes no cell. -/
def fieldOff (P : Program) (s : TypeId) (f : Nat) : Option Nat :=
  match P.underlying s with
  | some (.struct fs) =>
    match fs[f]? with
    | some fd => (P.info? fd.type).bind fun i => if i.size = 0 then none else some fd.offset
    | none => none
  | _ => none
def aggD : TypeDesc → Bool
  | .struct _ | .array _ _ => true
  | _ => false
/-- Is a type's value one of several cells (true), or one cell? And how many cells. -/
def shape (P : Program) (t : TypeId) : Option (Bool × Nat) :=
  (P.underlying t).bind fun d => (P.info? t).bind fun i => if aggD d = true then some (true, i.size) else if i.size = 1 then some (false, 1) else none
/-- A slice type's element: its cells. -/
def elemSz (P : Program) (t : TypeId) : Option Nat :=
  match P.underlying t with
  | some (.slice e) => (P.info? e).map (·.size)
  | _ => none
/-- An array type: how many elements, an element's cells. -/
def arrSz (P : Program) (t : TypeId) : Option (Nat × Nat) :=
  match P.underlying t with
  | some (.array n e) => (P.info? e).map fun i => (n, i.size)
  | _ => none
def isStrT (P : Program) (t : TypeId) : Bool := match P.underlying t with | some .string => true | _ => false
def isSlT (P : Program) (t : TypeId) : Bool := match P.underlying t with | some (.slice _) => true | _ => false
def notIface (P : Program) (t : TypeId) : Bool := match P.underlying t with | some (.interface _) => false | some _ => true | none => false
def zeroV (P : Program) (t : TypeId) : Option (List V) := (P.info? t).bind fun i => i.zero.map fun z => z.cells.toList.map absC
def intT (P : Program) (t : TypeId) : Option IntKind := match P.underlying t with | some (.int k) => some k | _ => none
/-- The parts of a struct or an array literal: where each begins, its cells. -/
def place (P : Program) (t : TypeId) (i : Nat) : Option (Nat × Nat) :=
  match P.underlying t with
  | some (.struct fs) => (fs[i]?).bind fun f => (P.info? f.type).map fun x => (f.offset, x.size)
  | some (.array _ e) => (P.info? e).map fun x => (i * x.size, x.size)
  | _ => none

/-! ### Numbers, strings, tests -/
def absBinInt (op : BinOp) (k : IntKind) (a b : Int) : Option V :=
  match op with
  | .add => some (.int k (k.wrap (a + b)))
  | .sub => some (.int k (k.wrap (a - b)))
  | .mul => some (.int k (k.wrap (a * b)))
  | .quo => if b = 0 then none else some (.int k (k.wrap (a.tdiv b)))
  | .rem => if b = 0 then none else some (.int k (a.tmod b))
  | .eql => some (.bool (decide (a = b)))
  | .neq => some (.bool (!decide (a = b)))
  | .lss => some (.bool (decide (a < b)))
  | .leq => some (.bool (decide (a ≤ b)))
  | .gtr => some (.bool (decide (b < a)))
  | .geq => some (.bool (decide (b ≤ a)))
  | _ => none
def absBinStr (op : BinOp) (a b : ByteArray) : Option V :=
  match op with
  | .eql => some (.bool (decide (a = b)))
  | .neq => some (.bool (!decide (a = b)))
  | .add => if a.size + b.size ≤ 9223372036854775807 then some (.str (a ++ b)) else none
  | .lss => some (.bool (Op.bytesLess a.data.toList b.data.toList))
  | .leq => some (.bool (Op.bytesLess a.data.toList b.data.toList || decide (a = b)))
  | .gtr => some (.bool (!(Op.bytesLess a.data.toList b.data.toList || decide (a = b))))
  | .geq => some (.bool (!Op.bytesLess a.data.toList b.data.toList))
  | _ => none
def absBinBool (op : BinOp) (a b : Bool) : Option V :=
  match op with
  | .eql => some (.bool (a == b))
  | .neq => some (.bool (!(a == b)))
  | _ => none
def absBin (op : BinOp) (x y : V) : Option V :=
  match x, y with
  | .int k a, .int k' b => if k = k' then absBinInt op k a b else none
  | .str a, .str b => absBinStr op a b
  | _, _ => none

theorem toList_beq (a b : ByteArray) : (a.toList == b.toList) = decide (a = b) := by
  have e : a.toList = b.toList ↔ a = b := by
    rw [ByteArray.toList_eq, ByteArray.toList_eq]
    constructor
    · intro h
      obtain ⟨⟨x⟩⟩ := a
      obtain ⟨⟨y⟩⟩ := b
      exact congrArg (fun z : List UInt8 => (⟨⟨z⟩⟩ : ByteArray)) h
    · rintro rfl; rfl
  rw [Bool.eq_iff_iff]
  simp [e]

theorem data_beq (a b : ByteArray) : (a.data == b.data) = decide (a = b) := by
  rw [Bool.eq_iff_iff]
  obtain ⟨a⟩ := a
  obtain ⟨b⟩ := b
  simp

section
variable {P : Program} {w : World} {I : Nat → Prop} {η : List Blk}
theorem absBinInt_run {op : BinOp} {k : IntKind} {a b : Int} {v : V} (t : TypeId) (p q : Operand) (h : absBinInt op k a b = some v) :
    ∃ u, (do eqGuard op t p q (.int k a) (.int k b); binOp op t (.int k a) (.int k b) : Sem Value).run P w = .ok u w ∧ Rel w I η v u := by
  cases op <;> simp only [absBinInt, Option.some.injEq, reduceCtorEq] at h
  case quo =>
    split at h
    · cases h
    · rename_i hb
      injection h with h
      subst h
      refine ⟨_, ?_, .d (.int _ _)⟩
      simp [eqGuard, binOp, Op.intDiv, hb]
  case rem =>
    split at h
    · cases h
    · rename_i hb
      injection h with h
      subst h
      refine ⟨_, ?_, .d (.int _ _)⟩
      simp [eqGuard, binOp, Op.intDiv, hb]
  all_goals
    subst h
    first
      | (refine ⟨_, ?_, .d (.int _ _)⟩; simp [eqGuard, binOp, Op.intArith]; done)
      | (refine ⟨_, ?_, .d (.bool _)⟩; simp [eqGuard, binOp, Op.intCmp]; done)
      | (refine ⟨_, ?_, .d (.bool _)⟩; simp [eqGuard, binOp, Op.intCmp]; rfl)
theorem absBinStr_run {op : BinOp} {a b : ByteArray} {v : V} (t : TypeId) (p q : Operand) (h : absBinStr op a b = some v) :
    ∃ u, (do eqGuard op t p q (.string a) (.string b); binOp op t (.string a) (.string b) : Sem Value).run P w = .ok u w ∧ Rel w I η v u := by
  cases op <;> simp only [absBinStr, Option.some.injEq, reduceCtorEq] at h
  case add =>
    split at h
    · rename_i hc
      injection h with h
      subst h
      refine ⟨.string (a ++ b), ?_, .d (.str _)⟩
      have : ¬ (((a.size + b.size : Nat) : Int) > IntKind.i64.max) := by
        have : IntKind.i64.max = 9223372036854775807 := by decide
        omega
      simp only [eqGuard, binOp, Op.stringOp, if_neg this]
      rfl
    · cases h
  all_goals
    subst h
    refine ⟨_, ?_, .d (.bool _)⟩
    simp [eqGuard, binOp, Op.stringOp, data_beq, ByteArray.toList_eq]
theorem absBin_run {op : BinOp} {x y v : V} {a b : Value} (t : TypeId) (p q : Operand) (h : absBin op x y = some v) (hx : Rel w I η x a) (hy : Rel w I η y b) :
    ∃ u, (do eqGuard op t p q a b; binOp op t a b : Sem Value).run P w = .ok u w ∧ Rel w I η v u := by
  unfold absBin at h
  split at h
  · obtain rfl := hx.int_inv
    obtain rfl := hy.int_inv
    split at h
    · rename_i hk
      subst hk
      exact absBinInt_run t p q h
    · cases h
  · obtain rfl := hx.str_inv
    obtain rfl := hy.str_inv
    exact absBinStr_run t p q h
  · cases h
end
end Go.Ab
