/- Ab, part 5a: equality of what is more than an integer or a string. -/
import Derived.Test.YtlflddcbfbdldaaGreatDoorA5
import Derived.Laws.StructEq
import Derived.ChangeKeysEq
namespace Go.Ab
open Go

def eqFieldsA (P : Program) (rec : TypeId → V → V → Option Bool) (xs ys : List V) : List Field → Option Bool
  | [] => some true
  | f :: fs =>
    if f.name ≠ "_" then
      (shape P f.type).bind fun s => (takeCells s.1 s.2 xs f.offset).bind fun a => (takeCells s.1 s.2 ys f.offset).bind fun b =>
        (rec f.type a b).bind fun r => if r = true then eqFieldsA P rec xs ys fs else some false
    else eqFieldsA P rec xs ys fs
def eqItemsA (rec : V → V → Option Bool) (agg : Bool) (n : Nat) (xs ys : List V) : List Nat → Option Bool
  | [] => some true
  | i :: is => (takeCells agg n xs (i * n)).bind fun a => (takeCells agg n ys (i * n)).bind fun b => (rec a b).bind fun r => if r = true then eqItemsA rec agg n xs ys is else some false
def eqA (P : Program) : Nat → TypeId → V → V → Option Bool
  | 0, _, _, _ => none
  | d + 1, t, x, y =>
    match P.underlying t, x, y with
    | some .bool, .bool a, .bool b => some (a == b)
    | some (.int _), .int k a, .int k' b => if k = k' then some (a == b) else none
    | some .string, .str a, .str b => some (decide (a = b))
    | some (.struct fs), .agg xs, .agg ys => if P.stoodInHeld t = true then none else eqFieldsA P (eqA P d) xs ys fs.toList
    | some (.array n e), .agg xs, .agg ys => (shape P e).bind fun s => if P.cellsOf e = s.2 then eqItemsA (eqA P d e) s.1 s.2 xs ys (List.range n) else none
    | some (.interface _), .ifc _ _, .inil => some false
    | some (.interface _), .inil, .ifc _ _ => some false
    | some (.interface _), .inil, .inil => some true
    | some (.slice _), .sl _ a, .sl _ true => some a
    | some (.slice _), .row _ _, .sl _ true => some false
    | some (.pointer _), .pnil, .pnil => some true
    | some (.pointer _), .ptr _ _, .pnil => some false
    | some (.pointer _), .rp _ _ _, .pnil => some false
    | some (.pointer _), .ep _ _ _, .pnil => some false
    | some (.func _ _ _), .fn _ _ _, .fnil => some false
    | some (.func _ _ _), .fnil, .fnil => some true
    | some (.map _ _), .map _, .mnil => some false
    | some (.map _ _), .mnil, .mnil => some true
    | _, _, _ => none

section
variable {P : Program} {w : World} {I : Nat → Prop} {η : List Blk}

theorem eqFields_run {d : Nat} {rec : TypeId → V → V → Option Bool} (hrec : ∀ (t : TypeId) (x y : V) (u v : Value) (b : Bool), rec t x y = some b → Rel w I η x u → Rel w I η y v → (Op.equalIn d t u v).run P w = .ok b w)
    {xs ys : List V} {us vs : Array Value} (hx : RelL w I η xs us) (hy : RelL w I η ys vs) : ∀ (fs : List Field) (b : Bool), eqFieldsA P rec xs ys fs = some b → (Op.eqFields d us vs fs).run P w = .ok b w
  | [], b, h => by
    simp only [eqFieldsA, Option.some.injEq] at h
    subst h
    rfl
  | f :: fs, b, h => by
    simp only [eqFieldsA] at h
    simp only [Op.eqFields]
    split at h
    · rename_i hn
      rw [if_pos hn]
      obtain ⟨⟨agg, n⟩, hs, h⟩ := Option.bind_eq_some_iff.1 h
      obtain ⟨x, h1, h⟩ := Option.bind_eq_some_iff.1 h
      obtain ⟨y, h2, h⟩ := Option.bind_eq_some_iff.1 h
      obtain ⟨r, h3, h⟩ := Option.bind_eq_some_iff.1 h
      obtain ⟨u, hu, ru⟩ := part_run hs hx h1
      obtain ⟨v, hv, rv⟩ := part_run hs hy h2
      have he := hrec f.type x y u v r h3 ru rv
      simp only [Sem.run_bind, hu, hv, he, Result.andThen_ok]
      cases r with
      | true =>
        rw [if_pos rfl] at h
        simp only [Bool.not_true, Bool.false_eq_true, if_false]
        exact eqFields_run hrec hx hy fs b h
      | false =>
        rw [if_neg (by simp)] at h
        injection h with h
        subst h
        simp
    · rename_i hn
      rw [if_neg hn]
      exact eqFields_run hrec hx hy fs b h

theorem eqItems_run {d : Nat} {e : TypeId} {agg : Bool} {n : Nat} (hs : shape P e = some (agg, n)) {rec : V → V → Option Bool} (hrec : ∀ (x y : V) (u v : Value) (b : Bool), rec x y = some b → Rel w I η x u → Rel w I η y v → (Op.equalIn d e u v).run P w = .ok b w)
    {xs ys : List V} {us vs : Array Value} (hx : RelL w I η xs us) (hy : RelL w I η ys vs) : ∀ (is : List Nat) (b : Bool), eqItemsA rec agg n xs ys is = some b → (Op.eqItems d e n us vs is).run P w = .ok b w
  | [], b, h => by
    simp only [eqItemsA, Option.some.injEq] at h
    subst h
    rfl
  | i :: is, b, h => by
    simp only [eqItemsA] at h
    simp only [Op.eqItems]
    obtain ⟨x, h1, h⟩ := Option.bind_eq_some_iff.1 h
    obtain ⟨y, h2, h⟩ := Option.bind_eq_some_iff.1 h
    obtain ⟨r, h3, h⟩ := Option.bind_eq_some_iff.1 h
    obtain ⟨u, hu, ru⟩ := part_run hs hx h1
    obtain ⟨v, hv, rv⟩ := part_run hs hy h2
    have he := hrec x y u v r h3 ru rv
    simp only [Sem.run_bind, hu, hv, he, Result.andThen_ok]
    cases r with
    | true =>
      rw [if_pos rfl] at h
      simp only [Bool.not_true, Bool.false_eq_true, if_false]
      exact eqItems_run hs hrec hx hy is b h
    | false =>
      rw [if_neg (by simp)] at h
      injection h with h
      subst h
      simp

theorem eqA_run : ∀ (d : Nat) (t : TypeId) (x y : V) (u v : Value) (b : Bool), eqA P d t x y = some b → Rel w I η x u → Rel w I η y v → ∀ n, d ≤ n → (Op.equalIn n t u v).run P w = .ok b w
  | 0, t, x, y, u, v, b, h, _, _, _, _ => by simp [eqA] at h
  | d + 1, t, x, y, u, v, b, h, hx, hy, n, hn => by
    obtain ⟨n, rfl⟩ : ∃ m, n = m + 1 := ⟨n - 1, by omega⟩
    simp only [eqA] at h
    split at h
    · rename_i a c hu
      injection h with h
      subst h
      obtain rfl := hx.bool_inv
      obtain rfl := hy.bool_inv
      simp [Op.equalIn, run_underlying hu]
    · rename_i k a k' c hu
      split at h
      · rename_i hk
        subst hk
        injection h with h
        subst h
        obtain rfl := hx.int_inv
        obtain rfl := hy.int_inv
        simp [Op.equalIn, run_underlying hu]
      · cases h
    · rename_i a c hu
      injection h with h
      subst h
      obtain rfl := hx.str_inv
      obtain rfl := hy.str_inv
      rw [← toList_beq]
      exact run_equalIn_string w n t a c hu
    · rename_i fs xs ys hu
      split at h
      · cases h
      · rename_i hst
        obtain ⟨us, rfl, hxl⟩ := hx.agg_inv
        obtain ⟨vs, rfl, hyl⟩ := hy.agg_inv
        have hfs : P.fieldsOf t = fs := by simp [Program.fieldsOf, hu]
        rw [run_equalIn_struct w n t us vs (by rw [hfs]; exact hu) (by simpa using hst), hfs]
        exact eqFields_run (fun t x y u v b h1 h2 h3 => eqA_run d t x y u v b h1 h2 h3 n (by omega)) hxl hyl _ b h
    · rename_i m e xs ys hu
      obtain ⟨⟨agg, k⟩, hs, h⟩ := Option.bind_eq_some_iff.1 h
      split at h
      · rename_i hc
        obtain ⟨us, rfl, hxl⟩ := hx.agg_inv
        obtain ⟨vs, rfl, hyl⟩ := hy.agg_inv
        obtain ⟨i, hi⟩ : ∃ i, P.info? e = some i := by
          unfold shape at hs
          obtain ⟨_, _, hs⟩ := Option.bind_eq_some_iff.1 hs
          obtain ⟨i, hi, _⟩ := Option.bind_eq_some_iff.1 hs
          exact ⟨i, hi⟩
        rw [run_equalIn_array w n us vs hu hi, hc]
        exact eqItems_run hs (fun x y u v b h1 h2 h3 => eqA_run d e x y u v b h1 h2 h3 n (by omega)) hxl hyl _ b h
      · cases h
    · rename_i hu
      injection h with h
      subst h
      obtain ⟨z, rfl, _⟩ := hx.ifc_inv
      obtain rfl := hy.inil_inv
      simp [Op.equalIn, run_underlying hu]
    · rename_i hu
      injection h with h
      subst h
      obtain ⟨z, rfl, _⟩ := hy.ifc_inv
      obtain rfl := hx.inil_inv
      simp [Op.equalIn, run_underlying hu]
    · rename_i hu
      injection h with h
      subst h
      obtain rfl := hx.inil_inv
      obtain rfl := hy.inil_inv
      simp [Op.equalIn, run_underlying hu]
    · rename_i xs a ys hu
      injection h with h
      subst h
      cases hx.sl_inv with
      | sl _ _ a1 c1 _ _ _ hn1 hc1 =>
        cases hy.sl_inv with
        | sl _ _ a2 c2 _ _ _ hn2 hc2 =>
          cases a2 with
          | some z => simp at hn2
          | none =>
            cases a1 <;> (simp only [Option.isNone_none, Option.isNone_some] at hn1; subst hn1; simp [Op.equalIn, run_underlying hu])
    · rename_i hu
      injection h with h
      subst h
      obtain ⟨e, _, rfl⟩ := hx.row_inv
      cases hy.sl_inv with
      | sl _ _ a2 c2 _ _ _ hn2 hc2 =>
        cases a2 with
        | some z => simp at hn2
        | none => simp [Op.equalIn, run_underlying hu]
    · rename_i hu
      injection h with h
      subst h
      obtain rfl := hx.pnil_inv
      obtain rfl := hy.pnil_inv
      simp [Op.equalIn, run_underlying hu]
    · rename_i hu
      injection h with h
      subst h
      obtain ⟨e, _, rfl⟩ := hx.ptr_inv
      obtain rfl := hy.pnil_inv
      simp [Op.equalIn, run_underlying hu]
    · rename_i hu
      injection h with h
      subst h
      obtain ⟨e, _, rfl⟩ := hx.rp_inv
      obtain rfl := hy.pnil_inv
      simp [Op.equalIn, run_underlying hu]
    · rename_i hu
      injection h with h
      subst h
      cases hx.ep_inv
      obtain rfl := hy.pnil_inv
      simp [Op.equalIn, run_underlying hu]
    · rename_i hu
      injection h with h
      subst h
      obtain ⟨us, vs, rfl, _⟩ := hx.fn_inv
      obtain rfl := hy.fnil_inv
      simp [Op.equalIn, run_underlying hu]
    · rename_i hu
      injection h with h
      subst h
      obtain rfl := hx.fnil_inv
      obtain rfl := hy.fnil_inv
      simp [Op.equalIn, run_underlying hu]
    · rename_i hu
      injection h with h
      subst h
      obtain ⟨e, _, rfl⟩ := hx.map_inv
      obtain rfl := hy.mnil_inv
      simp [Op.equalIn, run_underlying hu]
    · rename_i hu
      injection h with h
      subst h
      obtain rfl := hx.mnil_inv
      obtain rfl := hy.mnil_inv
      simp [Op.equalIn, run_underlying hu]
    · cases h

/-- Is it none of the numbers and strings, which have their own operations? -/
def V.eqs : V → Bool
  | .undef | .int _ _ | .anyI _ | .str _ => false
  | _ => true
def V.isInil : V → Bool
  | .inil => true
  | _ => false
def absBinT (P : Program) (op : BinOp) (t : TypeId) (lit : Bool) (x y : V) : Option V :=
  match absBin op x y with
  | some v => some v
  | none =>
    if x.eqs = true ∧ y.eqs = true ∧ (lit = true ∨ x.isInil = false) ∧ P.eqGuardType P.depth t = false then
      match op with
      | .eql => (eqA P 64 t x y).map .bool
      | .neq => (eqA P 64 t x y).map fun b => .bool (!b)
      | _ => none
    else none

theorem eqs_binOp {x y : V} {a b : Value} (hx : Rel w I η x a) (hy : Rel w I η y b) (hxe : x.eqs = true) (hye : y.eqs = true) (t : TypeId) :
    binOp .eql t a b = (do pure (.bool (← Op.equal t a b))) ∧ binOp .neq t a b = (do pure (.bool (!(← Op.equal t a b)))) := by
  have num : ∀ {z : V} {c : Value}, Rel w I η z c → z.eqs = true → (∀ k n, c ≠ .int k n) ∧ (∀ k n, c ≠ .float k n) ∧ (∀ k n m, c ≠ .complex k n m) ∧ (∀ s, c ≠ .string s) := by
    intro z c hr he
    cases hr with
    | d h => cases h <;> simp_all [V.eqs]
    | _ => simp
  obtain ⟨a1, a2, a3, a4⟩ := num hx hxe
  obtain ⟨b1, b2, b3, b4⟩ := num hy hye
  cases a <;> first | (simp at a1; done) | (simp at a2; done) | (simp at a3; done) | (simp at a4; done) | exact ⟨rfl, rfl⟩

def isC : Operand → Bool
  | .const _ => true
  | _ => false
theorem eqGuard_ok (op : BinOp) (t : TypeId) (p q : Operand) (a b : Value) (h : a = .nilIface → isC p = true ∨ isC q = true) (h2 : P.eqGuardType P.depth t = false) : (eqGuard op t p q a b).run P w = .ok () w := by
  have key : ∀ a b : Value, (a = .nilIface → isC p = true ∨ isC q = true) → (eqGuard .eql t p q a b).run P w = .ok () w := by
    intro a b h
    cases a <;> cases b <;> first | rfl | skip
    · rcases h rfl with h | h
      · cases p <;> first | (simp [isC] at h; done) | rfl
      · cases q <;> first | (simp [isC] at h; done) | (cases p <;> rfl)
    · simp [eqGuard, h2]
  cases op <;> first | rfl | exact key a b h
theorem absBinT_run {op : BinOp} {x y v : V} {a b : Value} (t : TypeId) (p q : Operand) {lit : Bool} (hlit : lit = true → isC p = true ∨ isC q = true) (h : absBinT P op t lit x y = some v) (hx : Rel w I η x a) (hy : Rel w I η y b) :
    ∃ u, (do eqGuard op t p q a b; binOp op t a b : Sem Value).run P w = .ok u w ∧ Rel w I η v u := by
  unfold absBinT at h
  split at h
  · rename_i v' hv
    injection h with h
    subst h
    exact absBin_run t p q hv hx hy
  · split at h
    · rename_i hc
      obtain ⟨c1, c2, c3, c4⟩ := hc
      obtain ⟨e1, e2⟩ := eqs_binOp hx hy c1 c2 t
      have guard : ∀ op, (eqGuard op t p q a b).run P w = .ok () w := by
        intro op
        have hnil : a = .nilIface → x.isInil = true := by
          rintro rfl
          cases x <;> first | rfl | (simp [V.eqs] at c1; done) | (cases hx with | d h => cases h) | (cases hx; done)
        exact eqGuard_ok op t p q a b (fun ha => c3.elim hlit (fun c3 => by rw [hnil ha] at c3; cases c3)) c4
      cases op <;> simp only [reduceCtorEq] at h
      case eql =>
        obtain ⟨r, hr, rfl⟩ := Option.map_eq_some_iff.1 h
        have := eqA_run (P := P) 64 t x y a b r hr hx hy 10000 (by omega)
        refine ⟨.bool r, ?_, .d (.bool r)⟩
        simp only [Sem.run_bind, guard, Result.andThen_ok, e1]
        simp only [Op.equal, Op.maxDepth, this, Sem.run_bind, Result.andThen_ok, Sem.run_pure]
      case neq =>
        obtain ⟨r, hr, rfl⟩ := Option.map_eq_some_iff.1 h
        have := eqA_run (P := P) 64 t x y a b r hr hx hy 10000 (by omega)
        refine ⟨.bool (!r), ?_, .d (.bool _)⟩
        simp only [Sem.run_bind, guard, Result.andThen_ok, e2]
        simp only [Op.equal, Op.maxDepth, this, Sem.run_bind, Result.andThen_ok, Sem.run_pure]
    · cases h
end
end Go.Ab
