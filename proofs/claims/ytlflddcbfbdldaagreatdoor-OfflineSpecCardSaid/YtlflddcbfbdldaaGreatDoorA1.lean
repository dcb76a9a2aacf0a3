/- Ab, part 1: abstract values, the relation to the machine's worlds, how it is kept. -/
import Derived.WalkKit
import Derived.CallsIn
import Derived.Below
import Derived.Deep.Draws
namespace Go.Ab
open Go

/-- Abstract values. 'sl': a slice that nobody writes any more, by its elements' cells; 'ep': the address of a cell of such a slice's element;
'ptr', 'rp', 'row', 'map': into the numbered objects of a state. -/
inductive V where
  | undef
  | int (k : IntKind) (n : Int)
  | anyI (k : IntKind)
  | bool (b : Bool)
  | str (s : ByteArray)
  | sl (xs : List (List V)) (nil : Bool)
  | ep (xs : List (List V)) (i off : Nat)
  | agg (cs : List V)
  | tup (vs : List V)
  | ifc (t : TypeId) (v : V)
  | pnil | fnil | inil | mnil
  | ptr (i off : Nat)
  | rp (i idx off : Nat)
  | row (i len : Nat)
  | map (i : Nat)
  | fn (f : Fn) (first caps : List V)
  | yld (i : Nat)
  deriving Inhabited

/-- Is it the value of one cell? -/
def V.one : V → Bool
  | .undef | .agg _ | .tup _ => false
  | _ => true

/-- Variables of packages that are only read: days.lengths. -/
def gl (g : Nat) : V :=
  if g = 1 then .ep [[.int .i64 31, .int .i64 29, .int .i64 31, .int .i64 30, .int .i64 31, .int .i64 30, .int .i64 31, .int .i64 31, .int .i64 30, .int .i64 31, .int .i64 30, .int .i64 31]] 0 0
  else if g = 2 then .ep [[.anyI .i64]] 0 0
  else .undef

/-- Data: what is read through blocks of the set I alone. -/
inductive RelD (w : World) (I : Nat → Prop) : V → Value → Prop
  | undef (u : Value) : RelD w I .undef u
  | int (k : IntKind) (n : Int) : RelD w I (.int k n) (.int k n)
  | anyI (k : IntKind) (n : Int) : RelD w I (.anyI k) (.int k n)
  | bool (b : Bool) : RelD w I (.bool b) (.bool b)
  | str (s : ByteArray) : RelD w I (.str s) (.string s)
  | sl (xs : List (List V)) (nil : Bool) (a : Option Addr) (c sz : Nat) (ad : Addr) (vals : Nat → Nat → Value)
      (hn : nil = a.isNone) (hc0 : nil = true → c = 0) (ha : 0 < xs.length → a = some ad ∧ I ad.block ∧ ad.spot = none) (hc : xs.length ≤ c)
      (hsz : ∀ (i : Nat) (x : List V), xs[i]? = some x → x.length = sz)
      (h1 : ∀ (i : Nat) (x : List V) (j : Nat) (v : V), xs[i]? = some x → x[j]? = some v → w.cell? ⟨ad.block, ad.off + (i * sz + j), none⟩ = some (vals i j))
      (h2 : ∀ (i : Nat) (x : List V) (j : Nat) (v : V), xs[i]? = some x → x[j]? = some v → RelD w I v (vals i j)) :
      RelD w I (.sl xs nil) (.slice a xs.length c)
  | ep (xs : List (List V)) (i off : Nat) (sz : Nat) (ad : Addr) (vals : Nat → Nat → Value)
      (hi : i < xs.length) (ha : I ad.block ∧ ad.spot = none)
      (hsz : ∀ (i : Nat) (x : List V), xs[i]? = some x → x.length = sz)
      (h1 : ∀ (i : Nat) (x : List V) (j : Nat) (v : V), xs[i]? = some x → x[j]? = some v → w.cell? ⟨ad.block, ad.off + (i * sz + j), none⟩ = some (vals i j))
      (h2 : ∀ (i : Nat) (x : List V) (j : Nat) (v : V), xs[i]? = some x → x[j]? = some v → RelD w I v (vals i j)) :
      RelD w I (.ep xs i off) (.pointer (some ⟨ad.block, ad.off + (i * sz + off), none⟩))
  | agg (cs : List V) (vs : Array Value) (hl : cs.length = vs.size)
      (h : ∀ (i : Nat) (v : V) (u : Value), cs[i]? = some v → vs[i]? = some u → RelD w I v u) : RelD w I (.agg cs) (.agg vs)
  | tup (cs : List V) (vs : Array Value) (hl : cs.length = vs.size)
      (h : ∀ (i : Nat) (v : V) (u : Value), cs[i]? = some v → vs[i]? = some u → RelD w I v u) : RelD w I (.tup cs) (.tuple vs)
  | ifc (t : TypeId) (v : V) (u : Value) (h : RelD w I v u) : RelD w I (.ifc t v) (.iface t u)
  | pnil : RelD w I .pnil (.pointer none)
  | fnil : RelD w I .fnil .nilFunc
  | inil : RelD w I .inil .nilIface
  | mnil : RelD w I .mnil (.map none)

theorem RelD.mono {w w' : World} {I I' : Nat → Prop} {v : V} {u : Value} (h : RelD w I v u)
    (hw : ∀ k, I k → w'.heap[k]? = w.heap[k]?) (hI : ∀ k, I k → I' k) : RelD w' I' v u := by
  induction h with
  | undef u => exact .undef u
  | int k n => exact .int k n
  | anyI k n => exact .anyI k n
  | bool b => exact .bool b
  | str s => exact .str s
  | sl xs nil a c sz ad vals hn hc0 ha hc hsz h1 h2 ih =>
    refine .sl xs nil a c sz ad vals hn hc0 (fun hp => ⟨(ha hp).1, hI _ (ha hp).2.1, (ha hp).2.2⟩) hc hsz ?_ ih
    intro i x j v hx hv
    have hp : 0 < xs.length := by have := (List.getElem?_eq_some_iff.1 hx).1; omega
    exact (World.cell?_of_block (w := w) (a := ⟨ad.block, ad.off + (i * sz + j), none⟩) (hw _ (ha hp).2.1)).trans (h1 i x j v hx hv)
  | ep xs i off sz ad vals hi ha hsz h1 h2 ih =>
    refine .ep xs i off sz ad vals hi ⟨hI _ ha.1, ha.2⟩ hsz ?_ ih
    intro i x j v hx hv
    exact (World.cell?_of_block (w := w) (a := ⟨ad.block, ad.off + (i * sz + j), none⟩) (hw _ ha.1)).trans (h1 i x j v hx hv)
  | agg cs vs hl h ih => exact .agg cs vs hl ih
  | tup cs vs hl h ih => exact .tup cs vs hl ih
  | ifc t v u h ih => exact .ifc t v u ih
  | pnil => exact .pnil
  | fnil => exact .fnil
  | inil => exact .inil
  | mnil => exact .mnil

/-- Where an object lies: its block; of a row its capacity and an element's cells. -/
structure Blk where
  b : Nat
  cap : Nat
  sz : Nat
  deriving Inhabited

inductive Rel (w : World) (I : Nat → Prop) (η : List Blk) : V → Value → Prop
  | d {v : V} {u : Value} (h : RelD w I v u) : Rel w I η v u
  | ptr (i off : Nat) (e : Blk) (h : η[i]? = some e) : Rel w I η (.ptr i off) (.pointer (some ⟨e.b, off, none⟩))
  | rp (i idx off : Nat) (e : Blk) (h : η[i]? = some e) : Rel w I η (.rp i idx off) (.pointer (some ⟨e.b, idx * e.sz + off, none⟩))
  | row (i len : Nat) (e : Blk) (h : η[i]? = some e) : Rel w I η (.row i len) (.slice (some ⟨e.b, 0, none⟩) len e.cap)
  | map (i : Nat) (e : Blk) (h : η[i]? = some e) : Rel w I η (.map i) (.map (some e.b))
  | fn (f : Fn) (xs ys : List V) (us vs : Array Value) (hx : xs.length = us.size) (hy : ys.length = vs.size)
      (h1 : ∀ (i : Nat) (v : V) (u : Value), xs[i]? = some v → us[i]? = some u → Rel w I η v u)
      (h2 : ∀ (i : Nat) (v : V) (u : Value), ys[i]? = some v → vs[i]? = some u → Rel w I η v u) : Rel w I η (.fn f xs ys) (.func f us vs)
  | yld (i : Nat) (e : Blk) (h : η[i]? = some e) : Rel w I η (.yld i) (.func (.yield e.b) #[] #[])
  | agg (cs : List V) (vs : Array Value) (hl : cs.length = vs.size)
      (h : ∀ (i : Nat) (v : V) (u : Value), cs[i]? = some v → vs[i]? = some u → Rel w I η v u) : Rel w I η (.agg cs) (.agg vs)
  | tup (cs : List V) (vs : Array Value) (hl : cs.length = vs.size)
      (h : ∀ (i : Nat) (v : V) (u : Value), cs[i]? = some v → vs[i]? = some u → Rel w I η v u) : Rel w I η (.tup cs) (.tuple vs)
  | ifc (t : TypeId) (v : V) (u : Value) (h : Rel w I η v u) : Rel w I η (.ifc t v) (.iface t u)

theorem Rel.mono {w w' : World} {I I' : Nat → Prop} {η η' : List Blk} {v : V} {u : Value} (h : Rel w I η v u)
    (hw : ∀ k, I k → w'.heap[k]? = w.heap[k]?) (hI : ∀ k, I k → I' k) (hη : ∀ (i : Nat) (e : Blk), η[i]? = some e → η'[i]? = some e) : Rel w' I' η' v u := by
  induction h with
  | d h => exact .d (h.mono hw hI)
  | ptr i off e h => exact .ptr i off e (hη _ _ h)
  | rp i idx off e h => exact .rp i idx off e (hη _ _ h)
  | row i len e h => exact .row i len e (hη _ _ h)
  | map i e h => exact .map i e (hη _ _ h)
  | yld i e h => exact .yld i e (hη _ _ h)
  | fn f xs ys us vs hx hy h1 h2 ih1 ih2 => exact .fn f xs ys us vs hx hy ih1 ih2
  | agg cs vs hl h ih => exact .agg cs vs hl ih
  | tup cs vs hl h ih => exact .tup cs vs hl ih
  | ifc t v u h ih => exact .ifc t v u ih

section inv
variable {w : World} {I : Nat → Prop} {η : List Blk} {u : Value}
theorem Rel.int_inv {k : IntKind} {n : Int} (h : Rel w I η (.int k n) u) : u = .int k n := by
  cases h with | d h => cases h; rfl
theorem Rel.bool_inv {b : Bool} (h : Rel w I η (.bool b) u) : u = .bool b := by
  cases h with | d h => cases h; rfl
theorem Rel.str_inv {s : ByteArray} (h : Rel w I η (.str s) u) : u = .string s := by
  cases h with | d h => cases h; rfl
theorem Rel.ptr_inv {i off : Nat} (h : Rel w I η (.ptr i off) u) : ∃ e, η[i]? = some e ∧ u = .pointer (some ⟨e.b, off, none⟩) := by
  cases h with
  | d h => cases h
  | ptr i off e h => exact ⟨e, h, rfl⟩
theorem Rel.rp_inv {i idx off : Nat} (h : Rel w I η (.rp i idx off) u) : ∃ e, η[i]? = some e ∧ u = .pointer (some ⟨e.b, idx * e.sz + off, none⟩) := by
  cases h with
  | d h => cases h
  | rp i idx off e h => exact ⟨e, h, rfl⟩
theorem Rel.row_inv {i len : Nat} (h : Rel w I η (.row i len) u) : ∃ e, η[i]? = some e ∧ u = .slice (some ⟨e.b, 0, none⟩) len e.cap := by
  cases h with
  | d h => cases h
  | row i len e h => exact ⟨e, h, rfl⟩
theorem Rel.map_inv {i : Nat} (h : Rel w I η (.map i) u) : ∃ e, η[i]? = some e ∧ u = .map (some e.b) := by
  cases h with
  | d h => cases h
  | map i e h => exact ⟨e, h, rfl⟩
theorem Rel.sl_inv {xs : List (List V)} {nil : Bool} (h : Rel w I η (.sl xs nil) u) : RelD w I (.sl xs nil) u := by
  cases h with | d h => exact h
theorem Rel.ep_inv {xs : List (List V)} {i off : Nat} (h : Rel w I η (.ep xs i off) u) : RelD w I (.ep xs i off) u := by
  cases h with | d h => exact h
theorem Rel.agg_inv {cs : List V} (h : Rel w I η (.agg cs) u) : ∃ vs : Array Value, u = .agg vs ∧ cs.length = vs.size ∧ ∀ (i : Nat) (v : V) (x : Value), cs[i]? = some v → vs[i]? = some x → Rel w I η v x := by
  cases h with
  | d h => cases h with | agg cs vs hl h => exact ⟨vs, rfl, hl, fun i v x h1 h2 => .d (h i v x h1 h2)⟩
  | agg cs vs hl h => exact ⟨vs, rfl, hl, h⟩
theorem Rel.tup_inv {cs : List V} (h : Rel w I η (.tup cs) u) : ∃ vs : Array Value, u = .tuple vs ∧ cs.length = vs.size ∧ ∀ (i : Nat) (v : V) (x : Value), cs[i]? = some v → vs[i]? = some x → Rel w I η v x := by
  cases h with
  | d h => cases h with | tup cs vs hl h => exact ⟨vs, rfl, hl, fun i v x h1 h2 => .d (h i v x h1 h2)⟩
  | tup cs vs hl h => exact ⟨vs, rfl, hl, h⟩
theorem Rel.ifc_inv {t : TypeId} {v : V} (h : Rel w I η (.ifc t v) u) : ∃ x, u = .iface t x ∧ Rel w I η v x := by
  cases h with
  | d h => cases h with | ifc t v u h => exact ⟨_, rfl, .d h⟩
  | ifc t v u h => exact ⟨_, rfl, h⟩
theorem Rel.fn_inv {f : Fn} {xs ys : List V} (h : Rel w I η (.fn f xs ys) u) : ∃ us vs : Array Value, u = .func f us vs ∧ xs.length = us.size ∧ ys.length = vs.size ∧
    (∀ (i : Nat) (v : V) (u : Value), xs[i]? = some v → us[i]? = some u → Rel w I η v u) ∧ (∀ (i : Nat) (v : V) (u : Value), ys[i]? = some v → vs[i]? = some u → Rel w I η v u) := by
  cases h with
  | d h => cases h
  | fn f xs ys us vs hx hy h1 h2 => exact ⟨us, vs, rfl, hx, hy, h1, h2⟩
theorem Rel.yld_inv {i : Nat} (h : Rel w I η (.yld i) u) : ∃ e, η[i]? = some e ∧ u = .func (.yield e.b) #[] #[] := by
  cases h with
  | d h => cases h
  | yld i e h => exact ⟨e, h, rfl⟩
theorem Rel.pnil_inv (h : Rel w I η .pnil u) : u = .pointer none := by
  cases h with | d h => cases h; rfl
theorem Rel.fnil_inv (h : Rel w I η .fnil u) : u = .nilFunc := by
  cases h with | d h => cases h; rfl
theorem Rel.inil_inv (h : Rel w I η .inil u) : u = .nilIface := by
  cases h with | d h => cases h; rfl
theorem Rel.mnil_inv (h : Rel w I η .mnil u) : u = .map none := by
  cases h with | d h => cases h; rfl
end inv
theorem Rel.one {w : World} {I : Nat → Prop} {η : List Blk} {v : V} {u : Value} (h : Rel w I η v u) (h1 : v.one = true) : u.oneCell' = true := by
  cases h with
  | d h => cases h <;> first | rfl | (simp [V.one] at h1)
  | _ => first | rfl | (simp [V.one] at h1)

/-- Related one by one. -/
def RelL (w : World) (I : Nat → Prop) (η : List Blk) (cs : List V) (vs : Array Value) : Prop :=
  cs.length = vs.size ∧ ∀ (i : Nat) (v : V) (u : Value), cs[i]? = some v → vs[i]? = some u → Rel w I η v u
theorem RelL.mono {w w' : World} {I I' : Nat → Prop} {η η' : List Blk} {cs : List V} {vs : Array Value} (h : RelL w I η cs vs) (hw : ∀ k, I k → w'.heap[k]? = w.heap[k]?) (hI : ∀ k, I k → I' k) (hη : ∀ (i : Nat) (e : Blk), η[i]? = some e → η'[i]? = some e) : RelL w' I' η' cs vs :=
  ⟨h.1, fun i v u hv hu => (h.2 i v u hv hu).mono hw hI hη⟩

/-- What is no row of cells: maps, iterators, the records of ranges over functions, their blocks of deferred calls. -/
inductive AObj where
  | map (es : List (V × V × Nat)) (clock : Nat)
  | iter (m : Option Nat) (since : Nat) (seen : List Nat) (stepped : Nat)
  | siter (s : ByteArray) (pos : Nat)
  | loop (nf : Nat) (state : LoopState) (pend : Option Code) (tmps : List V) (ps : Array Tmp) (assign body : Code) (d : Nat)
  | coll (some : Bool)
  deriving Inhabited
def AObjRel (w : World) (I : Nat → Prop) (η : List Blk) : AObj → Obj → Prop
  | .map es clock, o => ∃ ms, o = .map ms clock ∧ ms.size = es.length ∧
      ∀ (i : Nat) (x : V × V × Nat) (m : MapEntry), es[i]? = some x → ms[i]? = some m → Rel w I η x.1 m.key ∧ Rel w I η x.2.1 m.val ∧ m.born = x.2.2
  | .iter none since seen stepped, o => o = .mapIter none since seen.toArray stepped
  | .iter (some i) since seen stepped, o => ∃ e, η[i]? = some e ∧ o = .mapIter (some e.b) since seen.toArray stepped
  | .siter s pos, o => o = .stringIter s pos
  | .loop nf state pend tmps ps assign body d, o => ∃ e fn vs, nf = nf ∧ η[d]? = some e ∧ o = .loop { state, pending := pend, fn, tmps := vs, params := ps, assign, body, defers := e.b } ∧ RelL w I η tmps vs
  | .coll b, o => o = .deferred (if b then some [] else none)
theorem AObjRel.mono {w w' : World} {I I' : Nat → Prop} {η η' : List Blk} {o : AObj} {x : Obj} (h : AObjRel w I η o x) (hw : ∀ k, I k → w'.heap[k]? = w.heap[k]?) (hI : ∀ k, I k → I' k) (hη : ∀ (i : Nat) (e : Blk), η[i]? = some e → η'[i]? = some e) : AObjRel w' I' η' o x := by
  cases o with
  | map es clock =>
    obtain ⟨ms, h1, h2, h3⟩ := h
    exact ⟨ms, h1, h2, fun i x m hx hm => let ⟨a, b, c⟩ := h3 i x m hx hm; ⟨a.mono hw hI hη, b.mono hw hI hη, c⟩⟩
  | iter m since seen stepped =>
    cases m with
    | none => exact h
    | some i => obtain ⟨e, h1, h2⟩ := h; exact ⟨e, hη _ _ h1, h2⟩
  | siter s pos => exact h
  | loop nf state pend tmps ps assign body d =>
    obtain ⟨e, fn, vs, h0, h1, h2, h3⟩ := h
    exact ⟨e, fn, vs, h0, hη _ _ h1, h2, h3.mono hw hI hη⟩
  | coll b => exact h

/-- Objects: variables ('box'), rows under slices of the activation's own, maps. 'fz': nobody writes it any more. -/
inductive Ob where
  | box (fz : Bool) (cs : List V)
  | row (fz : Bool) (t : TypeId) (sz : Nat) (xs : List (List V))
  | obj (o : AObj)
  | dead
  deriving Inhabited
def Ob.live : Ob → Bool
  | .dead => false
  | _ => true
def Ob.mut : Ob → Bool
  | .box fz _ => !fz
  | .row fz _ _ _ => !fz
  | .obj _ => true
  | .dead => false
def Ob.frozen : Ob → Bool
  | .box fz _ => fz
  | .row fz _ _ _ => fz
  | .obj _ => false
  | .dead => false
theorem Ob.mut_live {o : Ob} (h : o.mut = true) : o.live = true := by cases o <;> simp_all [Ob.mut, Ob.live]
theorem Ob.frozen_live {o : Ob} (h : o.frozen = true) : o.live = true := by cases o <;> simp_all [Ob.frozen, Ob.live]
theorem Ob.live_cases {o : Ob} (h : o.live = true) : o.mut = true ∨ o.frozen = true := by
  cases o with
  | box fz cs => cases fz <;> simp [Ob.mut, Ob.frozen]
  | row fz t sz xs => cases fz <;> simp [Ob.mut, Ob.frozen]
  | obj o => simp [Ob.mut]
  | dead => simp [Ob.live] at h

def ObRel (w : World) (I : Nat → Prop) (η : List Blk) (e : Blk) : Ob → Prop
  | .box _ cs => ∃ vs t, w.heap[e.b]? = some (.cells vs t (0, 0)) ∧ vs.size = cs.length ∧
      ∀ (j : Nat) (v : V) (u : Value), cs[j]? = some v → vs[j]? = some u → Rel w I η v u
  | .row _ t sz xs => e.sz = sz ∧ 0 < sz ∧ (∀ (i : Nat) (x : List V), xs[i]? = some x → x.length = sz) ∧ xs.length ≤ e.cap ∧ e.cap ≤ maxLen ∧
      ∃ vs, w.heap[e.b]? = some (.cells vs t (0, 0)) ∧ vs.size = e.cap * sz ∧
      ∀ (i : Nat) (x : List V) (j : Nat) (v : V) (u : Value), xs[i]? = some x → x[j]? = some v → vs[i * sz + j]? = some u → Rel w I η v u
  | .obj o => ∃ x, w.heap[e.b]? = some x ∧ AObjRel w I η o x
  | .dead => True

theorem ObRel.mono {w w' : World} {I I' : Nat → Prop} {η η' : List Blk} {e : Blk} {o : Ob} (h : ObRel w I η e o)
    (hw : ∀ k, I k → w'.heap[k]? = w.heap[k]?) (hI : ∀ k, I k → I' k) (hη : ∀ (i : Nat) (e : Blk), η[i]? = some e → η'[i]? = some e)
    (hb : o.live = true → w'.heap[e.b]? = w.heap[e.b]?) : ObRel w' I' η' e o := by
  cases o with
  | box fz cs =>
    obtain ⟨vs, t, h1, h2, h3⟩ := h
    exact ⟨vs, t, (hb rfl).trans h1, h2, fun j v u hv hu => (h3 j v u hv hu).mono hw hI hη⟩
  | row fz t sz xs =>
    obtain ⟨h1, h2, h3, h4, h5, vs, h6, h7, h8⟩ := h
    exact ⟨h1, h2, h3, h4, h5, vs, (hb rfl).trans h6, h7, fun i x j v u hx hv hu => (h8 i x j v u hx hv hu).mono hw hI hη⟩
  | obj o => obtain ⟨x, h1, h2⟩ := h; exact ⟨x, (hb rfl).trans h1, h2.mono hw hI hη⟩
  | dead => trivial

theorem ObRel.lt {w : World} {I : Nat → Prop} {η : List Blk} {e : Blk} {o : Ob} (h : ObRel w I η e o) (hl : o.live = true) : e.b < w.heap.size := by
  cases o with
  | box fz cs => obtain ⟨vs, t, h1, _⟩ := h; exact (Array.getElem?_eq_some_iff.1 h1).1
  | row fz t sz xs => obtain ⟨_, _, _, _, _, vs, h1, _⟩ := h; exact (Array.getElem?_eq_some_iff.1 h1).1
  | obj o => obtain ⟨x, h1, _⟩ := h; exact (Array.getElem?_eq_some_iff.1 h1).1
  | dead => simp [Ob.live] at hl

/-- Deferred calls: the mark of a range over a function; a call. -/
inductive Df where
  | mark (i : Nat)
  | call (f : Fn) (caps args : List V)
inductive DfRel (w : World) (I : Nat → Prop) (η : List Blk) : Df → Deferred → Prop
  | mark (i : Nat) (e : Blk) (h : η[i]? = some e) : DfRel w I η (.mark i) { target := .collected e.b, args := #[] }
  | call (f : Fn) (caps args : List V) (us vs : Array Value) (h1 : RelL w I η caps us) (h2 : RelL w I η args vs) : DfRel w I η (.call f caps args) { target := .fn f us, args := vs }
theorem DfRel.mono {w w' : World} {I I' : Nat → Prop} {η η' : List Blk} {d : Df} {x : Deferred} (h : DfRel w I η d x) (hw : ∀ k, I k → w'.heap[k]? = w.heap[k]?) (hI : ∀ k, I k → I' k) (hη : ∀ (i : Nat) (e : Blk), η[i]? = some e → η'[i]? = some e) : DfRel w' I' η' d x := by
  cases h with
  | mark i e h => exact .mark i e (hη _ _ h)
  | call f caps args us vs h1 h2 => exact .call f caps args us vs (h1.mono hw hI hη) (h2.mono hw hI hη)
inductive DfL (w : World) (I : Nat → Prop) (η : List Blk) : List Df → List Deferred → Prop
  | nil : DfL w I η [] []
  | cons {d : Df} {x : Deferred} {ds : List Df} {xs : List Deferred} (h : DfRel w I η d x) (t : DfL w I η ds xs) : DfL w I η (d :: ds) (x :: xs)
theorem DfL.mono {w w' : World} {I I' : Nat → Prop} {η η' : List Blk} {d : List Df} {x : List Deferred} (h : DfL w I η d x) (hw : ∀ k, I k → w'.heap[k]? = w.heap[k]?) (hI : ∀ k, I k → I' k) (hη : ∀ (i : Nat) (e : Blk), η[i]? = some e → η'[i]? = some e) : DfL w' I' η' d x := by
  induction h with
  | nil => exact .nil
  | cons h t ih => exact .cons (h.mono hw hI hη) ih
theorem DfL.append {w : World} {I : Nat → Prop} {η : List Blk} {d d' : List Df} {x x' : List Deferred} (h : DfL w I η d x) (h' : DfL w I η d' x') : DfL w I η (d ++ d') (x ++ x') := by
  induction h with
  | nil => exact h'
  | cons h t ih => exact .cons h ih

/-- A state: the temporaries (N of them), the objects, the deferred calls. -/
structure St where
  N : Nat
  s : Nat → V
  G : List Ob
  D : List Df

/-- U: blocks that are left alone; I: blocks through which data is read. -/
structure WR (st : St) (a : Act) (w : World) (U I : Nat → Prop) (η : List Blk) : Prop where
  size : a.tmps.size = st.N
  len : η.length = st.G.length
  lt : ∀ k, U k ∨ I k → k < w.heap.size
  inj : ∀ (i j : Nat) (e e' : Blk) (o o' : Ob), η[i]? = some e → η[j]? = some e' → st.G[i]? = some o → st.G[j]? = some o' → o.live = true → o'.live = true → e.b = e'.b → i = j
  mt : ∀ (i : Nat) (e : Blk) (o : Ob), η[i]? = some e → st.G[i]? = some o → o.mut = true → ¬ U e.b ∧ ¬ I e.b
  frz : ∀ (i : Nat) (e : Blk) (o : Ob), η[i]? = some e → st.G[i]? = some o → o.frozen = true → I e.b
  ob : ∀ (i : Nat) (e : Blk) (o : Ob), η[i]? = some e → st.G[i]? = some o → ObRel w I η e o
  sl : ∀ t, Rel w I η (st.s t) (a.eval (.tmp t))
  df : DfL w I η st.D a.defers
  glb : ∀ g, RelD w I (gl g) (.pointer (some ⟨g, 0, none⟩))

/-- Objects keep their places. -/
def Ext (η η' : List Blk) : Prop := ∀ (i : Nat) (e : Blk), η[i]? = some e → η'[i]? = some e
theorem Ext.refl (η : List Blk) : Ext η η := fun _ _ h => h
theorem Ext.trans {η η' η'' : List Blk} (h : Ext η η') (k : Ext η' η'') : Ext η η'' := fun i e hi => k i e (h i e hi)

/-- What is kept from a world to a later one. -/
structure Keep (U I : Nat → Prop) (w w' : World) : Prop where
  os : w'.os = w.os
  tape : w'.tape = w.tape
  output : w'.output = w.output
  size : w.heap.size ≤ w'.heap.size
  block : ∀ k, U k ∨ I k → w'.heap[k]? = w.heap[k]?
theorem Keep.refl (U I : Nat → Prop) (w : World) : Keep U I w w := ⟨rfl, rfl, rfl, Nat.le_refl _, fun _ _ => rfl⟩
theorem Keep.trans {U I I' : Nat → Prop} {a b c : World} (h : Keep U I a b) (k : Keep U I' b c) (hI : ∀ k, I k → I' k) : Keep U I a c :=
  ⟨k.os.trans h.os, k.tape.trans h.tape, k.output.trans h.output, Nat.le_trans h.size k.size, fun i hi => (k.block i (hi.imp id (hI i))).trans (h.block i hi)⟩
theorem Keep.drewN {U I : Nat → Prop} {w w' : World} (h : Keep U I w w') (n : Nat) : Keep U I w (w'.drewN n) := ⟨h.os, h.tape, h.output, h.size, h.block⟩

theorem Act.eval_put {a : Act} {d t : Tmp} {u : Value} : (a.put (some d) u).eval (.tmp t) = if t = d ∧ d < a.tmps.size then u else a.eval (.tmp t) := by
  simp only [Act.put, Act.eval, Array.getD_eq_getD_getElem?, Array.getElem?_setIfInBounds]
  by_cases h : d = t
  · subst h
    by_cases h2 : d < a.tmps.size <;> simp [h2]
  · rw [if_neg h, if_neg (by rintro ⟨rfl, _⟩; exact h rfl)]

def St.set (st : St) (d : Nat) (v : V) : St := { st with s := fun t => if t = d then v else st.s t }
def St.put (st : St) (d : Option Nat) (v : V) : Option St :=
  match d with
  | some d => if d < st.N then some (st.set d v) else none
  | none => some st

theorem WR.put {st st' : St} {a : Act} {w : World} {U I : Nat → Prop} {η : List Blk} (H : WR st a w U I η) {d : Option Nat} {v : V} {u : Value} (hv : Rel w I η v u) (h : st.put d v = some st') :
    WR st' (a.put d u) w U I η ∧ (a.put d u).defers = a.defers := by
  cases d with
  | none =>
    injection h with h
    subst h
    exact ⟨H, rfl⟩
  | some d =>
    simp only [St.put] at h
    split at h
    · rename_i hd
      injection h with h
      subst h
      refine ⟨⟨by simp [Act.put, St.set, H.size], H.len, H.lt, H.inj, H.mt, H.frz, H.ob, fun t => ?_, by simpa [Act.put, St.set] using H.df, H.glb⟩, rfl⟩
      rw [Act.eval_put]
      simp only [St.set]
      by_cases ht : t = d
      · rw [if_pos ht, if_pos ⟨ht, by rw [H.size]; exact hd⟩]
        exact hv
      · rw [if_neg ht, if_neg (by rintro ⟨h, _⟩; exact ht h)]
        exact H.sl t
    · cases h

/-- The world turns, but for nothing that the state speaks of. -/
theorem WR.world {st : St} {a : Act} {w w' : World} {U I I' : Nat → Prop} {η : List Blk} (H : WR st a w U I η) (hk : Keep U I w w')
    (hb : ∀ (i : Nat) (e : Blk) (o : Ob), η[i]? = some e → st.G[i]? = some o → o.live = true → w'.heap[e.b]? = w.heap[e.b]?)
    (hI : ∀ k, I k → I' k) (hlt : ∀ k, I' k → k < w'.heap.size) (hmt : ∀ (i : Nat) (e : Blk) (o : Ob), η[i]? = some e → st.G[i]? = some o → o.mut = true → ¬ I' e.b) : WR st a w' U I' η :=
  ⟨H.size, H.len, fun k hk' => hk'.elim (fun hu => Nat.lt_of_lt_of_le (H.lt k (.inl hu)) hk.size) (hlt k), H.inj,
   fun i e o h1 h2 h3 => ⟨(H.mt i e o h1 h2 h3).1, hmt i e o h1 h2 h3⟩, fun i e o h1 h2 h3 => hI _ (H.frz i e o h1 h2 h3),
   fun i e o h1 h2 => (H.ob i e o h1 h2).mono (fun k h => hk.block k (.inr h)) hI (fun _ _ h => h) (hb i e o h1 h2),
   fun t => (H.sl t).mono (fun k h => hk.block k (.inr h)) hI (fun _ _ h => h), H.df.mono (fun k h => hk.block k (.inr h)) hI (fun _ _ h => h), fun g => (H.glb g).mono (fun k h => hk.block k (.inr h)) hI⟩

end Go.Ab
