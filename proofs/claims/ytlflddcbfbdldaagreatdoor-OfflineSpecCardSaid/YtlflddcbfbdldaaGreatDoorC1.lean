/- Ab, part 19: programs run on abstract states. -/
import Derived.Test.YtlflddcbfbdldaaGreatDoorBA
namespace Go.Ab
open Go

/-! ### The same, to the letter -/
mutual
def V.same : V → V → Bool
  | .undef, .undef => true
  | .int k a, .int k' b => decide (k = k' ∧ a = b)
  | .bool a, .bool b => a == b
  | .str a, .str b => decide (a = b)
  | .sl xs a, .sl ys b => V.sameLL xs ys && a == b
  | .ep xs i o, .ep ys j p => V.sameLL xs ys && decide (i = j ∧ o = p)
  | .agg xs, .agg ys => V.sameL xs ys
  | .tup xs, .tup ys => V.sameL xs ys
  | .ifc t x, .ifc u y => decide (t = u) && V.same x y
  | .pnil, .pnil => true
  | .fnil, .fnil => true
  | .inil, .inil => true
  | .mnil, .mnil => true
  | .ptr i o, .ptr j p => decide (i = j ∧ o = p)
  | .rp i o a, .rp j p b => decide (i = j ∧ o = p ∧ a = b)
  | .row i o, .row j p => decide (i = j ∧ o = p)
  | .map i, .map j => decide (i = j)
  | .fn f a b, .fn g c d => decide (f = g) && V.sameL a c && V.sameL b d
  | .yld i, .yld j => decide (i = j)
  | _, _ => false
def V.sameL : List V → List V → Bool
  | [], [] => true
  | x :: xs, y :: ys => V.same x y && V.sameL xs ys
  | _, _ => false
def V.sameLL : List (List V) → List (List V) → Bool
  | [], [] => true
  | x :: xs, y :: ys => V.sameL x y && V.sameLL xs ys
  | _, _ => false
end
mutual
theorem V.same_eq : ∀ (x y : V), V.same x y = true → x = y := by
  intro x y h
  cases x <;> cases y <;> simp only [V.same, reduceCtorEq, Bool.and_eq_true, decide_eq_true_eq, beq_iff_eq] at h
  case undef.undef => rfl
  case int.int => obtain ⟨rfl, rfl⟩ := h; rfl
  case bool.bool => rw [h]
  case str.str => rw [h]
  case sl.sl => obtain ⟨h1, rfl⟩ := h; rw [V.sameLL_eq _ _ h1]
  case ep.ep => obtain ⟨h1, rfl, rfl⟩ := h; rw [V.sameLL_eq _ _ h1]
  case agg.agg => rw [V.sameL_eq _ _ h]
  case tup.tup => rw [V.sameL_eq _ _ h]
  case ifc.ifc => obtain ⟨rfl, h1⟩ := h; rw [V.same_eq _ _ h1]
  case pnil.pnil => rfl
  case fnil.fnil => rfl
  case inil.inil => rfl
  case mnil.mnil => rfl
  case ptr.ptr => obtain ⟨rfl, rfl⟩ := h; rfl
  case rp.rp => obtain ⟨rfl, rfl, rfl⟩ := h; rfl
  case row.row => obtain ⟨rfl, rfl⟩ := h; rfl
  case map.map => rw [h]
  case fn.fn => obtain ⟨⟨rfl, h1⟩, h2⟩ := h; rw [V.sameL_eq _ _ h1, V.sameL_eq _ _ h2]
  case yld.yld => rw [h]
theorem V.sameL_eq : ∀ (x y : List V), V.sameL x y = true → x = y
  | [], [], _ => rfl
  | x :: xs, y :: ys, h => by
    simp only [V.sameL, Bool.and_eq_true] at h
    rw [V.same_eq _ _ h.1, V.sameL_eq _ _ h.2]
  | [], _ :: _, h => by simp [V.sameL] at h
  | _ :: _, [], h => by simp [V.sameL] at h
theorem V.sameLL_eq : ∀ (x y : List (List V)), V.sameLL x y = true → x = y
  | [], [], _ => rfl
  | x :: xs, y :: ys, h => by
    simp only [V.sameLL, Bool.and_eq_true] at h
    rw [V.sameL_eq _ _ h.1, V.sameLL_eq _ _ h.2]
  | [], _ :: _, h => by simp [V.sameLL] at h
  | _ :: _, [], h => by simp [V.sameLL] at h
end
def sameEs : List (V × V × Nat) → List (V × V × Nat) → Bool
  | [], [] => true
  | (a, b, c) :: xs, (a', b', c') :: ys => V.same a a' && V.same b b' && decide (c = c') && sameEs xs ys
  | _, _ => false
theorem sameEs_eq : ∀ (x y : List (V × V × Nat)), sameEs x y = true → x = y
  | [], [], _ => rfl
  | (a, b, c) :: xs, (a', b', c') :: ys, h => by
    simp only [sameEs, Bool.and_eq_true, decide_eq_true_eq] at h
    obtain ⟨⟨⟨h1, h2⟩, h3⟩, h4⟩ := h
    rw [V.same_eq _ _ h1, V.same_eq _ _ h2, h3, sameEs_eq _ _ h4]
  | [], _ :: _, h => by simp [sameEs] at h
  | _ :: _, [], h => by simp [sameEs] at h
def Ob.same : Ob → Ob → Bool
  | .box f xs, .box g ys => f == g && V.sameL xs ys
  | .row f t s xs, .row g u r ys => f == g && decide (t = u ∧ s = r) && V.sameLL xs ys
  | .obj (.map es c), .obj (.map es' c') => sameEs es es' && decide (c = c')
  | .obj (.coll a), .obj (.coll b) => a == b
  | .dead, .dead => true
  | _, _ => false
theorem Ob.same_eq {a b : Ob} (h : Ob.same a b = true) : a = b := by
  unfold Ob.same at h
  split at h
  · simp only [Bool.and_eq_true, beq_iff_eq] at h; obtain ⟨rfl, h⟩ := h; rw [V.sameL_eq _ _ h]
  · simp only [Bool.and_eq_true, beq_iff_eq, decide_eq_true_eq] at h; obtain ⟨⟨rfl, rfl, rfl⟩, h⟩ := h; rw [V.sameLL_eq _ _ h]
  · simp only [Bool.and_eq_true, decide_eq_true_eq] at h; rw [sameEs_eq _ _ h.1, h.2]
  · simp only [beq_iff_eq] at h; rw [h]
  · rfl
  · cases h
def geB : List Ob → List Ob → Bool
  | [], _ => true
  | a :: as, b :: bs => Ob.same a b && geB as bs
  | _ :: _, [] => false
theorem geB_ge : ∀ (G G' : List Ob), geB G G' = true → GE G G'
  | [], _, _ => fun i o h => by simp at h
  | a :: as, b :: bs, h => by
    simp only [geB, Bool.and_eq_true] at h
    intro i o hi
    cases i with
    | zero => simp at hi; subst hi; simp [Ob.same_eq h.1]
    | succ i => exact geB_ge as bs h.2 i o (by simpa using hi)
  | _ :: _, [], h => by simp [geB] at h

/-! ### Values, worked out: each of these is the identity, in a form in which the kernel works its argument out first -/
def natK {α : Type} (n : Nat) (k : Nat → α) : α := match n with | .zero => k .zero | .succ m => k (.succ m)
theorem natK_eq {α : Type} (n : Nat) (k : Nat → α) : natK n k = k n := by cases n <;> rfl
def boolK {α : Type} (b : Bool) (k : Bool → α) : α := match b with | true => k true | false => k false
theorem boolK_eq {α : Type} (b : Bool) (k : Bool → α) : boolK b k = k b := by cases b <;> rfl
def intK {α : Type} (n : Int) (k : Int → α) : α := match n with | .ofNat m => natK m fun m => k (.ofNat m) | .negSucc m => natK m fun m => k (.negSucc m)
theorem intK_eq {α : Type} (n : Int) (k : Int → α) : intK n k = k n := by cases n <;> simp [intK, natK_eq]
def V.wh {α : Type} (v : V) (k : V → α) : α :=
  match v with
  | .undef => k .undef
  | .int q n => intK n fun n => k (.int q n)
  | .anyI q => k (.anyI q)
  | .bool b => boolK b fun b => k (.bool b)
  | .str s => k (.str s)
  | .sl xs nil => boolK nil fun nil => k (.sl xs nil)
  | .ep xs i off => natK i fun i => natK off fun off => k (.ep xs i off)
  | .agg cs => k (.agg cs)
  | .tup vs => k (.tup vs)
  | .ifc t v => k (.ifc t v)
  | .pnil => k .pnil
  | .fnil => k .fnil
  | .inil => k .inil
  | .mnil => k .mnil
  | .ptr i off => natK i fun i => natK off fun off => k (.ptr i off)
  | .rp i idx off => natK i fun i => natK idx fun idx => natK off fun off => k (.rp i idx off)
  | .row i len => natK i fun i => natK len fun len => k (.row i len)
  | .map i => natK i fun i => k (.map i)
  | .fn f a b => k (.fn f a b)
  | .yld i => natK i fun i => k (.yld i)
theorem V.wh_eq {α : Type} (v : V) (k : V → α) : v.wh k = k v := by cases v <;> simp [V.wh, natK_eq, boolK_eq, intK_eq]
def spK {α : Type} : List V → (List V → α) → α
  | [], k => k []
  | v :: vs, k => v.wh fun v => spK vs fun vs => k (v :: vs)
theorem spK_eq {α : Type} : ∀ (l : List V) (k : List V → α), spK l k = k l
  | [], k => rfl
  | v :: vs, k => by simp [spK, V.wh_eq, spK_eq vs]
def sp2K {α : Type} : List (List V) → (List (List V) → α) → α
  | [], k => k []
  | v :: vs, k => spK v fun v => sp2K vs fun vs => k (v :: vs)
theorem sp2K_eq {α : Type} : ∀ (l : List (List V)) (k : List (List V) → α), sp2K l k = k l
  | [], k => rfl
  | v :: vs, k => by simp [sp2K, spK_eq, sp2K_eq vs]
def V.sh {α : Type} (v : V) (k : V → α) : α :=
  v.wh fun v => match v with
  | .agg cs => spK cs fun cs => k (.agg cs)
  | .tup cs => spK cs fun cs => k (.tup cs)
  | .fn f a b => spK a fun a => spK b fun b => k (.fn f a b)
  | .ifc t v => v.wh fun v => k (.ifc t v)
  | v => k v
theorem V.sh_eq {α : Type} (v : V) (k : V → α) : v.sh k = k v := by
  unfold V.sh
  rw [V.wh_eq]
  cases v <;> simp [spK_eq, V.wh_eq]
def V.s2 {α : Type} (v : V) (k : V → α) : α :=
  v.wh fun v => match v with
  | .sl xs nil => sp2K xs fun xs => k (.sl xs nil)
  | v => k v
theorem V.s2_eq {α : Type} (v : V) (k : V → α) : v.s2 k = k v := by
  unfold V.s2
  rw [V.wh_eq]
  cases v <;> simp [sp2K_eq]
def resK {α : Type} (o : Op) (v : V) (k : V → α) : α :=
  match o with
  | .move _ => v.wh k
  | .assign _ => v.wh k
  | .extract _ _ => v.wh k
  | .slice _ _ _ _ _ => v.s2 k
  | _ => v.sh k
theorem resK_eq {α : Type} (o : Op) (v : V) (k : V → α) : resK o v k = k v := by
  unfold resK
  split <;> simp [V.wh_eq, V.s2_eq, V.sh_eq]
def esK {α : Type} : List (V × V × Nat) → (List (V × V × Nat) → α) → α
  | [], k => k []
  | (a, b, n) :: es, k => a.sh fun a => b.sh fun b => natK n fun n => esK es fun es => k ((a, b, n) :: es)
theorem esK_eq {α : Type} : ∀ (l : List (V × V × Nat)) (k : List (V × V × Nat) → α), esK l k = k l
  | [], k => rfl
  | (a, b, n) :: es, k => by simp [esK, V.sh_eq, natK_eq, esK_eq es]
def Ob.wk {α : Type} (o : Ob) (k : Ob → α) : α :=
  match o with
  | .box fz cs => boolK fz fun fz => spK cs fun cs => k (.box fz cs)
  | .row fz t sz xs => boolK fz fun fz => sp2K xs fun xs => k (.row fz t sz xs)
  | .obj (.map es c) => natK c fun c => esK es fun es => k (.obj (.map es c))
  | .obj (.coll b) => k (.obj (.coll b))
  | .obj (.loop nf s p tm ps a b d) => k (.obj (.loop nf s p tm ps a b d))
  | .dead => k .dead
  | o => k o
theorem Ob.wk_eq {α : Type} (o : Ob) (k : Ob → α) : o.wk k = k o := by
  unfold Ob.wk
  split <;> simp [boolK_eq, spK_eq, sp2K_eq, natK_eq, esK_eq]
def obsK {α : Type} : List Ob → (List Ob → α) → α
  | [], k => k []
  | o :: os, k => o.wk fun o => obsK os fun os => k (o :: os)
theorem obsK_eq {α : Type} : ∀ (l : List Ob) (k : List Ob → α), obsK l k = k l
  | [], k => rfl
  | o :: os, k => by simp [obsK, Ob.wk_eq, obsK_eq os]
/-- The objects behind an operation: as they were if it only reads. -/
def objK {α : Type} (o : Op) (G : List Ob) (k : List Ob → α) : α :=
  match kindOf o with
  | .pure => k G
  | .read => k G
  | _ => obsK G k
theorem objK_eq {α : Type} (o : Op) (G : List Ob) (k : List Ob → α) : objK o G k = k G := by
  unfold objK
  split <;> simp [obsK_eq]

/-! ### Temporaries in a tree -/
inductive T where
  | nil
  | node (l : T) (v : V) (r : T)
def T.get : T → Nat → V
  | .nil, _ => .undef
  | .node l v r, n => match n with
    | .zero => v
    | .succ m => match m % 2 with
      | .zero => l.get (m / 2)
      | .succ _ => r.get (m / 2)
def T.full : Nat → T
  | 0 => .nil
  | d + 1 => let t := T.full d; .node t .undef t
theorem T.get_full : ∀ (d n : Nat), (T.full d).get n = .undef
  | 0, n => rfl
  | d + 1, n => by
    cases n with
    | zero => rfl
    | succ m =>
      simp only [T.full, T.get]
      split <;> exact T.get_full d _
abbrev M (α : Type) := Option α
def fail {α : Type} (_ : String) : M α := none
def ofO {α : Type} (_ : String) (o : Option α) : M α := o
def toO {α : Type} (x : M α) : Option α := x
def T.setK {α : Type} : T → Nat → V → (T → M α) → M α
  | .nil, _, _, _ => fail "set"
  | .node l w r, n, v, k => match n with
    | .zero => k (.node l v r)
    | .succ m => match m % 2 with
      | .zero => l.setK (m / 2) v fun l => k (.node l w r)
      | .succ _ => r.setK (m / 2) v fun r => k (.node l w r)

structure CSt where
  N : Nat
  tm : T
  G : List Ob
  D : List Df
def CSt.st (c : CSt) : St := ⟨c.N, c.tm.get, c.G, c.D⟩
/-- A temporary's new value, the objects being these. -/
def CSt.putK {α : Type} (c : CSt) (G : List Ob) (d : Option Nat) (v : V) (k : CSt → M α) : M α :=
  match d with
  | none => k ⟨c.N, c.tm, G, c.D⟩
  | some d => if d < c.N then c.tm.setK d v fun tm => k ⟨c.N, tm, G, c.D⟩ else fail "put"
def T.ofLK {α : Type} : List V → Nat → T → (T → M α) → M α
  | [], _, t, k => k t
  | v :: vs, i, t, k => t.setK i v fun t => T.ofLK vs (i + 1) t k
/-- A state of n temporaries, the first of them these. -/
def CSt.ofK {α : Type} (N : Nat) (vs : List V) (G : List Ob) (k : CSt → M α) : M α :=
  natK N fun N => T.ofLK vs 0 (T.full (Nat.log2 (N + 1) + 1)) fun tm => k ⟨N, tm, G, []⟩
def T.listK {α : Type} (t : T) : Nat → Nat → (List V → α) → α
  | _, 0, k => k []
  | i, n + 1, k => (t.get i).wh fun v => T.listK t (i + 1) n fun vs => k (v :: vs)

/-! ### The run -/
structure Ev where
  code : Option Nat → Code → CSt → M (Ex × CSt)
  call : FuncId → List V → List Ob → M (Out × List Ob)
  lib : FuncId → List V → Option V

def outData : Out → Bool
  | .ret v => v.isData
  | .panic v => v.isData
/-- A call on data, with no objects. -/
def evCallQ (E : Ev) (f : FuncId) (args : List V) : Option Out :=
  match E.lib f args with
  | some v => some (.ret v)
  | none =>
    if args.all V.isData = true then
      match toO (E.call f args []) with
      | some r => if outData r.1 = true then some r.1 else none
      | none => none
    else none
def evCall (E : Ev) (f : FuncId) (args : List V) (G : List Ob) : M (Out × List Ob) :=
  match evCallQ E f args with
  | some x => pure (x, G)
  | none => E.call f args G

/-- A round's end. -/
def evRound (i : Nat) (r : Ex × CSt) : M (Out × List Ob) :=
  let fin (jump : Option Code) : M (Out × List Ob) := match r.2.G[i]? with
    | some (.obj (.loop nf _ _ tm ps as bd d)) => obsK (r.2.G.set i (.obj (.loop nf (if jump.isNone then .ready else .done) jump tm ps as bd d))) fun G => pure (.ret (.bool jump.isNone), G)
    | _ => fail "round: no loop"
  match r.1 with
  | .normal => fin none
  | .ret => fin (some .ret)
  | .exit id => fin (some (.exit id))
  | .goto l => fin (some (.goto l))
  | .panic v => match r.2.D with
    | [] => pure (.panic v, r.2.G)
    | _ => fail "round: defers"

def evOp (P : Program) (E : Ev) (o : Oper) (c : CSt) : M (Out × List Ob) :=
  match absX P c.st o.op with
  | some (v, ⟨_, _, G, _⟩) => resK o.op v fun v => objK o.op G fun G => pure (.ret v, G)
  | none => match o.op with
    | .call cl => match cl.callee with
      | .value g => match c.st.ev g with
        | .fn (.func f) first caps => if enters P f = true then spK (first ++ cl.args.toList.map c.st.ev ++ caps) fun args => evCall E f args c.G else fail "call: no body"
        | .yld i => match c.G[i]? with
          | some (.obj (.loop _ _ _ tm ps assign body _)) =>
            if cl.args.size = ps.size then
              spK ((ps.toList.zip (cl.args.toList.map c.st.ev)).foldl (fun l p => l.set p.1 p.2) tm) fun tm' => CSt.ofK tm.length tm' c.G fun c0 =>
              (E.code (some i) assign c0).bind fun r0 => match r0.1, r0.2.G[i]? with
                | .normal, some (.obj (.loop nf .ready pend tm ps as bd d)) =>
                  obsK (r0.2.G.set i (.obj (.loop nf .busy pend tm ps as bd d))) fun G1 =>
                  (E.code (some i) body ⟨r0.2.N, r0.2.tm, G1, r0.2.D⟩).bind fun r => evRound i r
                | _, _ => fail "yield: not ready"
            else fail "yield: args"
          | _ => fail "yield: no loop"
        | _ => fail ("call: unknown callee at " ++ o.pos)
      | _ => fail ("builtin at " ++ o.pos)
    | .panic x => match c.st.ev x with
      | .ifc t v => pure (.panic (.ifc t v), c.G)
      | _ => fail "panic"
    | _ => fail ("op at " ++ o.pos)

def evList (P : Program) (E : Ev) (rd : Option Nat) (ops : Array Oper) : List Oper → CSt → M (Ex × CSt)
  | [], c => pure (.normal, c)
  | o :: rest, c => match wantA ops c.st o with
    | some false => c.putK c.G o.dst (.tup []) (evList P E rd ops rest)
    | some true => match o.op with
      | .defer cl => match rd, o.guard, cl.callee with
        | none, none, .value g => match c.st.ev g with
          | .fn f first caps => spK (first ++ cl.args.toList.map c.st.ev) fun args => CSt.putK ⟨c.N, c.tm, c.G, .call f caps args :: c.D⟩ c.G o.dst (.tup []) (evList P E rd ops rest)
          | _ => fail "defer"
        | _, _, _ => fail "defer"
      | _ => (evOp P E o c).bind fun r => match r with
        | (.ret v, G) => c.putK G o.dst v (evList P E rd ops rest)
        | (.panic v, G) => pure (.panic v, ⟨c.N, c.tm, G, c.D⟩)
    | none => fail ("guard at " ++ o.pos)

def evLex (P : Program) (E : Ev) (ops : Array Oper) : List Oper → CSt → M CSt
  | [], c => pure c
  | o :: rest, c => match wantA ops c.st o with
    | some false => c.putK c.G o.dst (.tup []) (evLex P E ops rest)
    | some true => match absX P c.st o.op with
      | some (v, ⟨_, _, G, _⟩) => match o.op with
        | .defer _ => fail "defer"
        | _ => resK o.op v fun v => objK o.op G fun G => c.putK G o.dst v (evLex P E ops rest)
      | none => match o.op with
        | .call cl => match cl.callee with
          | .value g => match c.st.ev g with
            | .fn (.func f) first caps => if enters P f = true then spK (first ++ cl.args.toList.map c.st.ev ++ caps) fun args => match evCallQ E f args with
                | some (.ret v) => c.putK c.G o.dst v (evLex P E ops rest)
                | some (.panic _) => fail ("panic in a drawn region at " ++ o.pos)
                | none => (E.call f args (hideL c.G)).bind fun r => match r with
                  | (.ret v, G) => if geB (hideL c.G) G = true then obsK (showL c.G G) fun G => c.putK G o.dst v (evLex P E ops rest) else fail ("ge at " ++ o.pos)
                  | (.panic _, _) => fail ("panic in a drawn region at " ++ o.pos)
              else fail "call: no body"
            | _ => fail ("draw: unknown callee at " ++ o.pos)
          | _ => fail ("draw: builtin at " ++ o.pos)
        | _ => fail ("draw: op at " ++ o.pos)
    | none => fail ("guard at " ++ o.pos)

def evRange (L : Nat) (c : CSt) (D : List Df) (r : Out × List Ob) : M (Ex × CSt) :=
  match r.1 with
  | .ret _ => match r.2[L]? with
    | some (.obj (.loop nf state pend tm ps as bd d)) =>
      if state = .busy then fail "range: busy" else
        obsK (r.2.set L (.obj (.loop nf .exhausted pend tm ps as bd d))) fun G =>
        let c' : CSt := ⟨c.N, c.tm, G, D⟩
        match pend with
        | none => pure (.normal, c')
        | some .ret => pure (.ret, c')
        | some (.exit i) => pure (.exit i, c')
        | some (.goto l) => pure (.goto l, c')
        | _ => fail "range: jump"
    | _ => fail "range: no loop"
  | .panic v => pure (.panic v, ⟨c.N, c.tm, r.2, D⟩)

/-- Rows that are sliced are data from now on. -/
def freezeK {α : Type} : List Nat → CSt → (CSt → M α) → M α
  | [], c, k => k c
  | t :: ts, c, k => match c.tm.get t with
    | .row i len => match c.st.view (.row i len) with
      | some (d, ⟨_, _, G, _⟩) => d.wh fun d => obsK G fun G => c.putK G (some t) d fun c => freezeK ts c k
      | none => freezeK ts c k
    | _ => freezeK ts c k

def evCode (P : Program) (E : Ev) (rd : Option Nat) : Code → CSt → M (Ex × CSt)
  | .skip, c => pure (.normal, c)
  | .exit i, c => pure (.exit i, c)
  | .ret, c => pure (.ret, c)
  | .goto l, c => pure (.goto l, c)
  | .label _, c => pure (.normal, c)
  | .seq x y, c => (evCode P E rd x c).bind fun r => match r with
    | (.normal, c) => evCode P E rd y c
    | (x, c) => pure (x, c)
  | .cond b x y, c => match c.st.ev b with
    | .bool b => if b = true then evCode P E rd x c else evCode P E rd y c
    | _ => fail "cond"
  | .block id b, c => (evCode P E rd b c).bind fun r => match r with
    | (.exit i, c) => if i = id then pure (.normal, c) else pure (.exit i, c)
    | (x, c) => pure (x, c)
  | .loop b, c => (evCode P E rd b c).bind fun r => match r with
    | (.normal, c) => E.code rd (.loop b) c
    | (x, c) => pure (x, c)
  | .region _ ops draw, c0 => freezeK (sliceTmps ops) c0 fun c =>
    if draw = true then
      if lexQ [] ops = true then (evLex P E ops ops.toList c).bind fun s => pure (.normal, s)
      else if apartL c.st (sepOf ops c.st) = true ∧ lexQ (sepOf ops c.st) ops = true then (evLex P E ops ops.toList c).bind fun s => pure (.normal, s)
      else fail ("lex at " ++ ((ops[0]?).map (·.pos)).getD "")
    else evList P E rd ops ops.toList c
  | .rangeFunc g ps assign body, c => match c.st.ev g with
    | .fn (.func f) first caps => if enters P f = true then
        T.listK c.tm 0 c.N fun tm =>
        match rd with
        | none => spK (first ++ [.yld (c.G.length + 1)] ++ caps) fun args => obsK (c.G ++ [.obj (.coll true), .obj (.loop P.funcs.size .ready none tm ps assign body c.G.length)]) fun G =>
            natK c.G.length fun L => (E.call f args G).bind (evRange (L + 1) c (.mark L :: c.D))
        | some i => match c.G[i]? with
          | some (.obj (.loop _ _ _ _ _ _ _ d)) => spK (first ++ [.yld c.G.length] ++ caps) fun args => obsK (c.G ++ [.obj (.loop P.funcs.size .ready none tm ps assign body d)]) fun G =>
            natK c.G.length fun L => (E.call f args G).bind (evRange L c c.D)
          | _ => fail "range in a round: no loop"
      else fail "range: no body"
    | _ => fail "range"
  | _, _ => fail "code"

/-- A deferred function that begins with recover. -/
def recParts (fn : Func) : Option (Nat × Nat × Code) :=
  match fn.body with
  | some (.seq (.region _ ⟨[o0, o1]⟩ false) rest) =>
    match o0.op, o0.guard, o0.dst, o1.op, o1.guard, o1.dst with
    | .call { callee := .builtin .recover, args := ⟨[]⟩, argTypes := ⟨[]⟩ }, none, some d0, .assign (.tmp t), none, some d1 => if t = d0 then some (d0, d1, rest) else none
    | _, _, _, _, _, _ => none
  | _ => none

def evLeave (P : Program) (E : Ev) (fn : Func) : List Df → Option V → CSt → M (Out × List Ob)
  | [], none, c => (ofO "results" (resA P fn c.st)).bind fun v => v.sh fun v => pure (.ret v, c.G)
  | [], some v, c => pure (.panic v, c.G)
  | .mark i :: ds, m, c => match c.G[i]? with
    | some (.obj (.coll true)) => obsK (c.G.set i (.obj (.coll false))) fun G => evLeave P E fn ds m ⟨c.N, c.tm, G, c.D⟩
    | _ => fail "leave: mark"
  | .call (.func f) caps args :: ds, m, c =>
    if enters P f = true then match P.funcs[f]? with
      | some gn => match recParts gn with
        | some (d0, d1, rest) => spK (args ++ caps) fun as =>
          CSt.ofK ((args ++ caps).length + (gn.ntmps - (args ++ caps).length)) as c.G fun c0 =>
          c0.putK c0.G (some d0) (recV m) fun c0 => c0.putK c0.G (some d1) (recV m) fun c0 =>
            (E.code none rest c0).bind fun r =>
              match r.1, r.2.D with
              | .normal, [] => if (resA P gn r.2.st).isSome = true then evLeave P E fn ds none ⟨c.N, c.tm, r.2.G, c.D⟩ else fail "leave: results"
              | .ret, [] => if (resA P gn r.2.st).isSome = true then evLeave P E fn ds none ⟨c.N, c.tm, r.2.G, c.D⟩ else fail "leave: results"
              | _, _ => fail "leave: deferred"
        | none => fail "leave: no recover"
      | none => fail "leave"
    else fail "leave: no body"
  | _, _, _ => fail "leave: what"

def evFn (P : Program) (E : Ev) (f : FuncId) (args : List V) (G : List Ob) : M (Out × List Ob) :=
  match P.funcs[f]? with
  | some fn => match fn.body with
    | some b => CSt.ofK (args.length + (fn.ntmps - args.length)) args G fun c => (evCode P E none b c).bind fun r => match r with
      | (.normal, c) => evLeave P E fn c.D none c
      | (.ret, c) => evLeave P E fn c.D none c
      | (.panic v, c) => evLeave P E fn c.D (some v) c
      | _ => fail "fn: jump"
    | none => fail "fn: no body"
  | none => fail "fn"

def evN (P : Program) (lib : FuncId → List V → Option V) : Nat → Ev
  | 0 => ⟨fun _ _ _ => fail "fuel", fun _ _ _ => fail "fuel", lib⟩
  | n + 1 => ⟨evCode P (evN P lib n), evFn P (evN P lib n), lib⟩
end Go.Ab
