/- Ab, part 23: for walks by hand: words that the simplifier works out. -/
import Derived.Test.YtlflddcbfbdldaaGreatDoorE1
import Derived.IntWalk
namespace Go.Ab
open Go Go.Proofs
attribute [simp] absStep absExec absX absQ St.ev absC St.put absBinT absBin absBinInt absPick absUn absTup absBuiltin absMm absMm2 absLen absAdd absLoad St.behind takeCells absField absIndexAddr absIndexA absIndex absConv absNil isC
attribute [simp] resA resL resV yieldA wantA aboutOk
theorem mix : Tryz.prog.follows .mixedOrders = true := by kernel_rfl
/-- A function on data whose outcome is told with its objects viewed as data. -/
theorem viewL_up {st st' : St} {vs ds : List V} (h : st.viewL vs = some (ds, st')) : ds.length = vs.length := by
  induction vs generalizing st ds with
  | nil => simp [St.viewL] at h; simp [h.1]
  | cons v vs ih =>
    simp only [St.viewL] at h
    obtain ⟨⟨d, st1⟩, h1, h⟩ := Option.bind_eq_some_iff.1 h
    obtain ⟨⟨ds', st2⟩, h2, h⟩ := Option.map_eq_some_iff.1 h
    simp only [Prod.mk.injEq] at h
    obtain ⟨rfl, rfl⟩ := h
    simp [ih h2]
mutual
def V.flat : V → Bool
  | .int _ _ | .bool _ | .str _ | .pnil | .fnil | .inil | .mnil => true
  | .agg cs => V.flatL cs
  | .tup cs => V.flatL cs
  | _ => false
def V.flatL : List V → Bool
  | [] => true
  | v :: vs => V.flat v && V.flatL vs
end
theorem V.flatL_iff {cs : List V} : V.flatL cs = true ↔ ∀ v ∈ cs, V.flat v = true := by
  induction cs with
  | nil => simp [V.flatL]
  | cons v vs ih => simp [V.flatL, ih]
mutual
theorem V.flat_data : ∀ {v : V}, v.flat = true → v.isData = true
  | .agg cs, h => by simp only [V.flat] at h; simp only [V.isData]; exact V.flatL_data h
  | .tup cs, h => by simp only [V.flat] at h; simp only [V.isData]; exact V.flatL_data h
  | .int _ _, _ => rfl
  | .bool _, _ => rfl
  | .str _, _ => rfl
  | .pnil, _ => rfl
  | .fnil, _ => rfl
  | .inil, _ => rfl
  | .mnil, _ => rfl
theorem V.flatL_data : ∀ {vs : List V}, V.flatL vs = true → V.isDataL vs = true
  | [], _ => rfl
  | v :: vs, h => by
    simp only [V.flatL, Bool.and_eq_true] at h
    simp only [V.isDataL, Bool.and_eq_true]
    exact ⟨V.flat_data h.1, V.flatL_data h.2⟩
end
def bare (G : List Ob) : St := ⟨0, fun _ => .undef, G, []⟩
section
variable {P : Program}
theorem W.condT {rd : Option Nat} {Q : Ex → St → Prop} {st : St} {c : Operand} {x y : Code} (hc : st.ev c = .bool true) (h : W P rd x Q st) : W P rd (.cond c x y) Q st := W.cond hc (by rw [if_pos rfl]; exact h)
theorem W.condF {rd : Option Nat} {Q : Ex → St → Prop} {st : St} {c : Operand} {x y : Code} (hc : st.ev c = .bool false) (h : W P rd y Q st) : W P rd (.cond c x y) Q st := W.cond hc (by rw [if_neg (by simp)]; exact h)
theorem RelD.flat {w w' : World} {I I' : Nat → Prop} {v : V} {u : Value} (h : RelD w I v u) (hf : v.flat = true) : RelD w' I' v u := by
  induction h with
  | undef u => simp [V.flat] at hf
  | int k n => exact .int k n
  | anyI k n => simp [V.flat] at hf
  | bool b => exact .bool b
  | str s => exact .str s
  | sl => simp [V.flat] at hf
  | ep => simp [V.flat] at hf
  | agg cs vs hl h ih => exact .agg cs vs hl fun i v u hv hu => ih i v u hv hu (V.flatL_iff.1 (by simpa [V.flat] using hf) v (List.mem_of_getElem? hv))
  | tup cs vs hl h ih => exact .tup cs vs hl fun i v u hv hu => ih i v u hv hu (V.flatL_iff.1 (by simpa [V.flat] using hf) v (List.mem_of_getElem? hv))
  | ifc t v u h ih => simp [V.flat] at hf
  | pnil => exact .pnil
  | fnil => exact .fnil
  | inil => exact .inil
  | mnil => exact .mnil

/-- A function on data is handed rows for the time of the call: what it answers is no part of them. -/
theorem Cal.lend {f : FuncId} {args ds : List V} {v : V} {G : List Ob} {st' : St} (h : Fn1 P f ds v) (hf : v.flat = true) (hv : (bare G).viewL args = some (ds, st')) : Cal P f args G (fun x G' => x = .ret v ∧ G' = G) := by
  intro us w U I η H hr
  obtain ⟨I1, H1, f1, hl1, hr1, _, _⟩ := viewL_run args us.toList (bare G) I ds st' H (by simpa using hr.1) (fun i v u hv hu => hr.2 i v u hv (by simpa using hu)) hv
  let U' : Nat → Prop := fun k => U k ∨ ∃ (i : Nat) (e : Blk) (o : Ob), η[i]? = some e ∧ G[i]? = some o ∧ o.live = true ∧ k = e.b
  have H0 : WG [] w U' I1 [] := by
    refine ⟨rfl, rfl, ?_, fun i j e e' o o' h1 => by simp at h1, fun i e o h1 => by simp at h1, fun i e o h1 => by simp at h1, fun i e o h1 => by simp at h1, fun t => .d (.undef _), .nil, H1.glb⟩
    rintro k ((hk | ⟨i, e, o, h1, h2, h3, rfl⟩) | hk)
    · exact H.lt k (.inl hk)
    · exact (H.ob i e o h1 h2).lt h3
    · exact H1.lt k (.inr hk)
  refine (h [] us w U' I1 [] H0 ⟨by simpa using hl1, fun i v u hv hu => .d (hr1 i v u hv (by simpa using hu))⟩).mono ?_
  rintro e w' ⟨x, G', I', η', k1, ⟨rfl, rfl⟩, k3, k4, k5, k6⟩
  have hk : Keep U I w w' := ⟨k5.os, k5.tape, k5.output, k5.size, fun k hk => k5.block k (hk.imp .inl (f1.le k))⟩
  have Hw : WG G w' U I η := WR.world H hk (fun i e o h1 h2 h3 => k5.block _ (.inl (.inr ⟨i, e, o, h1, h2, h3, rfl⟩))) (fun _ h => h) (fun k hk' => Nat.lt_of_lt_of_le (H.lt k (.inr hk')) k5.size) (fun i e o h1 h2 h3 => (H.mt i e o h1 h2 h3).2)
  obtain ⟨u, rfl, hu⟩ := k1
  have hud : RelD w' I' v u := hu.data (V.flat_data hf)
  exact ⟨.ret v, G, I, η, ⟨u, rfl, .d (hud.flat hf)⟩, ⟨rfl, rfl⟩, Hw, .refl U I, hk, .refl η⟩
theorem WL.lend {rd : Option Nat} {ops : Array Oper} {o : Oper} {rest : List Oper} {Q : Ex → St → Prop} {c : Call} {g : Operand} {st st1 st' : St} {f : FuncId} {first caps ds : List V} {v : V} (hw : wantA ops st o = some true) (ho : o.op = .call c) (hc : c.callee = .value g)
    (hg : st.ev g = .fn (.func f) first caps) (hent : enters P f = true) (hv : (bare st.G).viewL (first ++ c.args.toList.map st.ev ++ caps) = some (ds, st1)) (hf : Fn1 P f ds v) (hfl : v.flat = true) (hp : st.put o.dst v = some st') (h : WL P rd ops rest Q st') : WL P rd ops (o :: rest) Q st :=
  WL.call hw ho hc hg hent (Cal.lend hf hfl hv) (fun v' G' hx => by
    obtain ⟨h1, rfl⟩ := hx
    injection h1 with h1
    subst h1
    exact ⟨st', hp, h⟩) (fun v' G' hx => by cases hx.1)
theorem LexA.lend {ops : Array Oper} {o : Oper} {rest : List Oper} {Q : St → Prop} {c : Call} {g : Operand} {st st1 st' : St} {f : FuncId} {first caps ds : List V} {v : V} (hw : wantA ops st o = some true) (ho : o.op = .call c) (hc : c.callee = .value g)
    (hg : st.ev g = .fn (.func f) first caps) (hent : enters P f = true) (hv : (bare st.G).viewL (first ++ c.args.toList.map st.ev ++ caps) = some (ds, st1)) (hf : Fn1 P f ds v) (hfl : v.flat = true) (hp : st.put o.dst v = some st') (h : LexA P ops Q rest st') : LexA P ops Q (o :: rest) st :=
  ⟨st', ⟨v, st.G, .act hw (.call ho hc hg hent (Cal.lend hf hfl hv) (.refl _)), hp⟩, h⟩
theorem Fn1.ofViewTup {f : FuncId} {args ds : List V} (hd : dataL args) (hdd : dataL ds) (h : Cal P f args [] (fun x G' => ∃ vs st', x = .ret (.tup vs) ∧ (bare G').viewL vs = some (ds, st'))) : Fn1 P f args (.tup ds) := by
  have hD : (V.tup ds).isData = true := by
    have : ∀ l : List V, dataL l → V.isDataL l = true := fun l => by
      induction l with
      | nil => intro _; rfl
      | cons v l ih => intro hl; simp only [V.isDataL, Bool.and_eq_true]; exact ⟨hl v (by simp), ih fun x hx => hl x (by simp [hx])⟩
    simpa [V.isData] using this ds hdd
  have h' : Cal P f args [] (fun x _ => x = .ret (.tup ds) ∧ x.isData) := by
    intro us w U I η H hr
    refine (h us w U I η H hr).mono ?_
    rintro e w' ⟨x, G', I', η', k1, ⟨vs, st', rfl, hv⟩, k3, k4, k5, k6⟩
    obtain ⟨u, rfl, hu⟩ := k1
    obtain ⟨us', rfl, hl, hrel⟩ := hu.tup_inv
    obtain ⟨I2, H2, f2, hl2, hr2, _, _⟩ := viewL_run vs us'.toList (bare G') I' ds st' k3 (by simpa using hl) (fun i v u hv hu => hrel i v u hv (by simpa using hu)) hv
    refine ⟨.ret (.tup ds), st'.G, I2, η', ⟨_, rfl, .d (.tup _ _ (by simpa using hl2) (fun i v u hv hu => hr2 i v u hv (by simpa using hu)))⟩, ⟨rfl, hD⟩, H2.bare, k4.trans f2, k5, k6⟩
  intro G
  exact (Cal.frame hd (Φ := fun x => x = .ret (.tup ds)) h' G).mono fun x G' hx => ⟨hx.1, hx.2.2⟩
/-- A function on data, run. -/
def runB (P : Program) (lib : FuncId → List V → Option V) (n : Nat) (f : FuncId) (args : List V) (v : V) : Bool :=
  match (evN P lib n).call f args [] with
  | some (.ret u, _) => V.same u v && v.isData && args.all V.isData
  | _ => false
theorem Fn1.run {lib : FuncId → List V → Option V} (hm : P.follows .mixedOrders = true) (hlib : ∀ f args v, lib f args = some v → Fn1 P f args v) {n : Nat} {f : FuncId} {args : List V} {v : V} (h : runB P lib n f args v = true) : Fn1 P f args v := by
  unfold runB at h
  split at h
  · rename_i u G hr
    simp only [Bool.and_eq_true] at h
    obtain ⟨⟨h1, h2⟩, h3⟩ := h
    have := V.same_eq _ _ h1
    subst this
    intro G0
    exact (Cal.frame (fun x hx => List.all_eq_true.1 h3 x hx) (Φ := fun x => x = .ret u) ((Cal.run hm hlib n hr).mono fun x G' hx => ⟨hx.1, by rw [hx.1]; exact h2⟩) G0).mono fun x G' hx => ⟨hx.1, hx.2.2⟩
  · cases h
end
end Go.Ab
