/- Ab, part 9: append. -/
import Derived.Test.YtlflddcbfbdldaaGreatDoorA8
namespace Go.Ab
open Go
section
variable {P : Program} {st : St} {a : Act} {w w' : World} {U I : Nat → Prop} {η : List Blk}

/-- An object that is forgotten. -/
theorem WR.kill (H : WR st a w U I η) (i : Nat) : WR { st with G := st.G.set i .dead } a w U I η := by
  have hset : ∀ (p : Nat) (o : Ob), (st.G.set i .dead)[p]? = some o → o.live = true → st.G[p]? = some o := by
    intro p o h hl
    rw [List.getElem?_set] at h
    split at h
    · split at h
      · injection h with h
        subst h
        simp [Ob.live] at hl
      · cases h
    · exact h
  refine ⟨H.size, by simp [H.len], H.lt, ?_, ?_, ?_, ?_, H.sl, H.df, H.glb⟩
  · intro p q x x' y y' h1 h2 h3 h4 h5 h6 h7
    exact H.inj p q x x' y y' h1 h2 (hset p y h3 h5) (hset q y' h4 h6) h5 h6 h7
  · intro p x y h1 h2 h3
    exact H.mt p x y h1 (hset p y h2 (Ob.mut_live h3)) h3
  · intro p x y h1 h2 h3
    exact H.frz p x y h1 (hset p y h2 (Ob.frozen_live h3)) h3
  · intro p x y h1 h2
    cases hl : y.live with
    | true => exact H.ob p x y h1 (hset p y h2 hl)
    | false => cases y <;> first | trivial | simp [Ob.live] at hl

/-- The cells of what is appended. -/
theorem elems_cells (H : WR st a w U I η) {x : V} {q : Value} (hx : Rel w I η x q) {ys : List (List V)} (h : st.elems x = some ys) {sz : Nat} (hs0 : 0 < sz) (hall : ∀ (i : Nat) (y : List V), ys[i]? = some y → y.length = sz) :
    ∃ (a' : Option Addr) (c : Nat) (news : List Value), q = .slice a' ys.length c ∧ news.length = ys.length * sz ∧
      (0 < ys.length → ∃ b o, a' = some ⟨b, o, none⟩ ∧ ∀ (k : Nat) (u : Value), news[k]? = some u → w.cell? ⟨b, o + k, none⟩ = some u) ∧
      (∀ (i : Nat) (y : List V) (j : Nat) (v : V), ys[i]? = some y → y[j]? = some v → ∃ u, news[i * sz + j]? = some u ∧ Rel w I η v u) := by
  have key : ∀ (vals : Nat → Nat → Value) (b o : Nat), (∀ (i : Nat) (y : List V) (j : Nat) (v : V), ys[i]? = some y → y[j]? = some v → w.cell? ⟨b, o + (i * sz + j), none⟩ = some (vals i j)) →
      (∀ (i : Nat) (y : List V) (j : Nat) (v : V), ys[i]? = some y → y[j]? = some v → Rel w I η v (vals i j)) →
      ∃ news : List Value, news.length = ys.length * sz ∧ (∀ (k : Nat) (u : Value), news[k]? = some u → w.cell? ⟨b, o + k, none⟩ = some u) ∧
      (∀ (i : Nat) (y : List V) (j : Nat) (v : V), ys[i]? = some y → y[j]? = some v → ∃ u, news[i * sz + j]? = some u ∧ Rel w I η v u) := by
    intro vals b o h1 h2
    have hij : ∀ (i : Nat) (y : List V) (j : Nat) (v : V), ys[i]? = some y → y[j]? = some v → j < sz ∧ i * sz + j < ys.length * sz := by
      intro i y j v hy hv
      have hi := (List.getElem?_eq_some_iff.1 hy).1
      have hj : j < sz := by have := (List.getElem?_eq_some_iff.1 hv).1; have := hall i y hy; omega
      have : (i + 1) * sz ≤ ys.length * sz := Nat.mul_le_mul_right _ hi
      rw [Nat.succ_mul] at this
      exact ⟨hj, by omega⟩
    refine ⟨(List.range (ys.length * sz)).map fun k => vals (k / sz) (k % sz), by simp, ?_, ?_⟩
    · intro k u hk
      rw [List.getElem?_map] at hk
      obtain ⟨m, hm, rfl⟩ := Option.map_eq_some_iff.1 hk
      have hmk : k < ys.length * sz ∧ m = k := by
        have hlt := (List.getElem?_eq_some_iff.1 hm).1
        simp only [List.length_range] at hlt
        rw [List.getElem?_range hlt] at hm
        injection hm with hm
        exact ⟨hlt, hm.symm⟩
      obtain ⟨hlt, rfl⟩ := hmk
      have hi : m / sz < ys.length := (Nat.div_lt_iff_lt_mul hs0).2 hlt
      have hj : m % sz < sz := Nat.mod_lt _ hs0
      have hyl := hall _ _ (List.getElem?_eq_getElem hi)
      have := h1 (m / sz) ys[m / sz] (m % sz) ((ys[m / sz])[m % sz]'(by omega)) (List.getElem?_eq_getElem hi) (List.getElem?_eq_getElem (by omega))
      rw [show m / sz * sz + m % sz = m from by rw [Nat.mul_comm]; exact Nat.div_add_mod m sz] at this
      exact this
    · intro i y j v hy hv
      obtain ⟨hj, hlt⟩ := hij i y j v hy hv
      refine ⟨vals i j, ?_, h2 i y j v hy hv⟩
      rw [List.getElem?_map, List.getElem?_range hlt]
      simp only [Option.map_some]
      rw [show (i * sz + j) / sz = i from by rw [Nat.add_comm, Nat.add_mul_div_right _ _ hs0, Nat.div_eq_of_lt hj, Nat.zero_add],
        show (i * sz + j) % sz = j from by rw [Nat.add_comm, Nat.add_mul_mod_self_right, Nat.mod_eq_of_lt hj]]
  unfold St.elems at h
  split at h
  · rename_i xs nil
    injection h with h
    subst h
    cases hx.sl_inv with
    | sl xs nil a c sz' ad vals hn hc0 ha hc hsz' h1 h2 =>
      rcases Nat.eq_zero_or_pos xs.length with h0 | h0
      · have hnil : xs = [] := List.eq_nil_of_length_eq_zero h0
        subst hnil
        exact ⟨a, c, [], rfl, by simp, fun h => absurd h (by simp), fun i y j v hy => by simp at hy⟩
      · obtain ⟨rfl, hI, hsp⟩ := ha h0
        have he : sz' = sz := by
          have hy := List.getElem?_eq_getElem h0
          rw [← hsz' _ _ hy, hall _ _ hy]
        subst he
        obtain ⟨bl, of, sp⟩ := ad
        simp only at hsp
        subst hsp
        obtain ⟨news, n1, n2, n3⟩ := key vals bl of h1 (fun i y j v hy hv => .d (h2 i y j v hy hv))
        exact ⟨_, c, news, rfl, n1, fun _ => ⟨bl, of, rfl, n2⟩, n3⟩
  · rename_i j len
    obtain ⟨e, he, rfl⟩ := hx.row_inv
    split at h
    · rename_i fz t sz' xs hG
      split at h
      · rename_i hlen
        injection h with h
        subst h
        obtain ⟨g1, g2, g3, g4, g5, cur, g6, g7, g8⟩ := H.ob j e _ he hG
        subst hlen
        rcases Nat.eq_zero_or_pos xs.length with h0 | h0
        · have hnil : xs = [] := List.eq_nil_of_length_eq_zero h0
          subst hnil
          exact ⟨_, e.cap, [], rfl, by simp, fun h => absurd h (by simp), fun i y j v hy => by simp at hy⟩
        · have hes : sz' = sz := by
            have hy := List.getElem?_eq_getElem h0
            rw [← g3 _ _ hy, hall _ _ hy]
          subst hes
          have hcell : ∀ (i : Nat) (y : List V) (j : Nat) (v : V), xs[i]? = some y → y[j]? = some v → ∃ u, cur[i * sz' + j]? = some u := by
            intro i y j v hy hv
            have hi := (List.getElem?_eq_some_iff.1 hy).1
            have hj : j < sz' := by have := (List.getElem?_eq_some_iff.1 hv).1; have := hall i y hy; omega
            have : (i + 1) * sz' ≤ e.cap * sz' := Nat.mul_le_mul_right _ (by omega)
            rw [Nat.succ_mul] at this
            exact ⟨_, Array.getElem?_eq_getElem (by omega)⟩
          obtain ⟨news, n1, n2, n3⟩ := key (fun i j => (cur[i * sz' + j]?).getD default) e.b 0 (fun i y j v hy hv => by
            obtain ⟨u, hu⟩ := hcell i y j v hy hv
            rw [Nat.zero_add, cell_of_row w e.b _ cur t (0, 0) g6, hu]
            rfl) (fun i y j v hy hv => by
            obtain ⟨u, hu⟩ := hcell i y j v hy hv
            rw [hu]
            exact g8 i y j v u hy hv hu)
          exact ⟨_, e.cap, news, rfl, n1, fun _ => ⟨e.b, 0, rfl, n2⟩, n3⟩
      · cases h
    · cases h
  · cases h

theorem run_append_zero {t ty : TypeId} {e : TypeId} {i : TypeInfo} (hu : P.underlying t = some (.slice e)) (hi : P.info? e = some i) (p : Value) (base : Option Addr) (n cap : Nat) (hp : p = .slice base n cap) (hn : n ≤ cap)
    (a' : Option Addr) (c : Nat) : (Builtin.append_ #[t, t] ty #[p, .slice a' 0 c]).run P w = .ok p w := by
  subst hp
  cases a' <;> cases base <;> simp [Builtin.append_, run_underlying hu, sizeOf, typeInfo, hi, Builtin.lenOf, Builtin.firstCells, hn, loadCells, loadCellsFrom, storeCells]

/-- What an append leaves is an object of the state's. -/
theorem append_obj {e : TypeId} {sz m : Nat} {v' : Value} {news : List Value} {zs : List (List V)} (hs0 : 0 < sz) (hw : ∀ k, I k → w'.heap[k]? = w.heap[k]?) (hown : w'.ownsRow 0 e sz v' m news)
    (hv : v' ≠ .slice none 0 0) (hzl : zs.length = m) (hall : ∀ (i : Nat) (y : List V), zs[i]? = some y → y.length = sz)
    (hrel : ∀ (i : Nat) (y : List V) (j : Nat) (v : V), zs[i]? = some y → y[j]? = some v → ∃ u, news[i * sz + j]? = some u ∧ Rel w I η v u) :
    ∃ g cap, v' = .slice (some ⟨g, 0, none⟩) m cap ∧ ObRel w' I (η ++ [⟨g, cap, sz⟩]) ⟨g, cap, sz⟩ (.row false e sz zs) := by
  rcases hown.2 with ⟨h, _⟩ | ⟨g, cap, cur, rfl, _, h1, h2, h3, h4, h5⟩
  · exact absurd h hv
  · refine ⟨g, cap, rfl, rfl, hs0, hall, by simp only; omega, h3, cur, h1, h4, ?_⟩
    intro i y j v u hy hv' hu
    obtain ⟨u', hu', hr⟩ := hrel i y j v hy hv'
    rw [← h5, List.getElem?_take] at hu'
    split at hu'
    · rw [Array.getElem?_toList, hu] at hu'
      injection hu' with hu'
      subst hu'
      exact hr.mono hw (fun _ h => h) (fun _ _ h => getElem?_push h)
    · cases hu'

theorem absAppend1_run (H : WR st a w U I η) {t ty e : TypeId} {sz by_ c : Nat} {i : TypeInfo} {z : Value} (hu : P.underlying t = some (.slice e)) (hi : P.info? e = some i) (hz : i.zero = some z) (hsz : i.size = sz) (hby : i.bytes = by_) (hzs : z.cells.size = sz) (hs0 : 0 < sz)
    {s x v : V} {p : Value} {ys : List (List V)} {st' : St} (hs : Rel w I η s p) (hall : ∀ (j : Nat) (y : List V), ys[j]? = some y → y.length = sz ∧ V.oneL y = true) {a' : Option Addr} {news : List Value} (n1 : news.length = ys.length * sz)
    (n2 : 0 < ys.length → ∃ b o, a' = some ⟨b, o, none⟩ ∧ ∀ (k : Nat) (u : Value), news[k]? = some u → w.cell? ⟨b, o + k, none⟩ = some u)
    (n3 : ∀ (i : Nat) (y : List V) (j : Nat) (v : V), ys[i]? = some y → y[j]? = some v → ∃ u, news[i * sz + j]? = some u ∧ Rel w I η v u) (hone : ∀ u ∈ news, u.oneCell' = true) (h : absAppend1 st e sz by_ s x ys = some (v, st')) :
    ∃ u w' η', (Builtin.append_ #[t, t] ty #[p, .slice a' ys.length c]).run P w = .ok u w' ∧ Rel w' I η' v u ∧ WR st' a w' U I η' ∧ Keep U I w w' ∧ Ext η η' := by
    unfold absAppend1 at h
    split at h
    · -- onto nil
      cases hs.sl_inv with
      | sl xs nil a0 c0 sz0 ad0 vals0 hn0 hc00 ha0 hc0 hsz0 g1 g2 =>
        obtain rfl : c0 = 0 := hc00 rfl
        obtain rfl : a0 = none := by cases a0 <;> simp at hn0 ⊢
        split at h
        · rename_i h0
          subst h0
          simp only [Option.some.injEq, Prod.mk.injEq] at h
          obtain ⟨rfl, rfl⟩ := h
          exact ⟨_, w, η, run_append_zero hu hi _ none 0 0 rfl (Nat.le_refl _) a' c, hs, H, .refl U I w, .refl η⟩
        · rename_i h0
          split at h
          · rename_i hb
            simp only [Option.some.injEq, Prod.mk.injEq] at h
            obtain ⟨rfl, rfl⟩ := h
            have hpos : 0 < ys.length := List.length_pos_iff.2 h0
            obtain ⟨b, o, rfl, hcell⟩ := n2 hpos
            obtain ⟨v', w', hrun, hown, hg, hnil, hat⟩ := run_append_own_at (P := P) w 0 t ty e i z sz by_ hu hi hz hsz hby hzs hs0 (.slice none 0 0) 0 [] (World.ownsRow_nil w 0 e sz) ⟨b, o, none⟩ ys.length c news n1
              (fun k u hk => by rw [addr_add]; exact hcell k u hk) hone (by omega) (by rw [Nat.zero_add]; exact hb.1) (Nat.zero_le _)
            have hv' : v' ≠ .slice none 0 0 := fun hh => by have := (hnil.1 hh).2; omega
            rw [Nat.zero_add, List.nil_append] at hown
            have hold : ∀ k, k < w.heap.size → w'.heap[k]? = w.heap[k]? := fun k hk => hg.block k hk (by simp [Value.ownBlock])
            have hk : Keep U I w w' := ⟨hg.os, hg.tape, hg.output, hg.size, fun k hk => hold k (H.lt k hk)⟩
            obtain ⟨g, cap, rfl, hob⟩ := append_obj (η := η) (w := w) (I := I) (zs := ys) hs0 (fun k hk' => hk.block k (.inr hk')) hown hv' rfl (fun j y hy => (hall j y hy).1) n3
            have hgb : g = w.heap.size := by
              rcases hat with hat | hat
              · simp [Value.ownBlock] at hat
              · simpa [Value.ownBlock] using hat
            have H1 : WR st a w' U I η := H.world hk (fun j e' o' h1 h2 h3 => hold _ ((H.ob j e' o' h1 h2).lt h3)) (fun _ h => h) (fun k hk' => Nat.lt_of_lt_of_le (H.lt k (.inr hk')) hg.size) (fun j e' o' h1 h2 h3 => (H.mt j e' o' h1 h2 h3).2)
            refine ⟨_, w', η ++ [⟨g, cap, sz⟩], hrun, ?_, H1.push _ _ hob (fun _ => ?_) (fun h => by simp [Ob.frozen] at h) ?_, hk, fun _ _ h => getElem?_push h⟩
            · have hle : η.length = st.G.length := H.len
              exact .row _ _ ⟨g, cap, sz⟩ (by rw [← hle]; simp)
            · subst hgb
              exact ⟨fun hu' => Nat.lt_irrefl _ (H.lt _ (.inl hu')), fun hu' => Nat.lt_irrefl _ (H.lt _ (.inr hu'))⟩
            · intro _ j e' o' h1 h2 h3 hh
              have := (H.ob j e' o' h1 h2).lt h3
              simp only at hh
              omega
          · cases h
    · -- onto a row
      rename_i r len
      obtain ⟨eb, heb, rfl⟩ := hs.row_inv
      split at h
      · rename_i t' sz' xs hG
        split at h
        · rename_i hc
          obtain ⟨c1, rfl, rfl, c4, c5, c6⟩ := hc
          simp only [Option.some.injEq, Prod.mk.injEq] at h
          obtain ⟨rfl, rfl⟩ := h
          subst c1
          obtain ⟨g1, g2, g3, g4, g5, cur, g6, g7, g8⟩ := H.ob r eb _ heb hG
          have hxs : ∀ (i : Nat) (y : List V) (j : Nat) (v : V), xs[i]? = some y → y[j]? = some v → ∃ u, (cur.toList.take (xs.length * sz'))[i * sz' + j]? = some u ∧ Rel w I η v u := by
            intro i y j v hy hv
            have hi' := (List.getElem?_eq_some_iff.1 hy).1
            have hj : j < sz' := by have := (List.getElem?_eq_some_iff.1 hv).1; have := g3 i y hy; omega
            have hlt : i * sz' + j < xs.length * sz' := by
              have : (i + 1) * sz' ≤ xs.length * sz' := Nat.mul_le_mul_right _ hi'
              rw [Nat.succ_mul] at this
              omega
            have hcs : xs.length * sz' ≤ cur.size := by rw [g7]; exact Nat.mul_le_mul_right _ g4
            refine ⟨cur[i * sz' + j]'(by omega), ?_, g8 i y j v _ hy hv (Array.getElem?_eq_getElem (by omega))⟩
            rw [List.getElem?_take, if_pos hlt, Array.getElem?_toList, Array.getElem?_eq_getElem (by omega)]
          have hflat : (cur.toList.take (xs.length * sz')).length = xs.length * sz' := by
            have : xs.length * sz' ≤ cur.size := by rw [g7]; exact Nat.mul_le_mul_right _ g4
            simp
            omega
          have hown0 : w.ownsRow 0 t' sz' (.slice (some ⟨eb.b, 0, none⟩) xs.length eb.cap) xs.length (cur.toList.take (xs.length * sz')) :=
            ⟨hflat, .inr ⟨eb.b, eb.cap, cur, rfl, Nat.zero_le _, g6, g4, g5, g7, rfl⟩⟩
          have hbl := H.inj
          have hmr := H.mt r eb _ heb hG rfl
          have hlen := H.len
          have hzl : (xs ++ ys).length = xs.length + ys.length := List.length_append
          have hallz : ∀ (i : Nat) (y : List V), (xs ++ ys)[i]? = some y → y.length = sz' := by
            intro i y hy
            rw [List.getElem?_append] at hy
            split at hy
            · exact g3 i y hy
            · exact (hall _ y hy).1
          have hrelz : ∀ (i : Nat) (y : List V) (j : Nat) (v : V), (xs ++ ys)[i]? = some y → y[j]? = some v → ∃ u, (cur.toList.take (xs.length * sz') ++ news)[i * sz' + j]? = some u ∧ Rel w I η v u := by
            intro i y j v hy hv
            have hj : j < sz' := by have := (List.getElem?_eq_some_iff.1 hv).1; have := hallz i y hy; omega
            rw [List.getElem?_append] at hy
            split at hy
            · rename_i hlt
              obtain ⟨u, hu', hr⟩ := hxs i y j v hy hv
              refine ⟨u, ?_, hr⟩
              rw [List.getElem?_append_left (List.getElem?_eq_some_iff.1 hu').1]
              exact hu'
            · rename_i hge
              obtain ⟨u, hu', hr⟩ := n3 (i - xs.length) y j v hy hv
              refine ⟨u, ?_, hr⟩
              rw [List.getElem?_append_right (by
                rw [hflat]
                have : xs.length * sz' ≤ i * sz' := Nat.mul_le_mul_right _ (by omega)
                omega), hflat]
              rw [show i * sz' + j - xs.length * sz' = (i - xs.length) * sz' + j from by
                rw [Nat.mul_sub_right_distrib]
                have : xs.length * sz' ≤ i * sz' := Nat.mul_le_mul_right _ (by omega)
                omega]
              exact hu'
          have hfin : ∃ v' w', (Builtin.append_ #[t, t] ty #[.slice (some ⟨eb.b, 0, none⟩) xs.length eb.cap, .slice a' ys.length c]).run P w = .ok v' w' ∧ w'.ownsRow 0 t' sz' v' (xs.length + ys.length) (cur.toList.take (xs.length * sz') ++ news) ∧
              w.grownBy w' (some eb.b) ∧ (v' ≠ .slice none 0 0) ∧ (v'.ownBlock = some eb.b ∨ v'.ownBlock = some w.heap.size) := by
            rcases Nat.eq_zero_or_pos ys.length with h0 | h0
            · have hn0 : news = [] := List.eq_nil_of_length_eq_zero (by rw [n1, h0, Nat.zero_mul])
              refine ⟨.slice (some ⟨eb.b, 0, none⟩) xs.length eb.cap, w, ?_, ?_, ⟨rfl, rfl, rfl, Nat.le_refl _, fun _ _ _ => rfl⟩, by simp, .inl rfl⟩
              · rw [h0]
                exact run_append_zero hu hi _ (some ⟨eb.b, 0, none⟩) xs.length eb.cap rfl g4 a' c
              · rw [h0, hn0, Nat.add_zero, List.append_nil]
                exact hown0
            · obtain ⟨b, o, rfl, hcell⟩ := n2 h0
              obtain ⟨v', w', hrun, hown, hg, hnil, hat⟩ := run_append_own_at (P := P) w 0 t ty t' i z sz' by_ hu hi hz hsz hby hzs hs0 _ xs.length _ hown0 ⟨b, o, none⟩ ys.length c news n1
                (fun k u hk => by rw [addr_add]; exact hcell k u hk) hone c6 c5 (Nat.zero_le _)
              exact ⟨v', w', hrun, hown, hg, fun hh => by have := (hnil.1 hh).1; simp at this, hat⟩
          obtain ⟨v', w', hrun, hown, hg, hv', hat⟩ := hfin
          have hold : ∀ k, k < w.heap.size → k ≠ eb.b → w'.heap[k]? = w.heap[k]? := fun k hk hne => hg.block k hk (by intro hh; injection hh with hh; exact hne hh)
          have hk : Keep U I w w' := ⟨hg.os, hg.tape, hg.output, hg.size, fun k hk => hold k (H.lt k hk) (fun hh => by
            subst hh
            rcases hk with hk | hk
            · exact hmr.1 hk
            · exact hmr.2 hk)⟩
          obtain ⟨g, cap, rfl, hob⟩ := append_obj (η := η) (w := w) (I := I) (zs := xs ++ ys) hs0 (fun k hk' => hk.block k (.inr hk')) hown hv' hzl hallz hrelz
          have hgb : g = eb.b ∨ g = w.heap.size := by simpa [Value.ownBlock] using hat
          have hlive : ∀ (j : Nat) (e' : Blk) (o' : Ob), η[j]? = some e' → (st.G.set r .dead)[j]? = some o' → o'.live = true → e'.b < w.heap.size ∧ e'.b ≠ eb.b := by
            intro j e' o' h1 h2 h3
            rw [List.getElem?_set] at h2
            split at h2
            · split at h2
              · injection h2 with h2; subst h2; simp [Ob.live] at h3
              · cases h2
            · rename_i hne
              refine ⟨(H.ob j e' o' h1 h2).lt h3, fun hh => hne ?_⟩
              exact (H.inj j r e' eb o' _ h1 heb h2 hG h3 rfl hh).symm
          have H1 : WR { st with G := st.G.set r .dead } a w' U I η := (H.kill r).world hk (fun j e' o' h1 h2 h3 => hold _ (hlive j e' o' h1 h2 h3).1 (hlive j e' o' h1 h2 h3).2) (fun _ h => h)
            (fun k hk' => Nat.lt_of_lt_of_le (H.lt k (.inr hk')) hg.size) (fun j e' o' h1 h2 h3 => ((H.kill r).mt j e' o' h1 h2 h3).2)
          refine ⟨_, w', η ++ [⟨g, cap, sz'⟩], hrun, ?_, H1.push _ _ hob (fun _ => ?_) (fun h => by simp [Ob.frozen] at h) ?_, hk, fun _ _ h => getElem?_push h⟩
          · exact .row _ _ ⟨g, cap, sz'⟩ (by rw [← hlen]; simp)
          · rcases hgb with rfl | rfl
            · exact hmr
            · exact ⟨fun hu' => Nat.lt_irrefl _ (H.lt _ (.inl hu')), fun hu' => Nat.lt_irrefl _ (H.lt _ (.inr hu'))⟩
          · intro _ j e' o' h1 h2 h3 hh
            obtain ⟨h4, h5⟩ := hlive j e' o' h1 h2 h3
            simp only at hh
            rcases hgb with h6 | h6 <;> omega
        · cases h
      · cases h
    · cases h

theorem absAppend_run (H : WR st a w U I η) {t ty : TypeId} {s x v : V} {p q : Value} {st' : St} (hs : Rel w I η s p) (hx : Rel w I η x q) (h : absAppend P st t s x = some (v, st')) :
    ∃ u w' η', (Builtin.append_ #[t, t] ty #[p, q]).run P w = .ok u w' ∧ Rel w' I η' v u ∧ WR st' a w' U I η' ∧ Keep U I w w' ∧ Ext η η' := by
  unfold absAppend at h
  obtain ⟨⟨e, sz, by_, zc⟩, he, h⟩ := Option.bind_eq_some_iff.1 h
  obtain ⟨i, z, hu, hi, hz, hsz, hby, hzs, hs0, hzc⟩ := elemInfo_some he
  obtain ⟨ys, hys, h⟩ := Option.bind_eq_some_iff.1 h
  simp only at h
  split at h
  · rename_i hcond
    have hall : ∀ (j : Nat) (y : List V), ys[j]? = some y → y.length = sz ∧ V.oneL y = true := by
      intro j y hy
      have := List.all_eq_true.1 hcond y (List.mem_of_getElem? hy)
      simpa using this
    obtain ⟨a', c, news, rfl, n1, n2, n3⟩ := elems_cells H hx hys hs0 (fun j y hy => (hall j y hy).1)
    have hone : ∀ u ∈ news, u.oneCell' = true := by
      intro u hu'
      obtain ⟨k, hk, rfl⟩ := List.mem_iff_getElem.1 hu'
      have hk2 : k < ys.length * sz := by omega
      have hi' : k / sz < ys.length := (Nat.div_lt_iff_lt_mul hs0).2 hk2
      have hj : k % sz < sz := Nat.mod_lt _ hs0
      obtain ⟨hl1, hl2⟩ := hall _ _ (List.getElem?_eq_getElem hi')
      have hjl : k % sz < (ys[k / sz]).length := by omega
      obtain ⟨u, hu2, hr⟩ := n3 (k / sz) ys[k / sz] (k % sz) _ (List.getElem?_eq_getElem hi') (List.getElem?_eq_getElem hjl)
      rw [show k / sz * sz + k % sz = k from by rw [Nat.mul_comm]; exact Nat.div_add_mod k sz, List.getElem?_eq_getElem hk] at hu2
      injection hu2 with hu2
      rw [hu2]
      exact hr.one (List.all_eq_true.1 hl2 _ (List.getElem_mem hjl))
    exact absAppend1_run H hu hi hz hsz hby hzs hs0 hs hall n1 n2 n3 hone h
  · cases h
end
end Go.Ab
