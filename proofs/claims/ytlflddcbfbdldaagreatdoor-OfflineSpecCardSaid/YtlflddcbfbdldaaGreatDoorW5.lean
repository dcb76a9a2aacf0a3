/- Layer 51, walks 5: AppendSeq, Collect, merged, Merge. -/
import Derived.Test.YtlflddcbfbdldaaGreatDoorW4
namespace Go.Ab
open Go Go.Proofs Go.L51
attribute [local irreducible] W WL LexA
set_option linter.unusedSimpArgs false
set_option maxRecDepth 20000
set_option maxHeartbeats 1000000
theorem ei_seens : elemInfo Tryz.prog 22 = some (33, 3, 24, [.int .i64 0, .int .i64 0, .int .i64 0]) := by kernel_rfl
def AppPhi (l : List Seen) : Out → List Ob → Prop := fun x G' => ∃ b0 b1 b3 c lp J, x = .ret b3 ∧ G' = b0 :: b1 :: .box false [ordV] :: .box false [b3] :: c :: lp :: J ∧ OutRep l b3 J
theorem appendSeq_cal (xs ys : List Seen) (n1 n2 : Bool) (hs : xs.length + ys.length ≤ 2097152) :
    Cal Tryz.prog 27 [.sl [] true, .fn (.func 28) [] [.ptr 0 0, .ptr 1 0, .ptr 2 0]] [.box false [.sl (encL xs) n1], .box false [.sl (encL ys) n2], .box false [ordV]] (AppPhi (merge xs ys)) := by
  refine Cal.ofM Tryz.func27 rfl ?_
  rw [Tryz.ntmps27]
  repeat (first | refine W.seq ?_ | refine W.regionLit ?_ | (refine WL.step (st' := ?_) ?_ ?_ ?_; rotate_left; (focus (simp [St.start, V.whole, V.one, V.cells] <;> rfl)); (focus simp)) | refine WL.nil ?_ | (refine LexA.step (st' := ?_) ?_ ?_ ?_; rotate_left; (focus (simp [St.start, V.whole, V.one, V.cells] <;> rfl)); (focus simp)) | refine LexA.done ?_ | (refine W.condT ?_ ?_; (focus (simp [St.start, V.whole, V.one, V.cells]; done))) | (refine W.condF ?_ ?_; (focus (simp [St.start, V.whole, V.one, V.cells]; done))) | refine W.skip ?_ | refine W.ret ?_ | refine W.block ?_ | refine W.exit ?_ | refine W.regionDrawQ [] (fun q hq => by cases hq) mix (by decide +kernel) ?_)
  refine W.rangeOuter (first := []) rfl (by decide +kernel) (merged1_cal _ ?_ xs ys n1 n2 hs) ?_
  · generalize hT : List.map _ (List.range _) = tm
    have hl : tm.length = 13 := by rw [← hT]; simp
    have h2 : tm[2]? = some (.ptr 3 0) := by rw [← hT]; simp
    clear hT
    match tm, hl, h2 with
    | [t0, t1, t2, t3, t4, t5, t6, t7, t8, t9, t10, t11, t12], _, h2 =>
    obtain rfl : t2 = .ptr 3 0 := by simpa using h2
    intro acc b0 b1 b3 J x st o c g e hout hacc ho hc hargs hG hg he
    refine XW.yield (i := 5) ho hc hg (by rw [hG]; rfl) (by rw [hargs]; rfl) (Φ := fun out G' => out = .ret (.bool true) ∧ ∃ b3' J', G' = b0 :: b1 :: .box false [ordV] :: R51 _ b3' J' ∧ OutRep (acc ++ [x]) b3' J') ?_ (fun x' G' hx => ⟨hx.1, by obtain ⟨b3', J', h1, h3⟩ := hx.2; exact ⟨b3', J', by rw [h1], h3⟩⟩)
    rw [hG, hargs]
    simp only [List.map_cons, List.map_nil, he]
    rcases hout with ⟨rfl, rfl⟩ | ⟨i, rfl, hi, hne⟩
    · repeat (first | refine W.seq ?_ | refine W.regionLit ?_ | (refine WL.step (st' := ?_) ?_ ?_ ?_; rotate_left; (focus (simp [St.round, sh_seens, sh_seen, sh_int, zero_seen, absStore, absStoreAt, absStoreBox, V.whole, V.cells, V.oneL, V.one, ei_seens, absBuildSlice, fillV, chunk, absAppendC, absAppend, absAppend1, St.elems, V.notRow, maxLen, R51] <;> rfl)); (focus simp)) | refine WL.nil ?_ | (refine LexA.step (st' := ?_) ?_ ?_ ?_; rotate_left; (focus (simp [St.round, sh_seens, sh_seen, sh_int, zero_seen, absStore, absStoreAt, absStoreBox, V.whole, V.cells, V.oneL, V.one, ei_seens, absBuildSlice, fillV, chunk, absAppendC, absAppend, absAppend1, St.elems, V.notRow, maxLen, R51] <;> rfl)); (focus simp)) | refine LexA.done ?_ | (refine W.condT ?_ ?_; (focus (simp [St.round, sh_seens, sh_seen, sh_int, zero_seen, absStore, absStoreAt, absStoreBox, V.whole, V.cells, V.oneL, V.one, ei_seens, absBuildSlice, fillV, chunk, absAppendC, absAppend, absAppend1, St.elems, V.notRow, maxLen, R51]; done))) | (refine W.condF ?_ ?_; (focus (simp [St.round, sh_seens, sh_seen, sh_int, zero_seen, absStore, absStoreAt, absStoreBox, V.whole, V.cells, V.oneL, V.one, ei_seens, absBuildSlice, fillV, chunk, absAppendC, absAppend, absAppend1, St.elems, V.notRow, maxLen, R51]; done))) | refine W.skip ?_ | refine W.ret ?_ | refine W.block ?_ | refine W.exit ?_ | refine W.regionDrawQ [] (fun q hq => by cases hq) mix (by decide +kernel) ?_)
      refine ⟨rfl, _, _, _, _, _, _, _, rfl, ?_⟩
      repeat (first | refine W.seq ?_ | refine W.regionLit ?_ | (refine WL.step (st' := ?_) ?_ ?_ ?_; rotate_left; (focus (simp [St.round, sh_seens, sh_seen, sh_int, zero_seen, absStore, absStoreAt, absStoreBox, V.whole, V.cells, V.oneL, V.one, ei_seens, absBuildSlice, fillV, chunk, absAppendC, absAppend, absAppend1, St.elems, V.notRow, maxLen, R51] <;> rfl)); (focus simp)) | refine WL.nil ?_ | (refine LexA.step (st' := ?_) ?_ ?_ ?_; rotate_left; (focus (simp [St.round, sh_seens, sh_seen, sh_int, zero_seen, absStore, absStoreAt, absStoreBox, V.whole, V.cells, V.oneL, V.one, ei_seens, absBuildSlice, fillV, chunk, absAppendC, absAppend, absAppend1, St.elems, V.notRow, maxLen, R51] <;> rfl)); (focus simp)) | refine LexA.done ?_ | (refine W.condT ?_ ?_; (focus (simp [St.round, sh_seens, sh_seen, sh_int, zero_seen, absStore, absStoreAt, absStoreBox, V.whole, V.cells, V.oneL, V.one, ei_seens, absBuildSlice, fillV, chunk, absAppendC, absAppend, absAppend1, St.elems, V.notRow, maxLen, R51]; done))) | (refine W.condF ?_ ?_; (focus (simp [St.round, sh_seens, sh_seen, sh_int, zero_seen, absStore, absStoreAt, absStoreBox, V.whole, V.cells, V.oneL, V.one, ei_seens, absBuildSlice, fillV, chunk, absAppendC, absAppend, absAppend1, St.elems, V.notRow, maxLen, R51]; done))) | refine W.skip ?_ | refine W.ret ?_ | refine W.block ?_ | refine W.exit ?_ | refine W.regionDrawQ [] (fun q hq => by cases hq) mix (by decide +kernel) ?_)
      refine ⟨_, _, _, _, _, _, _, _, rfl, rfl, _, _, rfl, .inr ⟨J.length + 2, ?_, ?_, by simp⟩⟩
      · simp
      · simp [encL, encS]
    · have hiJ := (List.getElem?_eq_some_iff.1 hi).1
      have happ : ∀ l : List Ob, (J ++ l)[i]? = some (.row false 33 3 (encL acc)) := fun l => by rw [List.getElem?_append_left hiJ]; exact hi
      have hne1 : ¬ J.length + 1 = i := by omega
      have hne2 : ¬ J.length + 7 = i + 6 := by omega
      have hb1 : (acc.length + 1) * 24 ≤ 140737488355328 := by omega
      have hb2 : acc.length + 1 ≤ maxLen := by unfold maxLen; omega
      repeat (first | refine W.seq ?_ | refine W.regionLit ?_ | (refine WL.step (st' := ?_) ?_ ?_ ?_; rotate_left; (focus (simp [St.round, sh_seens, sh_seen, sh_int, zero_seen, absStore, absStoreAt, absStoreBox, V.whole, V.cells, V.oneL, V.one, ei_seens, absBuildSlice, fillV, chunk, absAppendC, absAppend, absAppend1, St.elems, V.notRow, maxLen, R51] <;> rfl)); (focus simp)) | refine WL.nil ?_ | (refine LexA.step (st' := ?_) ?_ ?_ ?_; rotate_left; (focus (simp [St.round, sh_seens, sh_seen, sh_int, zero_seen, absStore, absStoreAt, absStoreBox, V.whole, V.cells, V.oneL, V.one, ei_seens, absBuildSlice, fillV, chunk, absAppendC, absAppend, absAppend1, St.elems, V.notRow, maxLen, R51] <;> rfl)); (focus simp)) | refine LexA.done ?_ | (refine W.condT ?_ ?_; (focus (simp [St.round, sh_seens, sh_seen, sh_int, zero_seen, absStore, absStoreAt, absStoreBox, V.whole, V.cells, V.oneL, V.one, ei_seens, absBuildSlice, fillV, chunk, absAppendC, absAppend, absAppend1, St.elems, V.notRow, maxLen, R51]; done))) | (refine W.condF ?_ ?_; (focus (simp [St.round, sh_seens, sh_seen, sh_int, zero_seen, absStore, absStoreAt, absStoreBox, V.whole, V.cells, V.oneL, V.one, ei_seens, absBuildSlice, fillV, chunk, absAppendC, absAppend, absAppend1, St.elems, V.notRow, maxLen, R51]; done))) | refine W.skip ?_ | refine W.ret ?_ | refine W.block ?_ | refine W.exit ?_ | refine W.regionDrawQ [] (fun q hq => by cases hq) mix (by decide +kernel) ?_)
      refine ⟨rfl, _, _, _, _, _, _, _, rfl, ?_⟩
      repeat (first | refine W.seq ?_ | refine W.regionLit ?_ | (refine WL.step (st' := ?_) ?_ ?_ ?_; rotate_left; (focus (simp [St.round, happ, hne1, hne2, hb1, hb2, sh_seens, sh_seen, sh_int, zero_seen, absStore, absStoreAt, absStoreBox, V.whole, V.cells, V.oneL, V.one, ei_seens, absBuildSlice, fillV, chunk, absAppendC, absAppend, absAppend1, St.elems, V.notRow, R51] <;> rfl)); (focus simp)) | refine WL.nil ?_ | (refine LexA.step (st' := ?_) ?_ ?_ ?_; rotate_left; (focus (simp [St.round, happ, hne1, hne2, hb1, hb2, sh_seens, sh_seen, sh_int, zero_seen, absStore, absStoreAt, absStoreBox, V.whole, V.cells, V.oneL, V.one, ei_seens, absBuildSlice, fillV, chunk, absAppendC, absAppend, absAppend1, St.elems, V.notRow, R51] <;> rfl)); (focus simp)) | refine LexA.done ?_ | (refine W.condT ?_ ?_; (focus (simp [St.round, happ, hne1, hne2, hb1, hb2, sh_seens, sh_seen, sh_int, zero_seen, absStore, absStoreAt, absStoreBox, V.whole, V.cells, V.oneL, V.one, ei_seens, absBuildSlice, fillV, chunk, absAppendC, absAppend, absAppend1, St.elems, V.notRow, R51]; done))) | (refine W.condF ?_ ?_; (focus (simp [St.round, happ, hne1, hne2, hb1, hb2, sh_seens, sh_seen, sh_int, zero_seen, absStore, absStoreAt, absStoreBox, V.whole, V.cells, V.oneL, V.one, ei_seens, absBuildSlice, fillV, chunk, absAppendC, absAppend, absAppend1, St.elems, V.notRow, R51]; done))) | refine W.skip ?_ | refine W.ret ?_ | refine W.block ?_ | refine W.exit ?_ | refine W.regionDrawQ [] (fun q hq => by cases hq) mix (by decide +kernel) ?_)
      refine ⟨_, _, _, _, _, _, _, _, rfl, rfl, _, _, rfl, .inr ⟨J.length + 2, ?_, ?_, by simp⟩⟩
      · simp
      · simp [encL, encS]
  · rintro x G' ⟨rfl, b0, b1, b3, J, rfl, hout⟩
    refine ⟨_, _, _, _, _, _, _, _, rfl, by simp, ?_⟩
    repeat (first | refine W.seq ?_ | refine W.regionLit ?_ | (refine WL.step (st' := ?_) ?_ ?_ ?_; rotate_left; (focus (simp [R51, sh_seens] <;> rfl)); (focus simp)) | refine WL.nil ?_ | (refine LexA.step (st' := ?_) ?_ ?_ ?_; rotate_left; (focus (simp [R51, sh_seens] <;> rfl)); (focus simp)) | refine LexA.done ?_ | (refine W.condT ?_ ?_; (focus (simp [R51, sh_seens]; done))) | (refine W.condF ?_ ?_; (focus (simp [R51, sh_seens]; done))) | refine W.skip ?_ | refine W.ret ?_ | refine W.block ?_ | refine W.exit ?_ | refine W.regionDrawQ [] (fun q hq => by cases hq) mix (by decide +kernel) ?_)
    refine ⟨rfl, b3, by simp [Tryz.f27], b0, b1, b3, _, _, J, rfl, rfl, hout⟩
theorem collect_cal (xs ys : List Seen) (n1 n2 : Bool) (hs : xs.length + ys.length ≤ 2097152) :
    Cal Tryz.prog 17 [.fn (.func 28) [] [.ptr 0 0, .ptr 1 0, .ptr 2 0]] [.box false [.sl (encL xs) n1], .box false [.sl (encL ys) n2], .box false [ordV]] (AppPhi (merge xs ys)) := by
  refine Cal.of Tryz.func17 rfl ?_
  rw [Tryz.ntmps17]
  repeat (first | refine W.seq ?_ | refine W.regionLit ?_ | (refine WL.step (st' := ?_) ?_ ?_ ?_; rotate_left; (focus (simp [St.start] <;> rfl)); (focus simp)) | refine WL.nil ?_ | (refine LexA.step (st' := ?_) ?_ ?_ ?_; rotate_left; (focus (simp [St.start] <;> rfl)); (focus simp)) | refine LexA.done ?_ | (refine W.condT ?_ ?_; (focus (simp [St.start]; done))) | (refine W.condF ?_ ?_; (focus (simp [St.start]; done))) | refine W.skip ?_ | refine W.ret ?_ | refine W.block ?_ | refine W.exit ?_ | refine W.regionDrawQ [] (fun q hq => by cases hq) mix (by decide +kernel) ?_)
  refine WL.call (first := []) (caps := []) (by simp) rfl rfl rfl (by decide +kernel) (appendSeq_cal xs ys n1 n2 hs) ?_ ?_
  · rintro v G' ⟨b0, b1, b3, c, lp, J, h1, rfl, hout⟩
    injection h1 with h1
    subst h1
    refine ⟨_, rfl, ?_⟩
    repeat (first | refine W.seq ?_ | refine W.regionLit ?_ | (refine WL.step (st' := ?_) ?_ ?_ ?_; rotate_left; (focus (simp [St.start] <;> rfl)); (focus simp)) | refine WL.nil ?_ | (refine LexA.step (st' := ?_) ?_ ?_ ?_; rotate_left; (focus (simp [St.start] <;> rfl)); (focus simp)) | refine LexA.done ?_ | (refine W.condT ?_ ?_; (focus (simp [St.start]; done))) | (refine W.condF ?_ ?_; (focus (simp [St.start]; done))) | refine W.skip ?_ | refine W.ret ?_ | refine W.block ?_ | refine W.exit ?_ | refine W.regionDrawQ [] (fun q hq => by cases hq) mix (by decide +kernel) ?_)
    exact ⟨rfl, v, by simp [Tryz.f17], b0, b1, v, c, lp, J, rfl, rfl, hout⟩
  · rintro v G' ⟨b0, b1, b3, c, lp, J, h1, _⟩
    cases h1
theorem merged_cal (xs ys : List Seen) (n1 n2 : Bool) : Cal Tryz.prog 18 [.sl (encL xs) n1, .sl (encL ys) n2, ordV] []
    (fun x G' => x = .ret (.fn (.func 28) [] [.ptr 0 0, .ptr 1 0, .ptr 2 0]) ∧ G' = [.box false [.sl (encL xs) n1], .box false [.sl (encL ys) n2], .box false [ordV]]) := by
  refine Cal.of Tryz.func18 rfl ?_
  rw [Tryz.ntmps18]
  repeat (first | refine W.seq ?_ | refine W.regionLit ?_ | (refine WL.step (st' := ?_) ?_ ?_ ?_; rotate_left; (focus (simp [St.start, V.whole, V.one, V.cells, ordV] <;> rfl)); (focus simp)) | refine WL.nil ?_ | (refine LexA.step (st' := ?_) ?_ ?_ ?_; rotate_left; (focus (simp [St.start, V.whole, V.one, V.cells, ordV] <;> rfl)); (focus simp)) | refine LexA.done ?_ | (refine W.condT ?_ ?_; (focus (simp [St.start, V.whole, V.one, V.cells, ordV]; done))) | (refine W.condF ?_ ?_; (focus (simp [St.start, V.whole, V.one, V.cells, ordV]; done))) | refine W.skip ?_ | refine W.ret ?_ | refine W.block ?_ | refine W.exit ?_ | refine W.regionDrawQ [] (fun q hq => by cases hq) mix (by decide +kernel) ?_)
  exact ⟨rfl, _, by simp [Tryz.f18], rfl, rfl⟩
end Go.Ab
