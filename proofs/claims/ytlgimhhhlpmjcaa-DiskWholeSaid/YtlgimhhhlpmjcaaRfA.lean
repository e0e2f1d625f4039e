/- The document's disk: its memory; Made, Is. -/
import Derived.Test.YtlgimhhhlpmjcaaDskL
set_option linter.unusedVariables false
set_option linter.unusedSimpArgs false
namespace Go.Proofs.Ytlgimhhhlpmjcaa
open Go.RowKit Go.Maps Go.WideMaps Go.Shelf

/-- Sectors of the document's type, in a block. -/
def SecsT (w : World) (sb : Nat) (sf : List Sec) : Prop := (∃ cur, Blk w sb cur 58) ∧ ∀ i (h : i < sf.length), w.rangeAt sb (i * 64) (sc sf[i])
theorem SecsT.keep {w w' : World} {sb : Nat} {sf : List Sec} (h : SecsT w sb sf) (hb : w'.heap[sb]? = w.heap[sb]?) : SecsT w' sb sf := by
  obtain ⟨⟨cur, h1⟩, h2⟩ := h
  exact ⟨⟨cur, h1.keep hb⟩, fun i hi => rangeAt_keep (h2 i hi) hb⟩
theorem SecsT.lt {w : World} {sb : Nat} {sf : List Sec} (h : SecsT w sb sf) : sb < w.heap.size := by obtain ⟨⟨cur, h1⟩, h2⟩ := h; exact h1.lt
theorem SecsT.there {w : World} {sb : Nat} {sf : List Sec} (h : SecsT w sb sf) (i : Nat) (hi : i < sf.length) (h64 : sf[i].length = 64) : w.there sb (i * 64) 64 := fun j hj => by
  obtain ⟨⟨cur, h1⟩, h2⟩ := h
  exact ⟨(h2 i hi).isSome j (by rw [sc_len, h64]; exact hj), h1.fr _⟩
theorem SecsT.store {w : World} {sb : Nat} {sf : List Sec} (h : SecsT w sb sf) (i : Nat) (hi : i < sf.length) (hall : ∀ x ∈ sf, x.length = 64) (s : Sec) (hs : s.length = 64) : SecsT (w.setCells sb (i * 64) (sc s)) sb (sf.set i s) := by
  have ht := h.there i hi (hall _ (List.getElem_mem hi))
  obtain ⟨⟨cur, h1⟩, h2⟩ := h
  refine ⟨Blk.setCells _ sb _ _ _ _ h1, fun k hk => ?_⟩
  have hk' : k < sf.length := by simpa using hk
  by_cases e : k = i
  · subst e
    simp only [List.getElem_set_self]
    exact World.rangeAt_setCells_same w sb (k * 64) (sc s) (by rw [sc_len, hs]; exact ht)
  · rw [List.getElem_set_ne (fun e' => e e'.symm)]
    refine World.rangeAt_setCells_apart (h2 k hk') sb (i * 64) (sc s) ?_
    rw [sc_len, sc_len, hs, hall _ (List.getElem_mem hk')]
    rcases Nat.lt_or_gt_of_ne e with e | e
    · right; left; omega
    · right; right; omega
theorem SecsT.ofBlk {W : World} {g : Nat} (n : Nat) (hb : Blk W g (zcells n) 58) : SecsT W g (List.replicate n zsec) := by
  refine ⟨⟨_, hb⟩, fun i hi => ?_⟩
  intro j v hv
  rw [List.length_replicate] at hi
  simp only [List.getElem_replicate] at hv
  have hj : j < 64 := by
    have := (List.getElem?_eq_some_iff.1 hv).1
    rwa [sc_len, zsec_len] at this
  rw [hb.cell, zcells_get n _ (by omega)]
  rw [← hv, zsec_cell j hj]
theorem secInfo2 : (Try.prog.info? 58).map (fun i => (i.zero, i.size, i.bytes)) = some (some (.agg (sc zsec).toArray), 64, 64) := by kernel_rfl
theorem makeSecs2 (n : Nat) (hn : n ≤ 1024) (W : World) : (Instr.makeSlice 100 (.int .i64 (n : Int)) (.int .i64 (n : Int))).run Try.prog W = .ok (.slice (some ⟨W.heap.size, 0, none⟩) n n) (W.alloc (.cells (zcells n) 58)) := by
  obtain ⟨i, hi, hzz⟩ := Option.map_eq_some_iff.1 secInfo2
  simp only [Prod.mk.injEq] at hzz
  obtain ⟨hz, hsize, hby⟩ := hzz
  have := run_makeSlice (P := Try.prog) W 100 58 i _ Try.underlying100 hi hz .i64 .i64 (n : Int) (n : Int) (by omega) (by omega) (by rw [hsize]; omega) (by rw [hby]; omega) (by omega)
  rw [hsize] at this
  simpa [zcells, Value.cells] using this
def bl (dd : List Bool) : Array Value := (dd.map Value.bool).toArray
theorem makeBools2 (n : Nat) (hn : n ≤ 1024) (W : World) : (Instr.makeSlice 41 (.int .i64 (n : Int)) (.int .i64 (n : Int))).run Try.prog W = .ok (.slice (some ⟨W.heap.size, 0, none⟩) n n) (W.alloc (.cells (bl (List.replicate n false)) 4)) := by
  obtain ⟨i, hi, hzz⟩ := Option.map_eq_some_iff.1 (show (Try.prog.info? 4).map (fun i => (i.zero, i.size, i.bytes)) = some (some (.bool false), 1, 1) by kernel_rfl)
  simp only [Prod.mk.injEq] at hzz
  obtain ⟨hz, hsize, hby⟩ := hzz
  have := run_makeSlice (P := Try.prog) W 41 4 i _ Try.underlying41 hi hz .i64 .i64 (n : Int) (n : Int) (by omega) (by omega) (by rw [hsize]; omega) (by rw [hby]; omega) (by omega)
  rw [hsize] at this
  have e : madeCells #[.bool false] n = bl (List.replicate n false) := by
    apply Array.toList_inj.1
    rw [toList_madeCells_one]
    simp [bl]
  simpa [Value.cells, e] using this

/-- The document's disk. -/
structure RefIs (w : World) (m ab bb cb n : Nat) (nw ol : List Sec) (dd : List Bool) : Prop where
  blk : ∃ c1 c2 c3, Blk w m #[.slice (some ⟨ab, 0, none⟩) n c1, .slice (some ⟨bb, 0, none⟩) n c2, .slice (some ⟨cb, 0, none⟩) n c3] 102
  a : SecsT w ab nw
  b : SecsT w bb ol
  c : Blk w cb (bl dd) 4
  la : nw.length = n
  lb : ol.length = n
  lc : dd.length = n
  small : n ≤ 1024
  ea : ∀ x ∈ nw, x.length = 64
  eb : ∀ x ∈ ol, x.length = 64
  ne : ab ≠ bb
theorem RefIs.keep {w w' : World} {m ab bb cb n : Nat} {nw ol : List Sec} {dd : List Bool} (h : RefIs w m ab bb cb n nw ol dd) (h0 : w'.heap[m]? = w.heap[m]?) (h1 : w'.heap[ab]? = w.heap[ab]?) (h2 : w'.heap[bb]? = w.heap[bb]?) (h3 : w'.heap[cb]? = w.heap[cb]?) : RefIs w' m ab bb cb n nw ol dd := by
  obtain ⟨⟨c1, c2, c3, hb⟩, ha, hbb, hc, r1, r2, r3, r4, r5, r6, r7⟩ := h
  exact ⟨⟨c1, c2, c3, hb.keep h0⟩, ha.keep h1, hbb.keep h2, hc.keep h3, r1, r2, r3, r4, r5, r6, r7⟩
theorem RefIs.lt {w : World} {m ab bb cb n : Nat} {nw ol : List Sec} {dd : List Bool} (h : RefIs w m ab bb cb n nw ol dd) : m < w.heap.size ∧ ab < w.heap.size ∧ bb < w.heap.size ∧ cb < w.heap.size := by
  obtain ⟨c1, c2, c3, hb⟩ := h.blk
  exact ⟨hb.lt, h.a.lt, h.b.lt, h.c.lt⟩
theorem blk_ne {w : World} {g g' t t' : Nat} {cs cs' : Array Value} (h : Blk w g cs t) (h' : Blk w g' cs' t') (ht : t ≠ t') : g ≠ g' := by
  rintro rfl
  have : (Obj.cells _ _ _ : Obj) = Obj.cells _ _ _ := Option.some.inj (h.symm.trans h')
  injection this with _ e2
  exact ht e2
theorem RefIs.ns {w : World} {m ab bb cb n : Nat} {nw ol : List Sec} {dd : List Bool} (h : RefIs w m ab bb cb n nw ol dd) : m ≠ ab ∧ m ≠ bb ∧ m ≠ cb ∧ ab ≠ cb ∧ bb ≠ cb ∧ ab ≠ bb := by
  obtain ⟨c1, c2, c3, hb⟩ := h.blk
  obtain ⟨⟨cu, ha⟩, _⟩ := h.a
  obtain ⟨⟨cv, hbb⟩, _⟩ := h.b
  exact ⟨blk_ne hb ha (by decide), blk_ne hb hbb (by decide), blk_ne hb h.c (by decide), blk_ne ha h.c (by decide), blk_ne hbb h.c (by decide), h.ne⟩
theorem RefIs.below {w w' : World} {m ab bb cb n : Nat} {nw ol : List Sec} {dd : List Bool} (h : RefIs w m ab bb cb n nw ol dd) (hb : Below w.heap.size w w') : RefIs w' m ab bb cb n nw ol dd :=
  h.keep (hb.block _ h.lt.1) (hb.block _ h.lt.2.1) (hb.block _ h.lt.2.2.1) (hb.block _ h.lt.2.2.2)
theorem RefIs.kept {w w' : World} {m ab bb cb n : Nat} {nw ol : List Sec} {dd : List Bool} {S : Nat → Prop} (h : RefIs w m ab bb cb n nw ol dd) (hb : Kept w w' S) (h0 : ¬ S m) (h1 : ¬ S ab) (h2 : ¬ S bb) (h3 : ¬ S cb) : RefIs w' m ab bb cb n nw ol dd :=
  h.keep (hb.block _ h.lt.1 h0) (hb.block _ h.lt.2.1 h1) (hb.block _ h.lt.2.2.1 h2) (hb.block _ h.lt.2.2.2 h3)

def MadePost (w : World) (n : Nat) (e : Ending) (w' : World) : Prop :=
  ∃ m ab bb cb, e = .returned (.tuple #[.pointer (some ⟨m, 0, none⟩), .int .i64 0]) ∧ RefIs w' m ab bb cb n (List.replicate n zsec) (List.replicate n zsec) (List.replicate n false) ∧ w.heap.size ≤ m ∧ w.heap.size ≤ ab ∧ w.heap.size ≤ bb ∧ w.heap.size ≤ cb ∧ Below w.heap.size w w'
theorem made_end {w w' : World} {n ab bb cb m : Nat} (hn : n ≤ 1024) (h0 : Blk w' m #[.slice (some ⟨ab, 0, none⟩) n n, .slice (some ⟨bb, 0, none⟩) n n, .slice (some ⟨cb, 0, none⟩) n n] 102)
    (ha : SecsT w' ab (List.replicate n zsec)) (hb : SecsT w' bb (List.replicate n zsec)) (hc : Blk w' cb (bl (List.replicate n false)) 4) (hne : ab ≠ bb) (l0 : w.heap.size ≤ m) (l1 : w.heap.size ≤ ab) (l2 : w.heap.size ≤ bb) (l3 : w.heap.size ≤ cb) (hB : Below w.heap.size w w') :
    MadePost w n (.returned (.tuple #[.pointer (some ⟨m, 0, none⟩), .int .i64 0])) w' := by
  have he : ∀ x ∈ List.replicate n zsec, x.length = 64 := fun x hx => by rw [List.eq_of_mem_replicate hx]; exact zsec_len
  exact ⟨m, ab, bb, cb, rfl, ⟨⟨n, n, n, h0⟩, ha, hb, hc, by simp, by simp, by simp, hn, he, he, hne⟩, l0, l1, l2, l3, hB⟩
theorem made_bad (n : Int) (w : World) (h : n < 1 ∨ 1024 < n) :
    Calls Try.prog 28 #[.int .i64 n] w fun e w' => e = .returned (.tuple #[.pointer none, .int .i64 1]) ∧ w' = w := by
  rcases h with h | h
  · go_enter Try.func28, Try.ntmps28
    go_wp2
    go_ret2
    exact ⟨rfl, rfl⟩
  · have n1 : ¬ n < 1 := by omega
    go_enter Try.func28, Try.ntmps28
    go_wp2
    go_ret2
    exact ⟨rfl, rfl⟩
set_option maxHeartbeats 1000000 in
set_option maxRecDepth 100000 in
theorem made_ok (n : Nat) (w : World) (h1 : 1 ≤ n) (h2 : n ≤ 1024) :
    Calls Try.prog 28 #[.int .i64 n] w (MadePost w n) := by
  have hmk := makeSecs2 n h2
  have hmb := makeBools2 n h2
  have n1 : ¬ (n : Int) < 1 := by omega
  have n2 : ¬ 1024 < (n : Int) := by omega
  go_enter Try.func28, Try.ntmps28
  go_wp2
  go_region_held3 (fun _ => True) (trivial) (fail)
  all_goals go_wp2
  all_goals go_ret2
  all_goals refine made_end h2 (Blk.drew (Blk.newAt _ _ _ _ (by simp))) (SecsT.ofBlk n ?_) (SecsT.ofBlk n ?_) ?_ ?_ ?_ ?_ ?_ ?_ ?_
  all_goals first
    | omega
    | (simp; done)
    | (refine ((Blk.newAt _ _ _ _ ?_).alloc _).drew; (simp; done))
    | (refine (((Blk.newAt _ _ _ _ ?_).alloc _).alloc _).drew; (simp; done))
    | (refine ((((Blk.newAt _ _ _ _ ?_).alloc _).alloc _).alloc _).drew; (simp; done))
    | exact (((((Below.refl _ _).alloc (Nat.le_refl _) _).alloc (by simp) _).alloc (by simp <;> omega) _).alloc (by simp <;> omega) _).drew
end Go.Proofs.Ytlgimhhhlpmjcaa
