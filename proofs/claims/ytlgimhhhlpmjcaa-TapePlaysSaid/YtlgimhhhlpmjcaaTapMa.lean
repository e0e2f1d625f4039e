/- The document's disk and tape, side by side with the code's. -/
import Derived.Test.YtlgimhhhlpmjcaaDskN
import Derived.Test.YtlgimhhhlpmjcaaTapWa
import Derived.BigQuiet
set_option linter.unusedVariables false
set_option linter.unusedSimpArgs false
namespace Go.Proofs.Ytlgimhhhlpmjcaa
open Go.RowKit Go.Maps Go.WideMaps Go.Shelf

/-- A load under a guard that holds. -/
theorem sec_load_w {ops : Array Oper} {w : World} {a : Act} {o : Oper} {rest : List Oper} {Q : Exit → Act → World → Prop} {ty : TypeId} (T : SecT ty) (hw : Region.wanted o (yielded ops a.tmps) = true) (x : Operand) (ho : o.op = .load ty x) (b off : Nat) (hx : a.eval x = .pointer (some ⟨b, off, none⟩)) (s : Sec) (hs : s.length = 64) (hc : w.rangeAt b off (sc s))
    (h : wpList Try.prog ops Q rest (a.put o.dst (.agg (sc s).toArray)) w) : wpList Try.prog ops Q (o :: rest) a w := by
  obtain ⟨n, e, hu, _⟩ := T.und
  refine wpList_step fun K hK => ?_
  rw [if_pos hw]
  exact wp_load_mid ty x ho b off hx (sc s) _ hc hu rfl (by rw [sc_len, hs]; exact T.info) (hK _ _ h)
/-- Acts that came in. -/
def RdActs (w : World) (A : Option Addr) (n : Nat) : Prop := ∃ xs, RdL actV (1 + (1 + (1 + (1 + 0)))) w A n xs
theorem RdActs.below {w w' : World} {A : Option Addr} {n : Nat} (h : RdActs w A n) (hb : Below w.heap.size w w') : RdActs w' A n := by
  obtain ⟨xs, h⟩ := h
  exact ⟨xs, h.below vwAct hb⟩
/-- The act at k. -/
def ActAt (w : World) (b off k : Nat) (a : DA) (bA : Option Addr) (bc : Nat) (kA : Option Addr) (kc : Nat) : Prop :=
  w.cell? ⟨b, off + k * 4, none⟩ = some (.int .i64 a.kind) ∧ w.cell? ⟨b, off + k * 4 + 1, none⟩ = some (.int .i64 a.i) ∧ w.cell? ⟨b, off + k * 4 + 2, none⟩ = some (.slice bA a.b.length bc) ∧ w.cell? ⟨b, off + k * 4 + 3, none⟩ = some (.slice kA a.keep.length kc) ∧
  RdU8 w bA a.b.length a.b ∧ RdBo w kA a.keep.length a.keep ∧ b < w.heap.size
theorem RdActs.at {w : World} {A : Option Addr} {n k : Nat} (h : RdActs w A n) (hk : k < n) : ∃ b off a bA bc kA kc, A = some ⟨b, off, none⟩ ∧ ActAt w b off k a bA bc kA kc := by
  obtain ⟨xs, h⟩ := h
  obtain ⟨b, off, e, hc⟩ := h.at' (by omega)
  obtain ⟨cs, hv, hcell⟩ := hc k (by rw [h.len]; exact hk)
  obtain ⟨a, bA, bc, kA, kc, rfl, hb, hkk⟩ := ActC.of hv
  have c0 := hcell 0 (by simp); have c1 := hcell 1 (by simp); have c2 := hcell 2 (by simp); have c3 := hcell 3 (by simp)
  simp at c0 c1 c2 c3
  exact ⟨b, off, a, bA, bc, kA, kc, e, c0, c1, c2, c3, hb, hkk, World.block_lt_of_cell? w _ c0⟩
theorem ActAt.below {w w' : World} {b off k : Nat} {a : DA} {bA : Option Addr} {bc : Nat} {kA : Option Addr} {kc : Nat} (h : ActAt w b off k a bA bc kA kc) (hb : Below w.heap.size w w') : ActAt w' b off k a bA bc kA kc := by
  obtain ⟨c0, c1, c2, c3, h1, h2, h3⟩ := h
  exact ⟨(hb.cell (p := ⟨b, _, none⟩) h3).trans c0, (hb.cell (p := ⟨b, _, none⟩) h3).trans c1, (hb.cell (p := ⟨b, _, none⟩) h3).trans c2, (hb.cell (p := ⟨b, _, none⟩) h3).trans c3, h1.below hb, h2.below hb, Nat.lt_of_lt_of_le h3 hb.size⟩

theorem DiskIs.grown {w w' : World} {d sb mb n m : Nat} {sf : List Sec} {df : Int → Option Sec} (h : DiskIs w d sb mb n sf df) (hg : w.grownBy w' (some m)) (h1 : m ≠ d) (h2 : m ≠ sb) (h3 : m ≠ mb) : DiskIs w' d sb mb n sf df :=
  h.keep (hg.block _ h.lt.1 (fun e => h1 (Option.some.inj e).symm)) (hg.block _ h.lt.2.1 (fun e => h2 (Option.some.inj e).symm)) (hg.block _ h.lt.2.2 (fun e => h3 (Option.some.inj e).symm))
theorem wrD_in {n : Nat} (df : Int → Option Sec) {i : Nat} (s : Sec) (h : i < n) : wrD n df i s = putL df i s := by
  unfold wrD; rw [inD_of (by omega) (by omega)]; rfl
theorem errD_in {n : Nat} {i : Nat} (h : i < n) : errD n i = 0 := by
  unfold errD; rw [inD_of (by omega) (by omega)]; rfl
theorem rdD_in {n : Nat} (sf : List Sec) (df : Int → Option Sec) {i : Nat} (h : i < n) : rdD n sf df i = curS sf df i := by
  unfold rdD; rw [inD_of (by omega) (by omega)]; simp
/-- The first k sectors are being written with s. -/
def AllTo (df : Int → Option Sec) (k : Nat) (s : Sec) : Prop := ∀ j : Nat, j < k → df (j : Int) = some s
theorem AllTo.succ {df : Int → Option Sec} {k : Nat} {s : Sec} (h : AllTo df k s) : AllTo (putL df k s) (k + 1) s := by
  intro j hj
  unfold putL
  by_cases e : j = k
  · subst e; rw [if_pos rfl]
  · have : ¬ (j : Int) = (k : Int) := by omega
    rw [if_neg this]; exact h j (by omega)
theorem AllTo.cur {df : Int → Option Sec} {k j : Nat} {s : Sec} (h : AllTo df k s) (sf : List Sec) (hj : j < k) : curS sf df j = s := by
  unfold curS; rw [h j hj]; rfl
theorem AllTo.dirty {df : Int → Option Sec} {n : Nat} {s : Sec} (h : AllTo df n s) : (dirtyI n df).length = n := by
  rw [dirtyI_len]
  unfold dirtyN
  rw [List.filter_eq_self.2]
  · simp
  · intro a ha
    unfold isD
    rw [h a (by simpa using ha)]; rfl
theorem dirtyI_none (n : Nat) : (dirtyI n (fun _ => none)).length = 0 := by rw [dirtyI_len, dirtyN_none]; rfl
end Go.Proofs.Ytlgimhhhlpmjcaa
namespace Go.Proofs.Ytlgimhhhlpmjcaa
open Go.RowKit Go.Maps Go.WideMaps Go.Shelf

/-- A load of a sector, in the text's order, under a guard that holds. -/
theorem sec_still_w {ops : Array Oper} {w : World} {a : Act} {o : Oper} {rest : List Oper} {Q : Act → Prop} {ty : TypeId} (T : SecT ty) (hw : Region.wanted o (yielded ops a.tmps) = true) (x : Operand) (ho : o.op = .load ty x) (b off : Nat) (hx : a.eval x = .pointer (some ⟨b, off, none⟩)) (s : Sec) (hs : s.length = 64) (hc : w.rangeAt b off (sc s))
    (h : wpStill Try.prog ops w Q rest (a.put o.dst (.agg (sc s).toArray))) : wpStill Try.prog ops w Q (o :: rest) a := by
  obtain ⟨n, e, hu, _⟩ := T.und
  refine wpStill_step fun K hK => ?_
  rw [if_pos hw]
  unfold Oper.still execOp
  simp only [ho, hx, Instr.loadAt, Instr.sureAddr, Sem.run_bind, Sem.run_pure, Result.andThen_ok, run_loadVar_mid w b off ty (sc s) _ hc hu rfl (by rw [sc_len, hs]; exact T.info)]
  exact ⟨rfl, hK _ h⟩
/-- The first k of one list, the others of another one. -/
def mixS (k : Nat) (a b : List Sec) : List Sec := a.take k ++ b.drop k
theorem mixS_zero (a b : List Sec) : mixS 0 a b = b := rfl
theorem mixS_all {a b : List Sec} {n : Nat} (ha : a.length = n) (hb : b.length = n) : mixS n a b = a := by
  unfold mixS
  rw [List.take_of_length_le (by omega), List.drop_of_length_le (by omega), List.append_nil]
theorem mixS_len {a b : List Sec} {k : Nat} (h : a.length = b.length) (hk : k ≤ b.length) : (mixS k a b).length = b.length := by
  simp [mixS]; omega
theorem mixS_each {a b : List Sec} {k : Nat} (ha : ∀ x ∈ a, x.length = 64) (hb : ∀ x ∈ b, x.length = 64) : ∀ x ∈ mixS k a b, x.length = 64 := by
  intro x hx
  rcases List.mem_append.1 hx with h | h
  · exact ha x (List.mem_of_mem_take h)
  · exact hb x (List.mem_of_mem_drop h)
theorem mixS_succ {a b : List Sec} {k : Nat} (h : k < a.length) (hb : k < b.length) : mixS (k + 1) a b = (mixS k a b).set k a[k] := by
  unfold mixS
  have e : List.drop k b = b[k] :: List.drop (k + 1) b := List.drop_eq_getElem_cons hb
  have this : k - (a.take k).length = 0 := by simp; omega
  rw [e, List.set_append_right _ _ (by simp; omega), this, List.take_succ_eq_append_getElem h, List.append_assoc]
  rfl

/-- n bools of false. -/
theorem makeBools (n : Nat) (hn : n ≤ 60) (W : World) : (Instr.makeSlice 41 (.int .i64 (n : Int)) (.int .i64 (n : Int))).run Try.prog W = .ok (.slice (some ⟨W.heap.size, 0, none⟩) n n) (W.alloc (.cells (madeCells #[.bool false] n) 4)) := by
  obtain ⟨i, hi, hzz⟩ := Option.map_eq_some_iff.1 (show (Try.prog.info? 4).map (fun i => (i.zero, i.size, i.bytes)) = some (some (.bool false), 1, 1) by kernel_rfl)
  simp only [Prod.mk.injEq] at hzz
  obtain ⟨hz, hsize, hby⟩ := hzz
  have := run_makeSlice (P := Try.prog) W 41 4 i _ Try.underlying41 hi hz .i64 .i64 (n : Int) (n : Int) (by omega) (by omega) (by rw [hsize]; omega) (by rw [hby]; omega) (by omega)
  rw [hsize] at this
  simpa [Value.cells] using this
/-- Bools in a block: the first k are true. -/
def BoolsIs (w : World) (g n k : Nat) : Prop := ∃ cs : Array Value, Blk w g cs 4 ∧ cs.size = n ∧ (∀ j, j < k → cs[j]? = some (.bool true)) ∧ ∀ j, j < n → ∃ b, cs[j]? = some (.bool b)
theorem BoolsIs.made (w : World) (n g : Nat) (hg : g = w.heap.size) : BoolsIs (w.alloc (.cells (madeCells #[.bool false] n) 4)) g n 0 :=
  ⟨_, Blk.newAt _ _ _ _ hg, by simp [madeCells], fun j hj => by omega, fun j hj => ⟨false, by simp [madeCells, hj, Nat.mod_one]⟩⟩
theorem BoolsIs.set {w : World} {g n k : Nat} (h : BoolsIs w g n k) (hk : k < n) : BoolsIs (w.setCell ⟨g, k, none⟩ (.bool true)) g n (k + 1) := by
  obtain ⟨cs, h1, h2, h3, h4⟩ := h
  refine ⟨_, h1.set k _, by simp [h2], fun j hj => ?_, fun j hj => ?_⟩
  · by_cases e : k = j
    · subst e
      simp [h2, hk]
    · rw [Array.getElem?_setIfInBounds_ne e]; exact h3 j (by omega)
  · by_cases e : k = j
    · subst e
      exact ⟨true, by simp [h2, hk]⟩
    · rw [Array.getElem?_setIfInBounds_ne e]; exact h4 j hj
theorem BoolsIs.rd {w : World} {g n : Nat} (h : BoolsIs w g n n) : RdBo w (some ⟨g, 0, none⟩) n (List.replicate n true) := by
  obtain ⟨cs, h1, h2, h3, h4⟩ := h
  refine ⟨by simp, fun _ => ⟨g, 0, rfl, h1.lt, fun i hi => ?_⟩⟩
  rw [Nat.zero_add, h1.cell, h3 i (by simpa using hi)]
  simp
theorem BoolsIs.cell {w : World} {g n k j : Nat} (h : BoolsIs w g n k) (hj : j < n) : ∃ b, w.cell? ⟨g, j, none⟩ = some (.bool b) ∧ w.frozen? ⟨g, j, none⟩ = false ∧ g < w.heap.size := by
  obtain ⟨cs, h1, h2, h3, h4⟩ := h
  obtain ⟨b, hb⟩ := h4 j hj
  exact ⟨b, by rw [h1.cell]; exact hb, h1.fr _, h1.lt⟩
end Go.Proofs.Ytlgimhhhlpmjcaa
namespace Go.Proofs.Ytlgimhhhlpmjcaa
open Go.RowKit Go.Maps Go.WideMaps Go.Shelf

theorem fold_put : ∀ (l : List Value) (k : Nat) (C : Array Value), k + l.length ≤ C.size → (l.zipIdx k).foldl (fun cs x => cs.setIfInBounds x.snd x.fst) C = (C.toList.take k ++ l ++ C.toList.drop (k + l.length)).toArray
  | [], k, C, h => by simp
  | v :: r, k, C, h => by
    rw [List.zipIdx_cons, List.foldl_cons, fold_put r (k + 1) (C.setIfInBounds k v) (by simp at h ⊢; omega)]
    congr 1
    have hk : k < C.toList.length := by simp at h ⊢; omega
    have e1 : (C.setIfInBounds k v).toList = C.toList.set k v := by simp
    rw [e1]
    have e2 : (C.toList.set k v).take (k + 1) = C.toList.take k ++ [v] := by
      rw [List.take_succ_eq_append_getElem (by simpa using hk), List.take_set_of_le (Nat.le_refl _)]
      simp
    have e3 : (C.toList.set k v).drop (k + 1 + r.length) = C.toList.drop (k + (v :: r).length) := by
      rw [List.drop_set_of_lt (by omega)]
      congr 1
      simp; omega
    rw [e2, e3]
    simp
theorem one_sec (s : Sec) (hs : s.length = 64) (w : World) : (Instr.buildSlice 68 1 #[(0, .agg (sc s).toArray)]).run Try.prog w = .ok (.slice (some ⟨w.heap.size, 0, none⟩) 1 1) (w.alloc (.cells (sc s).toArray 55)) := by
  have hl : (sc s).length = 64 := by rw [sc_len, hs]
  simp [Instr.buildSlice, run_underlying Try.underlying68, Try.sizeOf55, zeroSec, Value.cells, Instr.fill, hl, newRow, newObj]
  rw [fold_put (sc s) 0 _ (by simp [hl]), List.drop_of_length_le (by simp [hl])]
  simp only [List.take_zero, List.nil_append, List.append_nil]
  rfl
theorem is_slice1 {P : Program} {ops : Array Oper} {w : World} {a : Act} {o : Oper} {rest : List Oper} {Q : Exit → Act → World → Prop} {x : Operand} (ho : o.op = .buildSlice 68 1 #[(0, x)]) (h : wpList P ops Q (o :: rest) a w) : wpList P ops Q (o :: rest) a w := h
theorem sec_slice1 {ops : Array Oper} {w : World} {a : Act} {o : Oper} {rest : List Oper} {Q : Exit → Act → World → Prop} (hg : o.guard = none) (x : Operand) (ho : o.op = .buildSlice 68 1 #[(0, x)]) (s : Sec) (hs : s.length = 64) (hx : a.eval x = .agg (sc s).toArray)
    (h : wpList Try.prog ops Q rest (a.put o.dst (.slice (some ⟨w.heap.size, 0, none⟩) 1 1)) (w.alloc (.cells (sc s).toArray 55))) : wpList Try.prog ops Q (o :: rest) a w := by
  refine wpList_plain hg fun K hK => ?_
  unfold Oper.wp execOp
  simp only [ho, List.map_toArray, List.map_cons, List.map_nil, hx, one_sec s hs w, Sem.run_bind, Sem.run_pure, Result.andThen_ok]
  exact hK _ _ h
end Go.Proofs.Ytlgimhhhlpmjcaa
namespace Go.Proofs.Ytlgimhhhlpmjcaa
open Go.RowKit Go.Maps Go.WideMaps Go.Shelf

/-- Sectors of the document's type, in a block. -/
def SecsT (w : World) (sb : Nat) (sf : List Sec) : Prop := (∃ cur, Blk w sb cur 58) ∧ ∀ i (h : i < sf.length), w.rangeAt sb (i * 64) (sc sf[i])
theorem SecsT.keep {w w' : World} {sb : Nat} {sf : List Sec} (h : SecsT w sb sf) (hb : w'.heap[sb]? = w.heap[sb]?) : SecsT w' sb sf := by
  obtain ⟨⟨cur, h1⟩, h2⟩ := h
  exact ⟨⟨cur, h1.keep hb⟩, fun i hi => rangeAt_keep (h2 i hi) hb⟩
theorem SecsT.lt {w : World} {sb : Nat} {sf : List Sec} (h : SecsT w sb sf) : sb < w.heap.size := by obtain ⟨⟨cur, h1⟩, h2⟩ := h; exact h1.lt
theorem SecsT.there {w : World} {sb : Nat} {sf : List Sec} (h : SecsT w sb sf) (i : Nat) (hi : i < sf.length) (h64 : sf[i].length = 64) : w.there sb (i * 64) 64 := fun j hj => by
  obtain ⟨⟨cur, h1⟩, h2⟩ := h
  exact ⟨(h2 i hi).isSome j (by rw [sc_len, h64]; exact hj), h1.fr _⟩
theorem SecsT.store {w : World} {sb : Nat} {sf : List Sec} (h : SecsT w sb sf) (i : Nat) (hi : i < sf.length) (hall : ∀ x ∈ sf, x.length = 64) (s : Sec) (hs : s.length = 64) : SecsT (w.setCells sb (i * 64) (sc s)) sb (sf.set i s) := by
  have ht := h.there i hi (hall _ (List.getElem_mem hi))
  obtain ⟨⟨cur, h1⟩, h2⟩ := h
  refine ⟨Blk.setCells _ sb _ _ _ _ h1, fun k hk => ?_⟩
  have hk' : k < sf.length := by simpa using hk
  by_cases e : k = i
  · subst e
    simp only [List.getElem_set_self]
    exact World.rangeAt_setCells_same w sb (k * 64) (sc s) (by rw [sc_len, hs]; exact ht)
  · rw [List.getElem_set_ne (fun e' => e e'.symm)]
    refine World.rangeAt_setCells_apart (h2 k hk') sb (i * 64) (sc s) ?_
    rw [sc_len, sc_len, hs, hall _ (List.getElem_mem hk')]
    rcases Nat.lt_or_gt_of_ne e with e | e
    · right; left; omega
    · right; right; omega
theorem SecsT.ofBlk {W : World} {g : Nat} (n : Nat) (hb : Blk W g (zcells n) 58) : SecsT W g (List.replicate n zsec) := by
  refine ⟨⟨_, hb⟩, fun i hi => ?_⟩
  intro j v hv
  rw [List.length_replicate] at hi
  simp only [List.getElem_replicate] at hv
  have hj : j < 64 := by
    have := (List.getElem?_eq_some_iff.1 hv).1
    rwa [sc_len, zsec_len] at this
  rw [hb.cell, zcells_get n _ (by omega)]
  rw [← hv, zsec_cell j hj]
theorem secInfo2 : (Try.prog.info? 58).map (fun i => (i.zero, i.size, i.bytes)) = some (some (.agg (sc zsec).toArray), 64, 64) := by kernel_rfl
theorem makeSecs2 (n : Nat) (hn : n ≤ 1024) (W : World) : (Instr.makeSlice 100 (.int .i64 (n : Int)) (.int .i64 (n : Int))).run Try.prog W = .ok (.slice (some ⟨W.heap.size, 0, none⟩) n n) (W.alloc (.cells (zcells n) 58)) := by
  obtain ⟨i, hi, hzz⟩ := Option.map_eq_some_iff.1 secInfo2
  simp only [Prod.mk.injEq] at hzz
  obtain ⟨hz, hsize, hby⟩ := hzz
  have := run_makeSlice (P := Try.prog) W 100 58 i _ Try.underlying100 hi hz .i64 .i64 (n : Int) (n : Int) (by omega) (by omega) (by rw [hsize]; omega) (by rw [hby]; omega) (by omega)
  rw [hsize] at this
  simpa [zcells, Value.cells] using this
def bl (dd : List Bool) : Array Value := (dd.map Value.bool).toArray
theorem makeBools2 (n : Nat) (hn : n ≤ 1024) (W : World) : (Instr.makeSlice 41 (.int .i64 (n : Int)) (.int .i64 (n : Int))).run Try.prog W = .ok (.slice (some ⟨W.heap.size, 0, none⟩) n n) (W.alloc (.cells (bl (List.replicate n false)) 4)) := by
  obtain ⟨i, hi, hzz⟩ := Option.map_eq_some_iff.1 (show (Try.prog.info? 4).map (fun i => (i.zero, i.size, i.bytes)) = some (some (.bool false), 1, 1) by kernel_rfl)
  simp only [Prod.mk.injEq] at hzz
  obtain ⟨hz, hsize, hby⟩ := hzz
  have := run_makeSlice (P := Try.prog) W 41 4 i _ Try.underlying41 hi hz .i64 .i64 (n : Int) (n : Int) (by omega) (by omega) (by rw [hsize]; omega) (by rw [hby]; omega) (by omega)
  rw [hsize] at this
  have e : madeCells #[.bool false] n = bl (List.replicate n false) := by
    apply Array.toList_inj.1
    rw [toList_madeCells_one]
    simp [bl]
  simpa [Value.cells, e] using this

/-- The document's disk. -/
structure RefIs (w : World) (m ab bb cb n : Nat) (nw ol : List Sec) (dd : List Bool) : Prop where
  blk : ∃ c1 c2 c3, Blk w m #[.slice (some ⟨ab, 0, none⟩) n c1, .slice (some ⟨bb, 0, none⟩) n c2, .slice (some ⟨cb, 0, none⟩) n c3] 102
  a : SecsT w ab nw
  b : SecsT w bb ol
  c : Blk w cb (bl dd) 4
  la : nw.length = n
  lb : ol.length = n
  lc : dd.length = n
  small : n ≤ 1024
  ea : ∀ x ∈ nw, x.length = 64
  eb : ∀ x ∈ ol, x.length = 64
  ne : ab ≠ bb
theorem RefIs.keep {w w' : World} {m ab bb cb n : Nat} {nw ol : List Sec} {dd : List Bool} (h : RefIs w m ab bb cb n nw ol dd) (h0 : w'.heap[m]? = w.heap[m]?) (h1 : w'.heap[ab]? = w.heap[ab]?) (h2 : w'.heap[bb]? = w.heap[bb]?) (h3 : w'.heap[cb]? = w.heap[cb]?) : RefIs w' m ab bb cb n nw ol dd := by
  obtain ⟨⟨c1, c2, c3, hb⟩, ha, hbb, hc, r1, r2, r3, r4, r5, r6, r7⟩ := h
  exact ⟨⟨c1, c2, c3, hb.keep h0⟩, ha.keep h1, hbb.keep h2, hc.keep h3, r1, r2, r3, r4, r5, r6, r7⟩
theorem RefIs.lt {w : World} {m ab bb cb n : Nat} {nw ol : List Sec} {dd : List Bool} (h : RefIs w m ab bb cb n nw ol dd) : m < w.heap.size ∧ ab < w.heap.size ∧ bb < w.heap.size ∧ cb < w.heap.size := by
  obtain ⟨c1, c2, c3, hb⟩ := h.blk
  exact ⟨hb.lt, h.a.lt, h.b.lt, h.c.lt⟩
theorem RefIs.ns {w : World} {m ab bb cb n : Nat} {nw ol : List Sec} {dd : List Bool} (h : RefIs w m ab bb cb n nw ol dd) : m ≠ ab ∧ m ≠ bb ∧ m ≠ cb ∧ ab ≠ cb ∧ bb ≠ cb ∧ ab ≠ bb := by
  obtain ⟨c1, c2, c3, hb⟩ := h.blk
  obtain ⟨⟨cu, ha⟩, _⟩ := h.a
  obtain ⟨⟨cv, hbb⟩, _⟩ := h.b
  exact ⟨blk_ne hb ha (by decide), blk_ne hb hbb (by decide), blk_ne hb h.c (by decide), blk_ne ha h.c (by decide), blk_ne hbb h.c (by decide), h.ne⟩
theorem RefIs.below {w w' : World} {m ab bb cb n : Nat} {nw ol : List Sec} {dd : List Bool} (h : RefIs w m ab bb cb n nw ol dd) (hb : Below w.heap.size w w') : RefIs w' m ab bb cb n nw ol dd :=
  h.keep (hb.block _ h.lt.1) (hb.block _ h.lt.2.1) (hb.block _ h.lt.2.2.1) (hb.block _ h.lt.2.2.2)
theorem RefIs.kept {w w' : World} {m ab bb cb n : Nat} {nw ol : List Sec} {dd : List Bool} {S : Nat → Prop} (h : RefIs w m ab bb cb n nw ol dd) (hb : Kept w w' S) (h0 : ¬ S m) (h1 : ¬ S ab) (h2 : ¬ S bb) (h3 : ¬ S cb) : RefIs w' m ab bb cb n nw ol dd :=
  h.keep (hb.block _ h.lt.1 h0) (hb.block _ h.lt.2.1 h1) (hb.block _ h.lt.2.2.1 h2) (hb.block _ h.lt.2.2.2 h3)

def MadePost (w : World) (n : Nat) (e : Ending) (w' : World) : Prop :=
  ∃ m ab bb cb, e = .returned (.tuple #[.pointer (some ⟨m, 0, none⟩), .int .i64 0]) ∧ RefIs w' m ab bb cb n (List.replicate n zsec) (List.replicate n zsec) (List.replicate n false) ∧ w.heap.size ≤ m ∧ w.heap.size ≤ ab ∧ w.heap.size ≤ bb ∧ w.heap.size ≤ cb ∧ Below w.heap.size w w'
theorem made_end {w w' : World} {n ab bb cb m : Nat} (hn : n ≤ 1024) (h0 : Blk w' m #[.slice (some ⟨ab, 0, none⟩) n n, .slice (some ⟨bb, 0, none⟩) n n, .slice (some ⟨cb, 0, none⟩) n n] 102)
    (ha : SecsT w' ab (List.replicate n zsec)) (hb : SecsT w' bb (List.replicate n zsec)) (hc : Blk w' cb (bl (List.replicate n false)) 4) (hne : ab ≠ bb) (l0 : w.heap.size ≤ m) (l1 : w.heap.size ≤ ab) (l2 : w.heap.size ≤ bb) (l3 : w.heap.size ≤ cb) (hB : Below w.heap.size w w') :
    MadePost w n (.returned (.tuple #[.pointer (some ⟨m, 0, none⟩), .int .i64 0])) w' := by
  have he : ∀ x ∈ List.replicate n zsec, x.length = 64 := fun x hx => by rw [List.eq_of_mem_replicate hx]; exact zsec_len
  exact ⟨m, ab, bb, cb, rfl, ⟨⟨n, n, n, h0⟩, ha, hb, hc, by simp, by simp, by simp, hn, he, he, hne⟩, l0, l1, l2, l3, hB⟩
theorem made_bad (n : Int) (w : World) (h : n < 1 ∨ 1024 < n) :
    Calls Try.prog 28 #[.int .i64 n] w fun e w' => e = .returned (.tuple #[.pointer none, .int .i64 1]) ∧ w' = w := by
  rcases h with h | h
  · go_enter Try.func28, Try.ntmps28
    go_wp2
    go_ret2
    exact ⟨rfl, rfl⟩
  · have n1 : ¬ n < 1 := by omega
    go_enter Try.func28, Try.ntmps28
    go_wp2
    go_ret2
    exact ⟨rfl, rfl⟩
set_option maxHeartbeats 1000000 in
set_option maxRecDepth 100000 in
theorem made_ok (n : Nat) (w : World) (h1 : 1 ≤ n) (h2 : n ≤ 1024) :
    Calls Try.prog 28 #[.int .i64 n] w (MadePost w n) := by
  have hmk := makeSecs2 n h2
  have hmb := makeBools2 n h2
  have n1 : ¬ (n : Int) < 1 := by omega
  have n2 : ¬ 1024 < (n : Int) := by omega
  go_enter Try.func28, Try.ntmps28
  go_wp2
  go_region_held3 (fun _ => True) (trivial) (fail)
  all_goals go_wp2
  all_goals go_ret2
  all_goals refine made_end h2 (Blk.drew (Blk.newAt _ _ _ _ (by simp))) (SecsT.ofBlk n ?_) (SecsT.ofBlk n ?_) ?_ ?_ ?_ ?_ ?_ ?_ ?_
  all_goals first
    | omega
    | (simp; done)
    | (refine ((Blk.newAt _ _ _ _ ?_).alloc _).drew; (simp; done))
    | (refine (((Blk.newAt _ _ _ _ ?_).alloc _).alloc _).drew; (simp; done))
    | (refine ((((Blk.newAt _ _ _ _ ?_).alloc _).alloc _).alloc _).drew; (simp; done))
    | exact (((((Below.refl _ _).alloc (Nat.le_refl _) _).alloc (by simp) _).alloc (by simp <;> omega) _).alloc (by simp <;> omega) _).drew
end Go.Proofs.Ytlgimhhhlpmjcaa
namespace Go.Proofs.Ytlgimhhhlpmjcaa
open Go.RowKit Go.Maps Go.WideMaps Go.Shelf

theorem is_any (m ab bb cb n : Nat) (nw ol : List Sec) (dd : List Bool) (i : Int) (w : World) (h : RefIs w m ab bb cb n nw ol dd) :
    Calls Try.prog 40 #[.pointer (some ⟨m, 0, none⟩), .int .i64 i] w fun e w' => e = .returned (.bool (inD n i)) ∧ w' = w := by
  obtain ⟨c1, c2, c3, hb⟩ := h.blk
  have k0 := hb.cell 0
  simp at k0
  have hn := h.small
  clear h
  by_cases h0 : 0 ≤ i
  · by_cases h1 : i < n
    · rw [inD_of h0 h1]
      go_enter Try.func40, Try.ntmps40
      go_wp2
      go_ret
      exact ⟨by simp [h1], rfl⟩
    · have e : inD n i = false := by simp [inD, h1]
      rw [e]
      go_enter Try.func40, Try.ntmps40
      go_wp2
      go_ret
      exact ⟨by simp <;> omega, rfl⟩
  · have e : inD n i = false := by simp [inD, h0]
    have h0' : decide (0 ≤ i) = false := decide_eq_false h0
    rw [e]
    go_enter Try.func40, Try.ntmps40
    go_wp2
    go_ret
    exact ⟨rfl, rfl⟩

def RefWritePost (w : World) (m ab bb cb n : Nat) (nw ol : List Sec) (dd : List Bool) (x : Int) (e : Ending) (w' : World) : Prop :=
  e = .returned (.int .i64 x) ∧ RefIs w' m ab bb cb n nw ol dd ∧ Kept w w' (fun k => k = ab ∨ k = cb)
theorem bl_set (dd : List Bool) (i : Nat) (b : Bool) : (bl dd).setIfInBounds i (.bool b) = bl (dd.set i b) := by
  unfold bl
  rw [List.setIfInBounds_toArray, List.map_set]
theorem bl_get {dd : List Bool} {i : Nat} (h : i < dd.length) : (bl dd)[i]? = some (.bool dd[i]) := by simp [bl, h]

set_option maxRecDepth 100000 in
theorem rwrite_in (m ab bb cb n : Nat) (nw ol : List Sec) (dd : List Bool) (i : Nat) (s : Sec) (w : World) (h : RefIs w m ab bb cb n nw ol dd) (hi : i < n) (hs : s.length = 64) :
    Calls Try.prog 32 #[.pointer (some ⟨m, 0, none⟩), .int .i64 i, .agg (sc s).toArray] w (RefWritePost w m ab bb cb n (nw.set i s) ol (dd.set i true) 0) := by
  have bq : Below w.heap.size w (w.alloc (.cells (sc s).toArray 58)) := (Below.refl _ _).alloc (Nat.le_refl _) _
  have hA := h.below bq
  have his := is_any m ab bb cb n nw ol dd i _ hA
  rw [inD_of (by omega) (by omega)] at his
  have HIS := Lib.hid his; clear his
  have K := Lib.hid (Blk.new w (sc s).toArray 58)
  have HA := Lib.hid hA; have HS := Lib.hid hs; have BQ := Lib.hid bq
  obtain ⟨l1, l2, l3, l4⟩ := h.lt
  obtain ⟨c1, c2, c3, hb⟩ := hA.blk
  have NS := Lib.hid hA.ns
  have k0 := hb.cell 0; have k2 := hb.cell 2
  simp at k0 k2
  have HB := Lib.hid hb
  have hn := h.small
  have hi0 : (0 : Int) ≤ (i : Int) := by omega
  have hin : (i : Int) < n := by omega
  have hli : i < nw.length := by rw [h.la]; exact hi
  have HLI := Lib.hid hli
  have hld : i < dd.length := by rw [h.lc]; exact hi
  have HLD := Lib.hid hld
  clear hA h hb hs bq hli hld
  go_enter Try.func32, Try.ntmps32
  go_wp2_with (go_at_call 40; refine HIS.out.mono ?_; rintro e w1 ⟨rfl, rfl⟩)
  refine region_tail 7 (by kernel_rfl) (by kernel_rfl) ?_
  simp only [List.take_succ_cons, List.take_zero, List.drop_succ_cons, List.drop_zero]
  still_step; still_step; still_step; still_step; still_step
  refine sec_still_w secT2 (by rfl) _ rfl w.heap.size 0 rfl s HS.out K.out.sec ?_
  still_step
  refine wpStill_nil ?_
  refine sec_store secT2 rfl _ _ rfl ab (i * 64) s HS.out rfl rfl (HA.out.a.there i HLI.out (HA.out.ea _ (List.getElem_mem HLI.out))) ?_
  have hkp : Kept (w.alloc (.cells (sc s).toArray 58)) ((w.alloc (.cells (sc s).toArray 58)).drew.setCells ab (i * 64) (sc s)) (fun k => k = ab) := Kept.setCells (S := fun k => k = ab) (Kept.refl _ _).drew rfl _ _
  have ha3 := SecsT.store (w := (w.alloc (.cells (sc s).toArray 58)).drew) (HA.out.a.keep rfl) i HLI.out HA.out.ea s HS.out
  have HKP := Lib.hid hkp; have HA3 := Lib.hid ha3; clear hkp ha3
  have hsz : w.heap.size < ((w.alloc (.cells (sc s).toArray 58)).drew.setCells ab (i * 64) (sc s)).heap.size := by rw [size_setCells]; simp [World.drew]
  generalize (w.alloc (.cells (sc s).toArray 58)).drew.setCells ab (i * 64) (sc s) = w3 at *
  obtain ⟨n1, n2, n3, n4, n5, n6⟩ := NS.out
  have hb3 := HB.out.kept HKP.out n1
  have hc3 := HA.out.c.kept HKP.out (fun e => n4 e.symm)
  have j2 := hb3.cell 2
  have e2 := hc3.cell i
  rw [bl_get HLD.out] at e2
  have f2 := hc3.fr i
  simp at j2
  have HB3 := Lib.hid hb3; have HC3 := Lib.hid hc3
  have hcl := hc3.lt
  clear hb3 hc3 k0 k2
  go_wp2
  go_ret
  have ec : Blk (w3.setCell ⟨cb, i, none⟩ (.bool true)) cb (bl (dd.set i true)) 4 := by rw [← bl_set]; exact HC3.out.set i _
  refine ⟨rfl, ⟨⟨c1, c2, c3, HB3.out.setOther n3 _ _⟩, HA3.out.keep (Below.heap_setCell _ _ _ _ n4), (HA.out.b.keep ((Below.heap_setCell _ _ _ _ n5).trans (HKP.out.block _ HA.out.b.lt n6.symm))), ec, by rw [List.length_set]; exact HA.out.la, HA.out.lb, by rw [List.length_set]; exact HA.out.lc, hn, ?_, HA.out.eb, n6⟩, ?_⟩
  · intro x hx
    rcases List.mem_or_eq_of_mem_set hx with h | h
    · exact HA.out.ea x h
    · rw [h]; exact HS.out
  · exact (Kept.behind BQ.out (HKP.out.mono (fun k _ h => .inl h))).set (.inr rfl) _
theorem rwrite_out (m ab bb cb n : Nat) (nw ol : List Sec) (dd : List Bool) (i : Int) (s : Sec) (w : World) (h : RefIs w m ab bb cb n nw ol dd) (hi : inD n i = false) :
    Calls Try.prog 32 #[.pointer (some ⟨m, 0, none⟩), .int .i64 i, .agg (sc s).toArray] w (RefWritePost w m ab bb cb n nw ol dd 41) := by
  have bq : Below w.heap.size w (w.alloc (.cells (sc s).toArray 58)) := (Below.refl _ _).alloc (Nat.le_refl _) _
  have hA := h.below bq
  have his := is_any m ab bb cb n nw ol dd i _ hA
  rw [hi] at his
  have HIS := Lib.hid his; have HA := Lib.hid hA; have BQ := Lib.hid bq; clear his hA h bq
  go_enter Try.func32, Try.ntmps32
  go_wp2_with (go_at_call 40; refine HIS.out.mono ?_; rintro e w1 ⟨rfl, rfl⟩)
  go_ret
  exact ⟨rfl, HA.out, Kept.of_below BQ.out _⟩

def mixB (k : Nat) (dd : List Bool) : List Bool := List.replicate k false ++ dd.drop k
theorem mixB_succ {dd : List Bool} {k : Nat} (h : k < dd.length) : (mixB k dd).set k false = mixB (k + 1) dd := by
  unfold mixB
  have e : List.drop k dd = dd[k] :: List.drop (k + 1) dd := List.drop_eq_getElem_cons h
  have this : k - (List.replicate k false).length = 0 := by simp
  rw [e, List.set_append_right _ _ (by simp), this, List.replicate_succ', List.append_assoc]
  rfl
theorem mixB_len {dd : List Bool} {k : Nat} (h : k ≤ dd.length) : (mixB k dd).length = dd.length := by simp [mixB]; omega
theorem mixB_all {dd : List Bool} : mixB dd.length dd = List.replicate dd.length false := by simp [mixB]

set_option maxRecDepth 100000 in
set_option maxHeartbeats 1000000 in
theorem rflush_any (m ab bb cb n : Nat) (nw ol : List Sec) (dd : List Bool) (w : World) (h : RefIs w m ab bb cb n nw ol dd) :
    Calls Try.prog 35 #[.pointer (some ⟨m, 0, none⟩)] w fun e w' => e = .returned (.tuple #[]) ∧ RefIs w' m ab bb cb n nw nw (List.replicate n false) ∧ Kept w w' (fun k => k = bb ∨ k = cb) := by
  have hn := h.small
  have H := Lib.hid h; clear h
  obtain ⟨l1, l2, l3, l4⟩ := H.out.lt
  have NS := Lib.hid H.out.ns
  go_enter Try.func35, Try.ntmps35
  go_wp2
  go_loopw [2] (fun i wr => ∃ k : Nat, k ≤ n ∧ i = .int .i64 k ∧ Hid (RefIs wr m ab bb cb n nw (mixS k nw ol) (mixB k dd)) ∧ Hid (Kept w wr (fun k => k = bb ∨ k = cb))) (fun i _ => n - (intOf i).toNat)
  case atStart => exact ⟨0, Nat.zero_le _, rfl, H, Lib.hid (Kept.refl _ _)⟩
  case round =>
    obtain ⟨k, hk, rfl, hR, hK⟩ := hrel
    obtain ⟨c1, c2, c3, hb⟩ := hR.out.blk
    have k0 := hb.cell 0; have k1 := hb.cell 1; have k2 := hb.cell 2
    simp at k0 k1 k2
    have HB := Lib.hid hb; clear hb
    by_cases hlt : k < n
    · have hlt2 : (k : Int) < n := by omega
      have hk0 : (0 : Int) ≤ (k : Int) := by omega
      have hla : k < nw.length := by rw [H.out.la]; exact hlt
      have hlb : k < (mixS k nw ol).length := by rw [hR.out.lb]; exact hlt
      have hld : k < (mixB k dd).length := by rw [hR.out.lc]; exact hlt
      have hs64 := H.out.ea _ (List.getElem_mem hla)
      have hra := hR.out.a.2 k hla
      have hms := mixS_succ (b := ol) hla (by rw [H.out.lb]; exact hlt)
      have hmb := mixB_succ (dd := dd) (k := k) (by rw [H.out.lc]; exact hlt)
      have hths := hR.out.b.there k hlb (hR.out.eb _ (List.getElem_mem hlb))
      have hes : ∀ x ∈ nw, x.length = 64 := H.out.ea
      generalize nw[k] = s at *
      have HS := Lib.hid hs64; have HRA := Lib.hid hra; have HMS := Lib.hid hms; have HMB := Lib.hid hmb; have HT := Lib.hid hths; have HLB := Lib.hid hlb; have HLD := Lib.hid hld
      clear hs64 hra hms hmb hths hlb hld hla hes
      go_wp2
      refine region_tail 13 (by kernel_rfl) (by kernel_rfl) ?_
      simp only [List.take_succ_cons, List.take_zero, List.drop_succ_cons, List.drop_zero]
      still_step; still_step; still_step; still_step; still_step; still_step; still_step; still_step; still_step; still_step; still_step
      refine sec_still_w secT2 (by rfl) _ rfl ab (k * 64) rfl s HS.out HRA.out ?_
      still_step
      refine wpStill_nil ?_
      refine sec_store secT2 rfl _ _ rfl bb (k * 64) s HS.out rfl rfl HT.out ?_
      have hkp : Kept wr (wr.drew.setCells bb (k * 64) (sc s)) (fun x => x = bb) := Kept.setCells (S := fun x => x = bb) (Kept.refl _ _).drew rfl _ _
      have hb3 := SecsT.store (w := wr.drew) (hR.out.b.keep rfl) k HLB.out hR.out.eb s HS.out
      rw [← HMS.out] at hb3
      have HKP := Lib.hid hkp; have HB3 := Lib.hid hb3; clear hkp hb3
      have hsz : wr.heap.size ≤ (wr.drew.setCells bb (k * 64) (sc s)).heap.size := by rw [size_setCells]; exact Nat.le_refl _
      generalize wr.drew.setCells bb (k * 64) (sc s) = w3 at *
      obtain ⟨n1, n2, n3, n4, n5, n6⟩ := NS.out
      have hm3 := HB.out.kept HKP.out n2
      have hc3 := hR.out.c.kept HKP.out (fun e => n5 e.symm)
      have j2 := hm3.cell 2
      have e2 := hc3.cell k
      rw [bl_get HLD.out] at e2
      have f2 := hc3.fr k
      simp at j2
      have HM3 := Lib.hid hm3; have HC3 := Lib.hid hc3
      have hcl := hc3.lt
      clear hm3 hc3 k0 k1 k2
      go_wp2
      have ec : Blk (w3.setCell ⟨cb, k, none⟩ (.bool false)) cb (bl (mixB (k + 1) dd)) 4 := by rw [← HMB.out, ← bl_set]; exact HC3.out.set k _
      have EC := Lib.hid ec; clear ec
      try go_frame
      go_roundw
      case rel =>
        refine ⟨k + 1, by omega, by go_num, Lib.hid ⟨⟨c1, c2, c3, HM3.out.setOther n3 _ _⟩, (H.out.a.keep ?_), HB3.out.keep (Below.heap_setCell _ _ _ _ n5), EC.out, H.out.la, ?_, ?_, hn, H.out.ea, ?_, n6⟩, Lib.hid ((hK.out.trans2 (HKP.out.mono (S' := fun x => x = bb ∨ x = cb) (fun k _ h => .inl h)) (fun i _ e => e)).set (.inr rfl) _)⟩
        · exact (Below.heap_setCell _ _ _ _ n4).trans ((HKP.out.block _ hR.out.a.lt n6).trans (hK.out.block _ l2 (fun e => by rcases e with e | e; exact n6 e; exact n4 e)))
        · rw [mixS_len (by rw [H.out.la, H.out.lb]) (by rw [H.out.lb]; omega)]; exact H.out.lb
        · rw [mixB_len (by rw [H.out.lc]; omega)]; exact H.out.lc
        · exact mixS_each H.out.ea H.out.eb
      case measure => simp [intOf]; omega
    · have hkk : k = n := by omega
      subst hkk
      go_wp2
      go_end0
      refine ⟨rfl, ?_, hK.out⟩
      have := hR.out
      rw [mixS_all H.out.la H.out.lb] at this
      have e : mixB k dd = List.replicate k false := by have := mixB_all (dd := dd); rw [H.out.lc] at this; exact this
      rw [e] at this
      exact this
end Go.Proofs.Ytlgimhhhlpmjcaa
namespace Go.Proofs.Ytlgimhhhlpmjcaa
open Go.RowKit Go.Maps Go.WideMaps Go.Shelf

/-- Which are dirty, as bools. -/
def isDs (n : Nat) (df : Int → Option Sec) : List Bool := (List.range n).map (isD df)
theorem isDs_len (n : Nat) (df : Int → Option Sec) : (isDs n df).length = n := by simp [isDs]
theorem isDs_get {n k : Nat} (df : Int → Option Sec) (h : k < (isDs n df).length) : (isDs n df)[k] = isD df k := by simp [isDs]
theorem isDs_none (n : Nat) : isDs n (fun _ => none) = List.replicate n false := by
  apply List.ext_getElem
  · simp [isDs]
  · intro i h1 h2; simp [isDs, isD]
theorem isDs_put {n i : Nat} (df : Int → Option Sec) (s : Sec) (h : i < n) : (isDs n df).set i true = isDs n (putL df i s) := by
  apply List.ext_getElem
  · simp [isDs]
  · intro j h1 h2
    rw [List.getElem_set]
    simp only [isDs, List.getElem_map, List.getElem_range, isD_put]
    by_cases e : i = j
    · subst e; simp
    · have : ¬ j = i := fun h => e h.symm
      simp [e, this]
theorem flushS_put {n i : Nat} (sf : List Sec) (df : Int → Option Sec) (s : Sec) (h : i < n) : (flushS n sf df).set i s = flushS n sf (putL df i s) := by
  apply List.ext_getElem
  · simp [flushS]
  · intro j h1 h2
    rw [List.getElem_set]
    simp only [flushS, List.getElem_map, List.getElem_range, curS_put]
    by_cases e : i = j
    · subst e; simp
    · have : ¬ j = i := fun h => e h.symm
      simp [e, this]
theorem flushS_none {n : Nat} {sf : List Sec} (h : sf.length = n) : flushS n sf (fun _ => none) = sf := by
  apply List.ext_getElem
  · simp [flushS, h]
  · intro j h1 h2
    simp [flushS, curS_none, List.getD_eq_getElem?_getD, h2]
theorem dirtyI_succ (n : Nat) (df : Int → Option Sec) : dirtyI (n + 1) df = dirtyI n df ++ (if isD df n then [(n : Int)] else []) := by
  unfold dirtyI
  rw [dirtyN_succ, List.map_append]
  cases isD df n <;> rfl
theorem intInfo : (Try.prog.info? 3).map (fun i => (i.zero, i.size, i.bytes)) = some (some (.int .i64 0), 1, 8) := by kernel_rfl

set_option maxRecDepth 100000 in
set_option maxHeartbeats 1000000 in
theorem rdirty_any (m ab bb cb n : Nat) (nw ol : List Sec) (df : Int → Option Sec) (w : World) (h : RefIs w m ab bb cb n nw ol (isDs n df)) :
    Calls Try.prog 64 #[.pointer (some ⟨m, 0, none⟩)] w (DirtyPost w n df) := by
  have hn := h.small
  have H := Lib.hid h; clear h
  go_enter Try.func64, Try.ntmps64
  go_wp2
  go_loopw [3, 4] (fun v i wr => ∃ k : Nat, k ≤ n ∧ i = .int .i64 k ∧ Hid (wr.ownsRow w.heap.size 3 1 v (dirtyI k df).length ((dirtyI k df).map (Value.int .i64))) ∧ Hid (Below w.heap.size w wr)) (fun _ i _ => n - (intOf i).toNat)
  case atStart => exact ⟨0, Nat.zero_le _, rfl, Lib.hid (World.ownsRow_nil _ _ _ _), Lib.hid (Below.refl _ _)⟩
  case round =>
    obtain ⟨k, hk, rfl, hO, hB⟩ := hrel
    have hR := H.out.below hB.out
    obtain ⟨c1, c2, c3, hb⟩ := hR.blk
    have k2 := hb.cell 2
    simp at k2
    have zr := hB.out.size
    by_cases hlt : k < n
    · have hlt2 : (k : Int) < n := by omega
      have hk0 : (0 : Int) ≤ (k : Int) := by omega
      have hld : k < (isDs n df).length := by rw [isDs_len]; exact hlt
      have e2 := hR.c.cell k
      rw [bl_get hld, isDs_get df hld] at e2
      have hsu := dirtyI_succ k df
      have hle : (dirtyI k df).length ≤ 1024 := by rw [dirtyI_len]; have := dirtyN_le k df; omega
      clear hld hb hR
      cases hd : isD df k with
      | true =>
        rw [hd] at e2 hsu
        have HSU := Lib.hid hsu; clear hsu hd
        go_wp2_with (at_builtin; refine list_app rfl (.tmp 21) (.tmp 23) 69 rfl w.heap.size 3 (.int .i64 0) 1 8 intInfo Try.underlying69 rfl (by omega) u3 (dirtyI k df).length _ rfl (ownsRow_below hO.out ((Below.refl _ _).alloc (Nat.le_refl _) _)) ⟨wr.heap.size, 0, none⟩ 1 1 [.int .i64 k] rfl rfl ?_ ?_ ?_ ?_ ?_ ?_; (intro j u hj; match j, hj with | 0, hj => (simp at hj; subst hj; exact (Blk.newAt wr #[.int .i64 k] 3 wr.heap.size rfl).cell 0)); (intro u hu; simp at hu; subst hu; rfl); (unfold maxLen; omega); (omega); (simp; omega); intro v6 w6 O6 G6; have HO6 := Lib.hid O6; have HG6 := Lib.hid G6; clear O6 G6)
        go_roundw
        case rel =>
          refine ⟨k + 1, by omega, by go_num, Lib.hid ?_, Lib.hid ?_⟩
          · rw [HSU.out]; simpa using HO6.out
          · exact (hB.out.alloc zr _).grown HG6.out (by simp; omega) (fun j hj => (hO.out.lt j hj).1)
        case measure => simp [intOf]; omega
      | false =>
        rw [hd] at e2 hsu
        have HSU := Lib.hid hsu; clear hsu hd
        go_wp2
        go_roundw
        case rel => exact ⟨k + 1, by omega, by go_num, Lib.hid (by rw [HSU.out]; simpa using hO.out), hB⟩
        case measure => simp [intOf]; omega
    · have hkk : k = n := by omega
      subst hkk
      obtain ⟨a, c, rfl⟩ := row_form hO.out
      clear hb hR
      go_wp2
      go_ret
      exact ⟨a, c, rfl, hO.out, hB.out⟩

/-- A sector that is being filled. -/
def fillTo (xs : List Int) (k : Nat) : Sec := xs.take k ++ List.replicate (64 - k) 0
theorem fillTo_len {xs : List Int} {k : Nat} (h1 : k ≤ xs.length) (h2 : k ≤ 64) : (fillTo xs k).length = 64 := by simp [fillTo]; omega
theorem fillTo_set {xs : List Int} {k : Nat} (h1 : k < xs.length) (h2 : k < 64) : (fillTo xs k).set k xs[k] = fillTo xs (k + 1) := by
  unfold fillTo
  have e : List.replicate (64 - k) (0 : Int) = 0 :: List.replicate (64 - (k + 1)) 0 := by
    rw [show 64 - k = (64 - (k + 1)) + 1 by omega, List.replicate_succ]
  have this : k - (xs.take k).length = 0 := by simp; omega
  rw [e, List.set_append_right _ _ (by simp; omega), this, List.take_succ_eq_append_getElem h1, List.append_assoc]
  rfl
theorem sc_set (x : Sec) (i : Nat) (b : Int) : (sc x).toArray.setIfInBounds i (.int .u8 b) = (sc (x.set i b)).toArray := by
  unfold sc
  rw [List.setIfInBounds_toArray, List.map_set]
theorem fillTo_end {xs : List Int} {k : Nat} (h : ¬ (k < xs.length ∧ k < 64)) (h1 : k ≤ xs.length) (h2 : k ≤ 64) : fillTo xs k = fillS xs := by
  unfold fillTo fillS
  by_cases e : k = 64
  · subst e
    rw [show 64 - xs.length = 0 by omega]
  · have : k = xs.length := by omega
    subst this
    rw [List.take_length, List.take_of_length_le (by omega)]
end Go.Proofs.Ytlgimhhhlpmjcaa
namespace Go.Proofs.Ytlgimhhhlpmjcaa
open Go.RowKit Go.Maps Go.WideMaps Go.Shelf

theorem secInfoSize2 {s : Sec} (hs : s.length = 64) : (Try.prog.info? 58).map (·.size) = some (sc s).toArray.size := by rw [List.size_toArray, sc_len, hs]; exact secT2.info
set_option maxRecDepth 100000 in
set_option maxHeartbeats 1000000 in
theorem rfill_any (A : Option Addr) (n c : Nat) (xs : List Int) (w : World) (h : RdU8 w A n xs) (hn : n ≤ 100) :
    Calls Try.prog 33 #[.slice A n c] w fun e w' => e = .returned (.agg (sc (fillS xs)).toArray) ∧ Below w.heap.size w w' := by
  obtain ⟨z, HZ, hz⟩ := zsec_named
  have Hz := Lib.hid hz; clear hz
  have K0 := Lib.hid ((Blk.new w (sc z).toArray 58).alloc (.cells (sc z).toArray 58))
  have K1 := Lib.hid (Blk.newAt (w.alloc (.cells (sc z).toArray 58)) (sc z).toArray 58 (w.heap.size + 1) (by simp))
  have b2 : Below w.heap.size w ((w.alloc (.cells (sc z).toArray 58)).alloc (.cells (sc z).toArray 58)) := ((Below.refl w.heap.size w).alloc (Nat.le_refl _) _).alloc (by simp) _
  have B2 := Lib.hid b2; clear b2
  have H := Lib.hid h; clear h
  go_enter Try.func33, Try.ntmps33
  go_upto_block 0 with ((with_reducible refine sec_alloc secT2 HZ rfl rfl ?_); try simp only [World.size_alloc])
  go_cut [4] from 5 to 20 (fun _ wc => Hid (Blk wc (w.heap.size + 1) (sc (fillS xs)).toArray 58) ∧ Hid (Blk wc w.heap.size (sc z).toArray 58) ∧ Hid (Below w.heap.size w wc))
  case first =>
    go_wp2_with fail
    go_loopw [4] (fun i wr => ∃ k : Nat, k ≤ n ∧ k ≤ 64 ∧ i = .int .i64 k ∧ Hid (Blk wr (w.heap.size + 1) (sc (fillTo xs k)).toArray 58) ∧ Hid (Blk wr w.heap.size (sc z).toArray 58) ∧ Hid (Below w.heap.size w wr)) (fun i _ => n - (intOf i).toNat)
    case atStart => exact ⟨0, Nat.zero_le _, Nat.zero_le _, rfl, Lib.hid (by rw [show fillTo xs 0 = z by rw [HZ.out]; rfl]; exact K1.out), K0, B2⟩
    case round =>
      obtain ⟨k, hkn, hk64, rfl, hk1, hk0, hB⟩ := hrel
      by_cases hlt : k < n
      · have hlt2 : (k : Int) < n := by omega
        have hki : (0 : Int) ≤ (k : Int) := by omega
        by_cases h64 : k < 64
        · have h64i : (k : Int) < 64 := by omega
          obtain ⟨b, off, rfl, hbl, hc⟩ := (H.out.below hB.out).at' (by omega)
          have hkx : k < xs.length := by rw [H.out.len]; exact hlt
          have d0 := hc k hkx
          have hfs := fillTo_set hkx h64
          have e1 := hk1.out.cell k
          have e2 : (sc (fillTo xs k)).toArray[k]? = some (.int .u8 ((fillTo xs k)[k]'(by rw [fillTo_len (by omega) (by omega)]; exact h64))) := by
            rw [List.getElem?_toArray]; unfold sc; rw [List.getElem?_map, List.getElem?_eq_getElem (by rw [fillTo_len (by omega) (by omega)]; exact h64)]; rfl
          rw [e2] at e1
          generalize (fillTo xs k)[k]'(by rw [fillTo_len (by omega) (by omega)]; exact h64) = u at *
          have e3 := hk1.out.fr k
          have hl1 := hk1.out.lt
          generalize xs[k] = x at *
          have HFS := Lib.hid hfs
          clear hc hfs e2
          go_wp2
          go_roundw
          case rel =>
            refine ⟨k + 1, by omega, by omega, by go_num, Lib.hid ?_, Lib.hid (hk0.out.setOther (by omega) _ _), Lib.hid (hB.out.setCell (by simp) _)⟩
            rw [← HFS.out, ← sc_set]
            exact hk1.out.set k _
          case measure => simp [intOf]; omega
        · have h64i : ¬ (k : Int) < 64 := by omega
          go_wp2
          go_meet
          case rel => exact ⟨Lib.hid (by rw [← fillTo_end (by omega) (by rw [H.out.len]; omega) hk64]; exact hk1.out), hk0, hB⟩
      · have hge : ¬ (k : Int) < n := by omega
        go_wp2
        go_meet
        case rel => exact ⟨Lib.hid (by rw [← fillTo_end (by rw [H.out.len]; omega) (by rw [H.out.len]; omega) hk64]; exact hk1.out), hk0, hB⟩
  case rest =>
    obtain ⟨hk1, hk0, hB⟩ := hcut
    go_wp2_with (first
      | ((with_reducible refine is_load 58 (x := .tmp 3) rfl ?_); refine sec_load secT2 rfl _ rfl (w.heap.size + 1) 0 rfl (fillS xs) (fillS_len xs) hk1.out.sec ?_)
      | ((with_reducible refine is_store 58 (x := .tmp 2) rfl ?_); refine sec_store secT2 rfl _ _ rfl w.heap.size 0 (fillS xs) (fillS_len xs) rfl rfl (hk0.out.secThere Hz.out) ?_))
    refine bodyPost_ret (results_cell_row rfl _ _ w.heap.size 58 _ (0, 0) _ rfl (hk0.out.secStore (Hz.out.trans (fillS_len xs).symm)) Try.underlying58 rfl (secInfoSize2 (fillS_len xs))) rfl ?_
    exact ⟨rfl, below_cells hB.out (Nat.le_refl _) _ _⟩
end Go.Proofs.Ytlgimhhhlpmjcaa
namespace Go.Proofs.Ytlgimhhhlpmjcaa
open Go.RowKit Go.Maps Go.WideMaps Go.Shelf

def RCrashPost (w : World) (n : Nat) (cs : List Sec) (e : Ending) (w' : World) : Prop :=
  ∃ m ab bb cb, e = .returned (.pointer (some ⟨m, 0, none⟩)) ∧ RefIs w' m ab bb cb n cs cs (List.replicate n false) ∧ w.heap.size ≤ m ∧ w.heap.size ≤ ab ∧ w.heap.size ≤ bb ∧ w.heap.size ≤ cb ∧ Below w.heap.size w w'
theorem keepAt_lt {ks : List Bool} {k : Nat} (h : k < ks.length) : keepAt ks k = ks[k] := by simp [keepAt, List.getD_eq_getElem?_getD, h]
theorem keepAt_ge {ks : List Bool} {k : Nat} (h : ¬ k < ks.length) : keepAt ks k = false := by
  unfold keepAt; rw [List.getD_eq_getElem?_getD, List.getElem?_eq_none (by omega)]; rfl
theorem crashAt_len {n : Nat} {sf : List Sec} {df : Int → Option Sec} {keep : List Bool} (hl : sf.length = n) (he : ∀ x ∈ sf, x.length = 64) (hs : ∀ i s, df i = some s → 0 ≤ i ∧ i < (n : Int) ∧ s.length = 64) {i : Nat} (hi : i < n) : (crashAt sf df keep i).length = 64 := by
  rcases crashAt_or sf df keep i with e | e
  · rw [e]; exact curS_len hl he hs hi
  · rw [e]
    have hi' : i < sf.length := by omega
    have := he sf[i] (List.getElem_mem hi')
    simpa [List.getD_eq_getElem?_getD, hi'] using this

set_option maxRecDepth 100000 in
set_option maxHeartbeats 2000000 in
theorem rcrash_any (m ab bb cb n : Nat) (sf : List Sec) (df : Int → Option Sec) (A : Option Addr) (kn c : Nat) (keep : List Bool) (w : World) (h : RefIs w m ab bb cb n (flushS n sf df) sf (isDs n df)) (hk : RdBo w A kn keep) (h1 : 1 ≤ n) (hsup : ∀ i s, df i = some s → 0 ≤ i ∧ i < (n : Int) ∧ s.length = 64) :
    Calls Try.prog 38 #[.pointer (some ⟨m, 0, none⟩), .slice A kn c] w (RCrashPost w n (crashS n sf df keep)) := by
  obtain ⟨z, HZ, hz⟩ := zsec_named
  have Hz := Lib.hid hz; clear hz
  have hn := h.small
  obtain ⟨c1, c2, c3, hb⟩ := h.blk
  have k0 := hb.cell 0
  simp at k0
  have H := Lib.hid h; have HK := Lib.hid hk; have HSUP := Lib.hid hsup; clear h hk hb hsup
  have hml := H.out.lt
  have HML := Lib.hid hml; clear hml
  have hce : ∀ x ∈ crashS n sf df keep, x.length = 64 := by
    intro x hx
    unfold crashS at hx
    obtain ⟨i, hi, rfl⟩ := List.mem_map.1 hx
    exact crashAt_len H.out.lb H.out.eb HSUP.out (by simpa using hi)
  have HCE := Lib.hid hce; clear hce
  go_enter Try.func38, Try.ntmps38
  go_wp2_with fail
  refine (made_ok n w h1 hn).mono ?_
  rintro e w1 ⟨x, xa, xb, xc, rfl, hX, m1, m2, m3, m4, hb⟩
  have X1 := Lib.hid hX; have B1 := Lib.hid hb; have z1 := hb.size; clear hX hb k0
  go_wp2_with fail
  go_loopw [7, 8, 9] (fun t i _ wr => ∃ k : Nat, k ≤ n ∧ i = .int .i64 k ∧ t = .int .i64 (rk df k) ∧ Hid (RefIs wr x xa xb xc n (mixS k (crashS n sf df keep) (List.replicate n zsec)) (mixS k (crashS n sf df keep) (List.replicate n zsec)) (List.replicate n false)) ∧ Hid (Below w.heap.size w wr)) (fun _ i _ _ => n - (intOf i).toNat)
  case atStart => exact ⟨0, Nat.zero_le _, rfl, rfl, X1, B1⟩
  case round =>
    obtain ⟨k, hkn, rfl, rfl, hX, hB⟩ := hrel
    have hR := H.out.below hB.out
    obtain ⟨c1, c2, c3, hb⟩ := hR.blk
    have k0 := hb.cell 0; have k1 := hb.cell 1; have k2 := hb.cell 2
    simp at k0 k1 k2
    have HR := Lib.hid hR; have HBL := Lib.hid hb
    clear hR hb
    have zr := hB.out.size
    have hrk : rk df k ≤ n := Nat.le_trans (rk_mono df hkn) (by unfold rk; exact dirtyN_le n df)
    by_cases hlt : k < n
    · have hlt2 : (k : Int) < n := by omega
      have hk0 : (0 : Int) ≤ (k : Int) := by omega
      have hlb : k < sf.length := by rw [H.out.lb]; exact hlt
      have hgd : sf.getD k zsec = sf[k] := by simp [List.getD_eq_getElem?_getD, hlb]
      have hrb := HR.out.b.2 k hlb
      rw [← hgd] at hrb
      have hla : k < (flushS n sf df).length := by rw [flushS_len]; exact hlt
      have hra := HR.out.a.2 k hla
      have hga : (flushS n sf df)[k] = curS sf df k := by simp [flushS]
      rw [hga] at hra
      have hld : k < (isDs n df).length := by rw [isDs_len]; exact hlt
      have e2 := HR.out.c.cell k
      rw [bl_get hld, isDs_get df hld] at e2
      obtain ⟨s1, HS1⟩ : ∃ s, Hid (s = curS sf df k) := ⟨_, Lib.hid rfl⟩
      obtain ⟨s2, HS2⟩ : ∃ s, Hid (s = sf.getD k zsec) := ⟨_, Lib.hid rfl⟩
      obtain ⟨s3, HS3⟩ : ∃ s, Hid (s = crashAt sf df keep k) := ⟨_, Lib.hid rfl⟩
      rw [← HS1.out] at hra
      rw [← HS2.out] at hrb
      have LS1 : Hid (s1.length = 64) := Lib.hid (by rw [HS1.out]; exact curS_len H.out.lb H.out.eb HSUP.out hlt)
      have LS2 : Hid (s2.length = 64) := Lib.hid (by rw [HS2.out, hgd]; exact H.out.eb _ (List.getElem_mem hlb))
      have LS3 : Hid (s3.length = 64) := Lib.hid (by rw [HS3.out]; exact crashAt_len H.out.lb H.out.eb HSUP.out hlt)
      have HRA := Lib.hid hra; have HRB := Lib.hid hrb
      have hrs := rk_succ k df
      have hcr : s3 = if isD df k && keepAt keep (rk df k) then s1 else s2 := by rw [HS3.out, HS1.out, HS2.out]; rfl
      have HRS := Lib.hid hrs; have HCR := Lib.hid hcr
      have hxl := hX.out.lt
      have HXL := Lib.hid hxl
      clear hgd hlb hla hra hga hrb hld hrs hcr hxl
      go_upto_if 41 with (first
        | ((with_reducible refine is_load 58 (x := .tmp 33) rfl ?_); refine sec_load secT2 rfl _ rfl bb (k * 64) rfl s2 LS2.out HRB.out ?_)
        | ((with_reducible refine sec_alloc secT2 HZ rfl rfl ?_); try simp only [World.size_alloc])
        | ((with_reducible refine is_store 58 (x := .tmp 9) rfl ?_); refine sec_store secT2 rfl _ _ rfl wr.heap.size 0 s2 LS2.out rfl rfl ((Blk.new _ _ _).secThere Hz.out) ?_;
           have bW : Below wr.heap.size wr ((wr.alloc (.cells (sc z).toArray 58)).setCells wr.heap.size 0 (sc s2)) := below_cells ((Below.refl _ _).alloc (Nat.le_refl _) _) (Nat.le_refl _) _ _;
           have Jw9 := Lib.hid ((Blk.new wr (sc z).toArray 58).secStore (s' := s2) (Hz.out.trans LS2.out.symm));
           have HM9 := Lib.hid ((HBL.out.below bW));
           have HK9 := Lib.hid ((HK.out.below hB.out).below bW);
           have HRA9 := Lib.hid (rangeAt_keep HRA.out (bW.block ab HR.out.lt.2.1));
           have E29 := Lib.hid ((bW.cell (p := ⟨cb, k, none⟩) HR.out.lt.2.2.2).trans e2);
           have zw9 := bW.size; have bw9 := bW; clear bW k0 k1 k2 e2; generalize ((wr.alloc (.cells (sc z).toArray 58)).setCells wr.heap.size 0 (sc s2)) = w9 at *; have e2 := E29.out; have k2 := HM9.out.cell 2; simp at k2; have hcbl := HR.out.lt.2.2.2; have hmml := HM9.out.lt))
      generalize hg9 : wr.heap.size = g9 at *
      have HG9 := Lib.hid hg9; clear hg9
      have BW9 := Lib.hid bw9; clear bw9
      have hg9l := Jw9.out.lt
      go_cut [7] from 35 to 60 (fun t wc => t = .int .i64 (rk df (k + 1)) ∧ Hid (Blk wc g9 (sc s3).toArray 58) ∧ Hid (Below g9 wr wc))
      case first =>
        by_cases hd : isD df k = true
        · rw [hd]
          have hrs : rk df (k + 1) = rk df k + 1 := by rw [HRS.out, if_pos hd]
          have hrk2 : rk df k < 1024 := by
            have := rk_mono df (show k + 1 ≤ n by omega)
            have h2 : rk df n ≤ n := by unfold rk; exact dirtyN_le n df
            omega
          have k0 := HM9.out.cell 0
          simp at k0
          have HRS2 := Lib.hid hrs; clear hrs
          by_cases hkm : rk df k < kn
          · have hkm2 : (rk df k : Int) < kn := by omega
            have hrk0 : (0 : Int) ≤ (rk df k : Int) := by omega
            obtain ⟨kb, koff, rfl, hkbl, hkc⟩ := (HK9.out).at' (by omega)
            have hkk := hkc (rk df k) (by rw [HK9.out.len]; exact hkm)
            have hka := keepAt_lt (ks := keep) (k := rk df k) (by rw [HK9.out.len]; exact hkm)
            generalize keep[rk df k]'(by rw [HK9.out.len]; exact hkm) = bq at *
            have HKA := Lib.hid hka; clear hkc hka
            cases bq with
            | true =>
              have e3 : s3 = s1 := by rw [HCR.out, hd, HKA.out]; rfl
              subst e3
              generalize rk df k = K at *
              go_wp2_with (first
                | ((with_reducible refine is_load 58 (x := .tmp 57) rfl ?_); refine sec_load secT2 rfl _ rfl ab (k * 64) rfl s3 LS1.out HRA9.out ?_)
                | ((with_reducible refine is_store 58 (x := .tmp 9) rfl ?_); refine sec_store secT2 rfl _ _ rfl g9 0 s3 LS1.out rfl rfl (Jw9.out.secThere LS2.out) ?_))
              go_meet
              case rel => exact ⟨by rw [HRS2.out]; go_num, Lib.hid (Jw9.out.secStore (LS2.out.trans LS1.out.symm)), Lib.hid (below_cells BW9.out (Nat.le_refl _) _ _)⟩
            | false =>
              have e3 : s3 = s2 := by rw [HCR.out, hd, HKA.out]; rfl
              subst e3
              generalize rk df k = K at *
              go_wp2
              go_meet
              case rel => exact ⟨by rw [HRS2.out]; go_num, Jw9, BW9⟩
          · have hka : keepAt keep (rk df k) = false := keepAt_ge (by rw [HK9.out.len]; exact hkm)
            have e3 : s3 = s2 := by rw [HCR.out, hd, hka]; rfl
            subst e3
            have hge : ¬ (rk df k : Int) < kn := by omega
            clear hka
            generalize rk df k = K at *
            go_wp2
            go_meet
            case rel => exact ⟨by rw [HRS2.out]; go_num, Jw9, BW9⟩
        · have hd' : isD df k = false := by simpa using hd
          rw [hd']
          have hrs : rk df (k + 1) = rk df k := by rw [HRS.out, hd']; rfl
          have e3 : s3 = s2 := by rw [HCR.out, hd']; rfl
          subst e3
          have HRS2 := Lib.hid hrs; clear hrs hd
          go_wp2
          go_meet
          case rel => exact ⟨by rw [HRS2.out], Jw9, BW9⟩
      case rest =>
        obtain ⟨rfl, hJ, hBc⟩ := hcut
        have zc := hBc.out.size
        have hXc : RefIs wc x xa xb xc n (mixS k (crashS n sf df keep) (List.replicate n zsec)) (mixS k (crashS n sf df keep) (List.replicate n zsec)) (List.replicate n false) := hX.out.below (by rw [HG9.out]; exact hBc.out)
        obtain ⟨d1, d2, d3, hbx⟩ := hXc.blk
        have j0 := hbx.cell 0; have j1 := hbx.cell 1
        simp at j0 j1
        have hmix := mixS_succ (a := crashS n sf df keep) (b := List.replicate n zsec) (k := k) (by rw [crashS_len]; exact hlt) (by simp; exact hlt)
        have hcg : (crashS n sf df keep)[k]'(by rw [crashS_len]; exact hlt) = s3 := by rw [HS3.out]; simp [crashS]
        rw [hcg] at hmix
        have hlm : k < (mixS k (crashS n sf df keep) (List.replicate n zsec)).length := by rw [hXc.la]; exact hlt
        have HXC := Lib.hid hXc; have HBX := Lib.hid hbx; have HMIX := Lib.hid hmix; have HLM := Lib.hid hlm
        have hxl := hXc.lt
        clear hXc hbx hmix hlm hcg
        go_wp2_with fail
        refine region_tail 7 (by kernel_rfl) (by kernel_rfl) ?_
        simp only [List.take_succ_cons, List.take_zero, List.drop_succ_cons, List.drop_zero]
        still_step; still_step; still_step; still_step; still_step
        refine sec_still_w secT2 (by rfl) _ rfl g9 0 rfl s3 LS3.out hJ.out.sec ?_
        still_step
        refine wpStill_nil ?_
        refine sec_store secT2 rfl _ _ rfl xa (k * 64) s3 LS3.out rfl rfl (HXC.out.a.there k HLM.out (HXC.out.ea _ (List.getElem_mem HLM.out))) ?_
        have hkp : Kept wc (wc.drew.setCells xa (k * 64) (sc s3)) (fun y => y = xa) := Kept.setCells (S := fun y => y = xa) (Kept.refl _ _).drew rfl _ _
        have ha3 := SecsT.store (w := wc.drew) (HXC.out.a.keep rfl) k HLM.out HXC.out.ea s3 LS3.out
        rw [← HMIX.out] at ha3
        have hzz : wc.heap.size ≤ (wc.drew.setCells xa (k * 64) (sc s3)).heap.size := by rw [size_setCells]; exact Nat.le_refl _
        obtain ⟨n1, n2, n3, n4, n5, n6⟩ := HXC.out.ns
        have hm3 := HBX.out.kept hkp n1
        have hb3 := HXC.out.b.keep (hkp.block xb hxl.2.2.1 n6.symm)
        have hc3 := HXC.out.c.kept hkp n4.symm
        have hJ3 := hJ.out.kept hkp (by have := HXL.out; omega)
        have HKP := Lib.hid hkp; have HA3 := Lib.hid ha3; have HM3 := Lib.hid hm3; have HB3 := Lib.hid hb3; have HC3 := Lib.hid hc3; have HJ3 := Lib.hid hJ3
        clear hkp ha3 hm3 hb3 hc3 hJ3 j0 j1 hJ
        generalize wc.drew.setCells xa (k * 64) (sc s3) = w3 at *
        have i1 := HM3.out.cell 1
        simp at i1
        have him := HM3.out.lt
        go_wp2_with fail
        refine region_tail 7 (by kernel_rfl) (by kernel_rfl) ?_
        simp only [List.take_succ_cons, List.take_zero, List.drop_succ_cons, List.drop_zero]
        still_step; still_step; still_step; still_step; still_step
        refine sec_still_w secT2 (by rfl) _ rfl g9 0 rfl s3 LS3.out HJ3.out.sec ?_
        still_step
        refine wpStill_nil ?_
        refine sec_store secT2 rfl _ _ rfl xb (k * 64) s3 LS3.out rfl rfl (HB3.out.there k HLM.out (HXC.out.ea _ (List.getElem_mem HLM.out))) ?_
        have hkp : Kept w3 (w3.drew.setCells xb (k * 64) (sc s3)) (fun y => y = xb) := Kept.setCells (S := fun y => y = xb) (Kept.refl _ _).drew rfl _ _
        have hb4 := SecsT.store (w := w3.drew) (HB3.out.keep rfl) k HLM.out HXC.out.ea s3 LS3.out
        rw [← HMIX.out] at hb4
        have hR4 : RefIs (w3.drew.setCells xb (k * 64) (sc s3)) x xa xb xc n (mixS (k + 1) (crashS n sf df keep) (List.replicate n zsec)) (mixS (k + 1) (crashS n sf df keep) (List.replicate n zsec)) (List.replicate n false) := by
          refine ⟨⟨d1, d2, d3, HM3.out.kept hkp n2⟩, HA3.out.keep (hkp.block xa HA3.out.lt n6), hb4, HC3.out.kept hkp n5.symm, ?_, ?_, by simp, hn, ?_, ?_, n6⟩
          · rw [mixS_len (by rw [crashS_len]; simp) (by simp; omega)]; simp
          · rw [mixS_len (by rw [crashS_len]; simp) (by simp; omega)]; simp
          · exact mixS_each HCE.out (fun y hy => by rw [List.eq_of_mem_replicate hy]; exact zsec_len)
          · exact mixS_each HCE.out (fun y hy => by rw [List.eq_of_mem_replicate hy]; exact zsec_len)
        have hB4 : Below w.heap.size w (w3.drew.setCells xb (k * 64) (sc s3)) := ((hB.out.trans (hBc.out.mono zr)).trans (HKP.out.below (by omega) (fun y e => by subst e; exact m2))).trans (hkp.below (by omega) (fun y e => by subst e; exact m3))
        have HR4 := Lib.hid hR4; have HB4 := Lib.hid hB4; clear hR4 hB4 hb4 hkp
        go_wp2_with fail
        try go_frame
        go_roundw
        case rel => exact ⟨k + 1, by omega, by go_num, rfl, HR4, HB4⟩
        case measure => simp [intOf]; omega
    · have hkk : k = n := by omega
      subst hkk
      go_wp2
      go_ret
      have hX2 := hX.out
      rw [mixS_all (crashS_len _ _ _ _) (by simp)] at hX2
      exact ⟨x, xa, xb, xc, rfl, hX2, m1, m2, m3, m4, hB.out⟩
end Go.Proofs.Ytlgimhhhlpmjcaa
namespace Go.Proofs.Ytlgimhhhlpmjcaa
open Go.RowKit Go.Maps Go.WideMaps Go.Shelf

/-- A disk, and the document's. -/
structure BothIs (w : World) (d sb mb m ab bb cb n : Nat) (sf : List Sec) (df : Int → Option Sec) : Prop where
  d : DiskIs w d sb mb n sf df
  r : RefIs w m ab bb cb n (flushS n sf df) sf (isDs n df)
theorem BothIs.below {w w' : World} {d sb mb m ab bb cb n : Nat} {sf : List Sec} {df : Int → Option Sec} (h : BothIs w d sb mb m ab bb cb n sf df) (hb : Below w.heap.size w w') : BothIs w' d sb mb m ab bb cb n sf df := ⟨h.d.below hb, h.r.below hb⟩

set_option maxRecDepth 100000 in
set_option maxHeartbeats 2000000 in
theorem alike_any (d sb mb m ab bb cb n : Nat) (sf : List Sec) (df : Int → Option Sec) (w : World) (h : BothIs w d sb mb m ab bb cb n sf df) :
    Calls Try.prog 37 #[.pointer (some ⟨d, 0, none⟩), .pointer (some ⟨m, 0, none⟩)] w fun e w' => e = .returned (.bool true) ∧ Below w.heap.size w w' := by
  obtain ⟨z, HZ, hz⟩ := zsec_named
  have Hz := Lib.hid hz; clear hz
  have H := Lib.hid h; clear h
  have hn := H.out.d.small
  go_enter Try.func37, Try.ntmps37
  go_wp2_with fail
  refine (dirty_any d sb mb n sf df w H.out.d).mono ?_
  rintro e w1 ⟨a1, c1, rfl, hr1, hb1⟩
  have B1 := Lib.hid hb1; have H1 := Lib.hid (H.out.below hb1); have R1 := Lib.hid hr1; have z1 := hb1.size
  clear hb1 hr1
  go_wp2_with fail
  refine (rdirty_any m ab bb cb n _ _ df w1 H1.out.r).mono ?_
  rintro e w2 ⟨a2, c2, rfl, hr2, hb2⟩
  have B2 := Lib.hid (B1.out.trans (hb2.mono z1)); have H2 := Lib.hid (H1.out.below hb2); have R2 := Lib.hid hr2; have R12 := Lib.hid (ownsRow_below R1.out hb2); have z2 := B2.out.size
  clear hb2 hr2 R1
  have hL : (dirtyI n df).length ≤ 1024 := by rw [dirtyI_len]; have := dirtyN_le n df; omega
  generalize hdl : dirtyI n df = l at *
  have HDL := Lib.hid hdl; clear hdl
  obtain ⟨e1, e2, e3, hmb⟩ := H2.out.r.blk
  have k0 := hmb.cell 0
  simp at k0
  have HMB := Lib.hid hmb; clear hmb
  go_wp2_with fail
  have hlen := len_any d sb mb n sf df w2.drew (H2.out.d.keep rfl rfl rfl)
  refine wp_region_still_lit (by kernel_rfl) (by kernel_rfl) ?_
  still_step
  still_call hlen
  clear hlen
  repeat still_step
  refine wpStill_nil ?_
  go_wp2_with fail
  have B3 := Lib.hid (B2.out.drew)
  go_loopw [7] (fun i wr => ∃ k : Nat, k ≤ l.length ∧ i = .int .i64 k ∧ Hid (Below w2.heap.size w2 wr)) (fun i _ => l.length - (intOf i).toNat)
  case atStart => exact ⟨0, Nat.zero_le _, rfl, Lib.hid ((Below.refl _ _).drew)⟩
  case round =>
    obtain ⟨k, hk, rfl, hB⟩ := hrel
    by_cases hlt : k < l.length
    · have hlt2 : (k : Int) < (l.length : Int) := by omega
      have hk0 : (0 : Int) ≤ (k : Int) := by omega
      obtain ⟨g1, rfl, q1, q2, q3⟩ := row_cell (ownsRow_below R12.out hB.out) hlt
      obtain ⟨g2, rfl, p1, p2, p3⟩ := row_cell (ownsRow_below R2.out hB.out) hlt
      have hx : (l.map (Value.int .i64))[k]? = some (.int .i64 l[k]) := by simp [hlt]
      rw [hx] at q3 p3
      generalize l[k] = x at *
      clear hx k0
      go_wp2_with fail
      refine wp_region_still_lit (by kernel_rfl) (by kernel_rfl) ?_
      repeat still_step
      refine wpStill_nil ?_
      go_wp2_with fail
      go_roundw
      case rel => exact ⟨k + 1, by omega, by go_num, Lib.hid hB.out.drew⟩
      case measure => simp [intOf]; omega
    · have hkk : k = l.length := by omega
      subst hkk
      have B4 := Lib.hid (B2.out.trans (hB.out.mono z2)); have H4 := Lib.hid (H2.out.below hB.out); have HM4 := Lib.hid (HMB.out.below hB.out)
      have z4 := B4.out.size
      clear k0
      go_wp2_with fail
      obtain ⟨wo, rfl⟩ : ∃ wo : World, wo = wr := ⟨_, rfl⟩
      go_loopw [8, 9, 10] (fun i _ _ wr => ∃ k : Nat, k ≤ n ∧ i = .int .i64 k ∧ Hid (Below wo.heap.size wo wr)) (fun i _ _ _ => n - (intOf i).toNat)
      case atStart => exact ⟨0, Nat.zero_le _, rfl, Lib.hid (Below.refl _ _)⟩
      case round =>
        obtain ⟨k, hk, rfl, hBk⟩ := hrel
        have zk := hBk.out.size
        have hmk := HM4.out.below hBk.out
        have k0 := hmk.cell 0
        simp at k0
        clear hmk
        by_cases hlt : k < n
        · have hlt2 : (k : Int) < n := by omega
          have hk0 : (0 : Int) ≤ (k : Int) := by omega
          have hr := read_any d sb mb n sf df k wr (H4.out.below hBk.out).d
          rw [errD_in hlt, rdD_in sf df hlt] at hr
          obtain ⟨s1, HS1⟩ : ∃ s, Hid (s = curS sf df k) := ⟨_, Lib.hid rfl⟩
          have LS1 : Hid (s1.length = 64) := Lib.hid (by rw [HS1.out]; exact curS_len H.out.d.len H.out.d.each H.out.d.sup hlt)
          rw [← HS1.out] at hr
          have hla : k < (flushS n sf df).length := by rw [flushS_len]; exact hlt
          have hga : (flushS n sf df)[k] = s1 := by rw [HS1.out]; simp [flushS]
          have hra : ∀ W, Below wo.heap.size wo W → W.rangeAt ab (k * 64) (sc s1) := fun W hW => by rw [← hga]; exact (H4.out.below hW).r.a.2 k hla
          have HR := Lib.hid hr; have HRA := Lib.hid hra
          clear hr hla hga hra
          go_wp2_with fail
          refine HR.out.mono ?_
          rintro e wa ⟨rfl, hba⟩
          have Ba := Lib.hid (hBk.out.trans (hba.mono zk)); have za := Ba.out.size
          clear hba k0
          go_wp2_with (first
            | ((with_reducible refine sec_alloc secT1 HZ rfl rfl ?_); try simp only [World.size_alloc])
            | ((with_reducible refine is_store 55 (x := .tmp 9) rfl ?_); refine sec_store secT1 rfl _ _ rfl wa.heap.size 0 s1 LS1.out rfl rfl ((Blk.new _ _ _).secThere Hz.out) ?_;
               have bW : Below wa.heap.size wa ((wa.alloc (.cells (sc z).toArray 55)).setCells wa.heap.size 0 (sc s1)) := below_cells ((Below.refl _ _).alloc (Nat.le_refl _) _) (Nat.le_refl _) _ _;
               have Jwb := Lib.hid ((Blk.new wa (sc z).toArray 55).secStore (s' := s1) (Hz.out.trans LS1.out.symm));
               have Bb := Lib.hid (Ba.out.trans (bW.mono za));
               have zwb := bW.size; clear bW; generalize ((wa.alloc (.cells (sc z).toArray 55)).setCells wa.heap.size 0 (sc s1)) = wb at *))
          generalize hg9 : wa.heap.size = g9 at *
          have HG9 := Lib.hid hg9; clear hg9
          have hmk := HM4.out.below Bb.out
          have k0 := hmk.cell 0
          simp at k0
          clear hmk
          have heq : ∀ W : World, (Op.equalIn 10000 58 (.agg (sc s1).toArray) (.agg (sc s1).toArray)).run Try.prog W = .ok true W := fun W => by
            rw [sec_eq Try.underlying58 s1 s1 LS1.out LS1.out W]; simp
          refine wp_region_still_lit (by kernel_rfl) (by kernel_rfl) ?_
          still_step; still_step; still_step
          refine sec_still_w secT1 (by rfl) _ rfl g9 0 rfl s1 LS1.out Jwb.out.sec ?_
          still_step; still_step; still_step; still_step; still_step; still_step
          refine sec_still_w secT2 (by rfl) _ rfl ab (k * 64) rfl s1 LS1.out (HRA.out _ Bb.out.drew) ?_
          repeat still_step
          refine wpStill_nil ?_
          go_wp2_with fail
          go_roundw
          case rel => exact ⟨k + 1, by omega, by go_num, Lib.hid Bb.out.drew⟩
          case measure => simp [intOf]; omega
        · have hkk : k = n := by omega
          subst hkk
          go_wp2
          go_ret
          exact ⟨rfl, B4.out.trans (hBk.out.mono z4)⟩
end Go.Proofs.Ytlgimhhhlpmjcaa
namespace Go.Proofs.Ytlgimhhhlpmjcaa
open Go.RowKit Go.Maps Go.WideMaps Go.Shelf

theorem rwrite_any (m ab bb cb n : Nat) (sf : List Sec) (df : Int → Option Sec) (i : Int) (s : Sec) (w : World) (h : RefIs w m ab bb cb n (flushS n sf df) sf (isDs n df)) (hs : s.length = 64) :
    Calls Try.prog 32 #[.pointer (some ⟨m, 0, none⟩), .int .i64 i, .agg (sc s).toArray] w (RefWritePost w m ab bb cb n (flushS n sf (wrD n df i s)) sf (isDs n (wrD n df i s)) (errD n i)) := by
  unfold errD wrD
  cases hi : inD n i with
  | true =>
    obtain ⟨k, rfl, hk⟩ := inD_true hi
    have := rwrite_in m ab bb cb n _ sf _ k s w h hk hs
    rw [flushS_put sf df s hk, isDs_put df s hk] at this
    exact this
  | false => exact rwrite_out m ab bb cb n _ sf _ i s w h hi

theorem BothIs.ns {w : World} {d sb mb m ab bb cb n : Nat} {sf : List Sec} {df : Int → Option Sec} (h : BothIs w d sb mb m ab bb cb n sf df) :
    (d ≠ m ∧ d ≠ ab ∧ d ≠ bb ∧ d ≠ cb) ∧ (sb ≠ m ∧ sb ≠ ab ∧ sb ≠ bb ∧ sb ≠ cb) ∧ (m ≠ mb ∧ ab ≠ mb ∧ bb ≠ mb ∧ cb ≠ mb) := by
  obtain ⟨cap, hd⟩ := h.d.blk
  obtain ⟨⟨cu, hs⟩, _⟩ := h.d.safe
  obtain ⟨c1, c2, c3, hm⟩ := h.r.blk
  obtain ⟨⟨ca, ha⟩, _⟩ := h.r.a
  obtain ⟨⟨cb', hb⟩, _⟩ := h.r.b
  have hc := h.r.c
  exact ⟨⟨blk_ne hd hm (by decide), blk_ne hd ha (by decide), blk_ne hd hb (by decide), blk_ne hd hc (by decide)⟩,
    ⟨blk_ne hs hm (by decide), blk_ne hs ha (by decide), blk_ne hs hb (by decide), blk_ne hs hc (by decide)⟩,
    ⟨h.d.map.ne hm, h.d.map.ne ha, h.d.map.ne hb, h.d.map.ne hc⟩⟩
/-- All blocks lie above. -/
def Above (B d sb mb m ab bb cb : Nat) : Prop := B ≤ d ∧ B ≤ sb ∧ B ≤ mb ∧ B ≤ m ∧ B ≤ ab ∧ B ≤ bb ∧ B ≤ cb

theorem RefIs.grown {w w' : World} {m ab bb cb n x : Nat} {nw ol : List Sec} {dd : List Bool} (h : RefIs w m ab bb cb n nw ol dd) (hg : w.grownBy w' (some x)) (h0 : m ≠ x) (h1 : ab ≠ x) (h2 : bb ≠ x) (h3 : cb ≠ x) : RefIs w' m ab bb cb n nw ol dd :=
  h.keep (hg.block _ h.lt.1 (fun e => h0 (Option.some.inj e))) (hg.block _ h.lt.2.1 (fun e => h1 (Option.some.inj e))) (hg.block _ h.lt.2.2.1 (fun e => h2 (Option.some.inj e))) (hg.block _ h.lt.2.2.2 (fun e => h3 (Option.some.inj e)))
end Go.Proofs.Ytlgimhhhlpmjcaa
namespace Go.Proofs.Ytlgimhhhlpmjcaa
open Go.RowKit Go.Maps Go.WideMaps Go.Shelf

/-- The document's tape's block. -/
def RC (m h : Nat) (lv wv : Value) (fr : Bool) (dn : Nat) : Array Value := #[.pointer (some ⟨m, 0, none⟩), .int .i64 h, lv, wv, .bool fr, .int .i64 dn]
/-- Blocks of the lists. -/
def Lx (F : Nat → Prop) (r ab bb cb : Nat) (g : Nat) : Prop := F g ∧ g ≠ r ∧ g ≠ ab ∧ g ≠ bb ∧ g ≠ cb
structure RTapeIs (w : World) (F : Nat → Prop) (r m ab bb cb : Nat) (p : TD) : Prop where
  lt : ∀ k, F k → k < w.heap.size
  blk : ∃ A c A' c', Blk w r (RC m p.h (.slice A p.L.length c) (.slice A' p.W.length c') p.fr p.dn) 111 ∧ RdBX w (Lx F r ab bb cb) A p.L.length p.L ∧ RdBX w (Lx F r ab bb cb) A' p.W.length p.W
  ref : RefIs w m ab bb cb p.n (flushS p.n p.sf p.df) p.sf (isDs p.n p.df)
  fr' : F r
  fm : F m
  fa : F ab
  fb : F bb
  fc : F cb
  ok : p.Ok
theorem RTapeIs.same {w w' : World} {F : Nat → Prop} {r m ab bb cb : Nat} {p : TD} (h : RTapeIs w F r m ab bb cb p) (hk : ∀ g, F g → w'.heap[g]? = w.heap[g]?) (hs : w.heap.size ≤ w'.heap.size) : RTapeIs w' F r m ab bb cb p := by
  obtain ⟨h1, ⟨A, c, A', c', b1, b2, b3⟩, h3, h4, h5, h6, h7, h8, h9⟩ := h
  exact ⟨fun k hF => Nat.lt_of_lt_of_le (h1 k hF) hs, ⟨A, c, A', c', b1.keep (hk r h4), b2.keep (fun g hg _ => hk g hg.1) hs (fun g hg _ => hg), b3.keep (fun g hg _ => hk g hg.1) hs (fun g hg _ => hg)⟩, h3.keep (hk m h5) (hk ab h6) (hk bb h7) (hk cb h8), h4, h5, h6, h7, h8, h9⟩
theorem RTapeIs.below {w w' : World} {F : Nat → Prop} {r m ab bb cb : Nat} {p : TD} (h : RTapeIs w F r m ab bb cb p) (hb : Below w.heap.size w w') : RTapeIs w' F r m ab bb cb p := h.same (fun g hg => hb.block g (h.lt g hg)) hb.size
theorem RTapeIs.kept {w w' : World} {F S : Nat → Prop} {r m ab bb cb : Nat} {p : TD} (h : RTapeIs w F r m ab bb cb p) (hk : Kept w w' S) (hS : ∀ g, F g → ¬ S g) : RTapeIs w' F r m ab bb cb p := h.same (fun g hg => hk.block g (h.lt g hg) (hS g hg)) hk.size
def RTPost (w : World) (F : Nat → Prop) (r m ab bb cb : Nat) (p' : TD) (w' : World) : Prop := Kept w w' F ∧ ∃ F', RTapeIs w' F' r m ab bb cb p' ∧ ∀ k, F' k → F k ∨ w.heap.size ≤ k
theorem RTPost.same {w w' : World} {F : Nat → Prop} {r m ab bb cb : Nat} {p : TD} (h : RTapeIs w F r m ab bb cb p) (hb : Below w.heap.size w w') : RTPost w F r m ab bb cb p w' :=
  ⟨Kept.of_below hb _, F, h.below hb, fun k hk => .inl hk⟩
theorem RTapeIs.small {w : World} {F : Nat → Prop} {r m ab bb cb : Nat} {p : TD} (h : RTapeIs w F r m ab bb cb p) : p.n ≤ 1024 := h.ref.small


/-- append of bytes, whatever they are. -/
theorem run_app8 {w : World} {base : Nat} {v : Value} {xs ys : Bs} (h : Own8 w base v xs) (A : Option Addr) (m c : Nat) (hr : RdU8 w A m ys) (hm : xs.length + m ≤ 1000000) (hb : base ≤ w.heap.size) (ty : TypeId) :
    ∃ v' w', (Builtin.append_ #[31, 31] ty #[v, .slice A m c]).run Try.prog w = .ok v' w' ∧ Own8 w' base v' (xs ++ ys) ∧ w.grownBy w' v.ownBlock := by
  have hl := hr.len
  have ht := Try.underlying31
  obtain ⟨i, hi, hzz⟩ := Option.map_eq_some_iff.1 u8Info
  simp only [Prod.mk.injEq] at hzz
  obtain ⟨hz, hsize, hby⟩ := hzz
  by_cases hm0 : m = 0
  · subst hm0
    have hys : ys = [] := List.eq_nil_of_length_eq_zero hl
    subst hys
    have hsrc : Src Try.prog i.size 31 (.slice A 0 c) 0 [] w := by
      cases A with
      | none => exact Src.ofNil w ht c
      | some ad => exact Src.ofSlice w ht ad 0 c [] (by simp) (fun j u h => by simp at h) (fun u h => by cases h)
    rw [List.append_nil]
    obtain ⟨a0, c0, rfl⟩ := h.form
    have hle : xs.length ≤ c0 := by
      rcases h.2 with ⟨e, h0⟩ | ⟨g, cap, cur, e, e2, e3, e4, e5⟩
      · injection e with _ e2 e3; omega
      · injection e with _ _ e6; omega
    exact ⟨_, w, run_append_nothing (P := Try.prog) w _ _ ty 5 i ht hi a0 xs.length c0 hle _ hsrc, h, World.grownBy.refl w _⟩
  · obtain ⟨ad, rfl, hcells⟩ := hr.lt_max (by omega)
    obtain ⟨v', w', hrun, ho, hg, _⟩ := run_append_own (P := Try.prog) w base 31 ty 5 i (.int .u8 0) 1 1 ht hi hz hsize hby rfl (by omega) v xs.length (sc xs) h ad m c (sc ys) (by rw [sc_len]; omega) hcells (sc_one _) (by unfold maxLen; omega) (by omega) hb
    exact ⟨v', w', hrun, app_sc2 ho rfl hl, hg⟩
theorem list_app8 {ops : Array Oper} {o : Oper} {a : Act} {w : World} {Q : Exit → Act → World → Prop} {rest : List Oper} (hgd : o.guard = none) (s x : Operand)
    (ho : o.op = .call { callee := .builtin .append, args := #[s, x], argTypes := #[31, 31] })
    (base : Nat) (v : Value) (xs : Bs) (hs : a.eval s = v) (h0 : Own8 w base v xs) (A : Option Addr) (m c : Nat) (ys : Bs) (hx : a.eval x = .slice A m c) (hr : RdU8 w A m ys) (hm : xs.length + m ≤ 1000000) (hb : base ≤ w.heap.size)
    (h : ∀ v' w', Own8 w' base v' (xs ++ ys) → w.grownBy w' v.ownBlock → wpList Try.prog ops Q rest (a.put o.dst v') w') : wpList Try.prog ops Q (o :: rest) a w := by
  refine wpList_plain hgd fun K hK => ?_
  obtain ⟨v', w', hrun, h1, h2⟩ := run_app8 h0 A m c hr hm hb o.type
  unfold Oper.wp execOp
  simp only [ho, resolve, invoke, builtin, Sem.run_bind, Sem.run_pure, Result.andThen_ok, List.map_toArray, List.map_cons, List.map_nil, hs, hx, hrun]
  exact hK _ _ (h v' w' h1 h2)
theorem step_app8 {ops : Array Oper} {o : Oper} {a : Act} {w : World} {K : Act → World → Prop} {Q : Exit → Act → World → Prop} {E : Prop} (hgd : o.guard = none) (s x : Operand)
    (ho : o.op = .call { callee := .builtin .append, args := #[s, x], argTypes := #[31, 31] })
    (base : Nat) (v : Value) (xs : Bs) (hs : a.eval s = v) (h0 : Own8 w base v xs) (A : Option Addr) (m c : Nat) (ys : Bs) (hx : a.eval x = .slice A m c) (hr : RdU8 w A m ys) (hm : xs.length + m ≤ 1000000) (hb : base ≤ w.heap.size)
    (h : ∀ v' w', Own8 w' base v' (xs ++ ys) → w.grownBy w' v.ownBlock → K (a.put o.dst v') w') : if Region.wanted o (yielded ops a.tmps) = true then Oper.wp Try.prog o a w K Q else E := by
  rw [if_pos (by simp [Region.wanted, hgd])]
  obtain ⟨v', w', hrun, h1, h2⟩ := run_app8 h0 A m c hr hm hb o.type
  unfold Oper.wp execOp
  simp only [ho, resolve, invoke, builtin, Sem.run_bind, Sem.run_pure, Result.andThen_ok, List.map_toArray, List.map_cons, List.map_nil, hs, hx, hrun]
  exact h v' w' h1 h2
theorem Own8.grownB {w w1 w' : World} {base base0 : Nat} {v : Value} {xs : Bs} (h : Own8 w1 base v xs) (hb : Below base0 w w1) (hle : base0 ≤ w1.heap.size) (hbb : base0 ≤ base) (g : w1.grownBy w' v.ownBlock) : Below base0 w w' := hb.grown g hle (fun j hj => Nat.le_trans hbb (h.lt j hj).1)
theorem Own8.rdu {w : World} {base n c : Nat} {A : Option Addr} {xs : Bs} (h : Own8 w base (.slice A n c) xs) : RdU8 w A n xs := h.rd
theorem own8_lit (w : World) (xs : Bs) (n : Nat) (hn : n = xs.length) (h : n ≤ 100000) : Own8 (w.alloc (.cells (sc xs).toArray 5)) w.heap.size (.slice (some ⟨w.heap.size, 0, none⟩) n n) xs := Own8.lit w xs w.heap.size w.heap.size n rfl hn.symm (Nat.le_refl _) h

theorem rright_any (A : Option Addr) (n c : Nat) (w : World) :
    Calls Try.prog 89 #[.slice A n c] w fun e w' => e = .returned (.bool (decide (0 < n) && decide (n ≤ 300))) ∧ w' = w := by
  go_enter Try.func89, Try.ntmps89
  by_cases h1 : 0 < n
  · by_cases h2 : n ≤ 300
    · go_wp2
      go_ret
      exact ⟨by simp [h1, h2]; omega, rfl⟩
    · go_wp2
      go_ret
      exact ⟨by simp [h1, h2]; omega, rfl⟩
  · have : n = 0 := by omega
    subst this
    go_wp2
    go_ret
    exact ⟨rfl, rfl⟩
theorem rsectors_any (r m ab bb cb : Nat) (F : Nat → Prop) (p : TD) (w : World) (H : RTapeIs w F r m ab bb cb p) :
    Calls Try.prog 69 #[.pointer (some ⟨r, 0, none⟩)] w fun e w' => e = .returned (.int .i64 (secs p.n : Nat)) ∧ w' = w := by
  obtain ⟨A, c, A', c', K, _⟩ := H.blk
  have k0 := K.cell 0
  simp [RC] at k0
  obtain ⟨c1, c2, c3, hb⟩ := H.ref.blk
  have r0 := hb.cell 0
  simp at r0
  have hn := H.small
  have hn3 := H.ok.n3
  clear K H hb
  go_enter Try.func69, Try.ntmps69
  go_wp2
  go_ret
  refine ⟨ret_int ?_, rfl⟩
  unfold secs
  omega
theorem RTapeIs.ns {w : World} {F : Nat → Prop} {r m ab bb cb : Nat} {p : TD} (h : RTapeIs w F r m ab bb cb p) : r ≠ m ∧ r ≠ ab ∧ r ≠ bb ∧ r ≠ cb := by
  obtain ⟨A, c, A', c', K, _⟩ := h.blk
  obtain ⟨c1, c2, c3, hm⟩ := h.ref.blk
  obtain ⟨⟨ca, ha⟩, _⟩ := h.ref.a
  obtain ⟨⟨cb', hb⟩, _⟩ := h.ref.b
  exact ⟨blk_ne K hm (by decide), blk_ne K ha (by decide), blk_ne K hb (by decide), blk_ne K h.ref.c (by decide)⟩
set_option maxRecDepth 100000 in
theorem four_any (n : Nat) (w : World) (hn : n ≤ 4294967295) :
    Calls Try.prog 88 #[.int .i64 n] w fun e w' => ∃ v, e = .returned v ∧ Own8 w' w.heap.size v (long4 n) ∧ Below w.heap.size w w' := by
  go_enter Try.func88, Try.ntmps88
  go_wp2
  go_ret
  exact ⟨_, rfl, own8_lit w (long4 n) 4 rfl (by omega), balloc (Below.refl _ _) _⟩
theorem lo_hi (m : Nat) (h : m ≤ 500000) : IntKind.u8.wrap (IntKind.i64.wrap ((m : Int) / 256)) = (m : Int) / 256 % 256 := by
  rw [IntKind.wrap_u8, IntKind.wrap_i64]; omega
theorem lo_lo (m : Nat) : IntKind.u8.wrap ((m : Int).tmod 256) = (m : Int) % 256 := by
  rw [Int.tmod_eq_emod_of_nonneg (by omega), IntKind.wrap_u8]; omega
set_option maxRecDepth 100000 in
set_option maxHeartbeats 1000000 in
theorem rframes_any (A : Option Addr) (n c : Nat) (L : List Bs) (w : World) (h : RdBB w A n L) (hs : sizeB L ≤ 500000) :
    Calls Try.prog 90 #[.slice A n c] w fun e w' => ∃ v, e = .returned v ∧ Own8 w' w.heap.size v (framesB L) ∧ Below w.heap.size w w' := by
  have hl := h.len
  have hsl := sizeB_len L
  have hn : n ≤ 500000 := by omega
  have hle : ∀ k, sizeB (L.take k) ≤ 500000 := fun k => Nat.le_trans (sizeB_take_le L k) hs
  have H := Lib.hid h; have HL := Lib.hid hl; have HLE := Lib.hid hle; clear h hl hs hle hsl
  go_enter Try.func90, Try.ntmps90
  go_wp2
  go_loopw [3, 4] (fun o i wr => ∃ k : Nat, k ≤ n ∧ i = .int .i64 k ∧ Hid (Own8 wr w.heap.size o (framesB (L.take k))) ∧ Hid (Below w.heap.size w wr)) (fun _ i _ => n - (intOf i).toNat)
  case atStart => exact ⟨0, Nat.zero_le _, rfl, Lib.hid (Own8.nil _ _), Lib.hid (Below.refl _ _)⟩
  case round =>
    obtain ⟨k, hk, rfl, hO, hB⟩ := hrel
    have zr := hB.out.size
    by_cases hlt : k < n
    · obtain ⟨b, off, rfl, hb, hc⟩ := H.out.at' (by omega)
      have hkL : k < L.length := by rw [HL.out]; exact hlt
      obtain ⟨A', c', hck, hrd⟩ := hc k hkL
      have HTK := Lib.hid (framesB_take_succ L k hkL)
      have h1 := HLE.out k
      have h2 := HLE.out (k + 1)
      rw [sizeB_take_succ L k hkL] at h2
      have hfl := framesB_len (L.take k)
      generalize hx : L[k] = x at *
      clear hx hc
      obtain ⟨m, hm⟩ : ∃ m, m = x.length := ⟨_, rfl⟩
      rw [← hm] at hck hrd h2
      have HM := Lib.hid hm; clear hm
      have q1 := (hB.out.cell (p := ⟨b, off + k, none⟩) hb).trans hck
      have HRD := Lib.hid (hrd.below hB.out); have HRD0 := Lib.hid hrd; have HBL0 := Lib.hid hb
      have q0 := hck
      have hltI : (k : Int) < n := by omega
      have HBL := Lib.hid (Nat.lt_of_lt_of_le hb zr)
      have hfl2 : (framesB (L.take k)).length + (m + 2) ≤ 500000 := by omega
      generalize framesB (L.take k) = fs at *
      obtain ⟨a0, c0, rfl⟩ := hO.out.form
      obtain ⟨fl, hfe⟩ : ∃ fl, fl = fs.length := ⟨_, rfl⟩
      rw [← hfe] at hO hfl2 ⊢
      have HFE := Lib.hid hfe
      have Q0 := Lib.hid q0
      clear hfe hck hrd hb hkL h1 h2 hfl q0
      have hm5 : m ≤ 500000 := by omega
      have HFL := Lib.hid hfl2
      have BA := Lib.hid (bdrew (balloc (Below.refl wr.heap.size wr) (.cells #[.int .u8 (IntKind.u8.wrap (IntKind.i64.wrap ((m : Int) / 256))), .int .u8 (IntKind.u8.wrap ((m : Int).tmod 256))] 5)))
      have OA : Hid (Own8 (wr.alloc (.cells #[.int .u8 (IntKind.u8.wrap (IntKind.i64.wrap ((m : Int) / 256))), .int .u8 (IntKind.u8.wrap ((m : Int).tmod 256))] 5)) wr.heap.size (.slice (some ⟨wr.heap.size, 0, none⟩) 2 2) [(m : Int) / 256 % 256, (m : Int) % 256]) := Lib.hid (by
        rw [lo_hi m hm5, lo_lo m]
        exact own8_lit wr [(m : Int) / 256 % 256, (m : Int) % 256] 2 rfl (by omega))
      obtain ⟨f2, hf2⟩ : ∃ f2, f2 = fs ++ [(m : Int) / 256 % 256, (m : Int) % 256] := ⟨_, rfl⟩
      have HF2 := Lib.hid hf2
      have HL2 : Hid (f2.length = fl + 2) := Lib.hid (by rw [hf2, List.length_append, HFE.out]; rfl)
      clear hf2
      go_wp2_with fail
      go_region_law (first
        | (refine step_app8 rfl _ _ rfl w.heap.size _ fs rfl ?_ _ 2 2 [(m : Int) / 256 % 256, (m : Int) % 256] rfl ?_ ?_ ?_ ?_
           (exact ownsRow_below hO.out BA.out)
           (exact (OA.out.rd).below (bdrew (Below.refl _ _)))
           (have := HFL.out; have := HFE.out; omega)
           (have := BA.out.size; omega)
           intro v5 w5 O5 G5
           rw [← HF2.out] at O5
           obtain ⟨a5, c5, rfl⟩ := O5.form
           rw [HL2.out] at O5 ⊢
           have B5 := Lib.hid ((bthen hB.out BA.out).grown G5 (bthen hB.out BA.out).size (fun j hj => (hO.out.lt j hj).1))
           have HO5 := Lib.hid O5; clear O5 G5))
      all_goals
        have q5 := (Lib.hid ((B5.out.cell (p := ⟨b, off + k, none⟩) HBL0.out).trans Q0.out))
        have q6 := q5.out
        clear q5
        have HR5 := Lib.hid (HRD0.out.below B5.out)
        go_wp2_with (at_builtin; refine list_app8 rfl _ _ rfl w.heap.size _ f2 rfl HO5.out A' m c' x rfl HR5.out (by rw [HL2.out]; omega) B5.out.size ?_; intro v6 w6 O6 G6; have B6 := Lib.hid (B5.out.grown G6 B5.out.size (fun j hj => (HO5.out.lt j hj).1)); have HO6 := Lib.hid O6; clear O6 G6)
        go_roundw
        case rel => exact ⟨k + 1, by omega, by go_num, Lib.hid (by rw [HTK.out]; have := HO6.out; rw [HF2.out] at this; simpa [frameB, ← HM.out] using this), B6⟩
        case measure => simp [intOf]; omega
    · have : k = n := by omega
      subst this
      have hO' := hO.out
      rw [List.take_of_length_le (by rw [HL.out]; exact Nat.le_refl _)] at hO'
      have HO' := Lib.hid hO'
      clear hO hO'
      go_wp2
      go_ret
      exact ⟨_, rfl, HO'.out, hB.out⟩
end Go.Proofs.Ytlgimhhhlpmjcaa
namespace Go.Proofs.Ytlgimhhhlpmjcaa
open Go.RowKit Go.Maps Go.WideMaps Go.Shelf

set_option maxRecDepth 100000 in
set_option maxHeartbeats 1000000 in
theorem rfill_two (A : Option Addr) (n c : Nat) (xs : List Int) (w : World) (h : RdU8 w A n xs) (hn : n ≤ 1000) :
    Calls Try.prog 33 #[.slice A n c] w fun e w' => e = .returned (.agg (sc (fillS xs)).toArray) ∧ Below w.heap.size w w' := by
  obtain ⟨z, HZ, hz⟩ := zsec_named
  have Hz := Lib.hid hz; clear hz
  have K0 := Lib.hid ((Blk.new w (sc z).toArray 58).alloc (.cells (sc z).toArray 58))
  have K1 := Lib.hid (Blk.newAt (w.alloc (.cells (sc z).toArray 58)) (sc z).toArray 58 (w.heap.size + 1) (by simp))
  have b2 : Below w.heap.size w ((w.alloc (.cells (sc z).toArray 58)).alloc (.cells (sc z).toArray 58)) := ((Below.refl w.heap.size w).alloc (Nat.le_refl _) _).alloc (by simp) _
  have B2 := Lib.hid b2; clear b2
  have H := Lib.hid h; clear h
  go_enter Try.func33, Try.ntmps33
  go_upto_block 0 with ((with_reducible refine sec_alloc secT2 HZ rfl rfl ?_); try simp only [World.size_alloc])
  go_cut [4] from 5 to 20 (fun _ wc => Hid (Blk wc (w.heap.size + 1) (sc (fillS xs)).toArray 58) ∧ Hid (Blk wc w.heap.size (sc z).toArray 58) ∧ Hid (Below w.heap.size w wc))
  case first =>
    go_wp2_with fail
    go_loopw [4] (fun i wr => ∃ k : Nat, k ≤ n ∧ k ≤ 64 ∧ i = .int .i64 k ∧ Hid (Blk wr (w.heap.size + 1) (sc (fillTo xs k)).toArray 58) ∧ Hid (Blk wr w.heap.size (sc z).toArray 58) ∧ Hid (Below w.heap.size w wr)) (fun i _ => n - (intOf i).toNat)
    case atStart => exact ⟨0, Nat.zero_le _, Nat.zero_le _, rfl, Lib.hid (by rw [show fillTo xs 0 = z by rw [HZ.out]; rfl]; exact K1.out), K0, B2⟩
    case round =>
      obtain ⟨k, hkn, hk64, rfl, hk1, hk0, hB⟩ := hrel
      by_cases hlt : k < n
      · have hlt2 : (k : Int) < n := by omega
        have hki : (0 : Int) ≤ (k : Int) := by omega
        by_cases h64 : k < 64
        · have h64i : (k : Int) < 64 := by omega
          obtain ⟨b, off, rfl, hbl, hc⟩ := (H.out.below hB.out).at' (by omega)
          have hkx : k < xs.length := by rw [H.out.len]; exact hlt
          have d0 := hc k hkx
          have hfs := fillTo_set hkx h64
          have e1 := hk1.out.cell k
          have e2 : (sc (fillTo xs k)).toArray[k]? = some (.int .u8 ((fillTo xs k)[k]'(by rw [fillTo_len (by omega) (by omega)]; exact h64))) := by
            rw [List.getElem?_toArray]; unfold sc; rw [List.getElem?_map, List.getElem?_eq_getElem (by rw [fillTo_len (by omega) (by omega)]; exact h64)]; rfl
          rw [e2] at e1
          generalize (fillTo xs k)[k]'(by rw [fillTo_len (by omega) (by omega)]; exact h64) = u at *
          have e3 := hk1.out.fr k
          have hl1 := hk1.out.lt
          generalize xs[k] = x at *
          have HFS := Lib.hid hfs
          clear hc hfs e2
          go_wp2
          go_roundw
          case rel =>
            refine ⟨k + 1, by omega, by omega, by go_num, Lib.hid ?_, Lib.hid (hk0.out.setOther (by omega) _ _), Lib.hid (hB.out.setCell (by simp) _)⟩
            rw [← HFS.out, ← sc_set]
            exact hk1.out.set k _
          case measure => simp [intOf]; omega
        · have h64i : ¬ (k : Int) < 64 := by omega
          go_wp2
          go_meet
          case rel => exact ⟨Lib.hid (by rw [← fillTo_end (by omega) (by rw [H.out.len]; omega) hk64]; exact hk1.out), hk0, hB⟩
      · have hge : ¬ (k : Int) < n := by omega
        go_wp2
        go_meet
        case rel => exact ⟨Lib.hid (by rw [← fillTo_end (by rw [H.out.len]; omega) (by rw [H.out.len]; omega) hk64]; exact hk1.out), hk0, hB⟩
  case rest =>
    obtain ⟨hk1, hk0, hB⟩ := hcut
    go_wp2_with (first
      | ((with_reducible refine is_load 58 (x := .tmp 3) rfl ?_); refine sec_load secT2 rfl _ rfl (w.heap.size + 1) 0 rfl (fillS xs) (fillS_len xs) hk1.out.sec ?_)
      | ((with_reducible refine is_store 58 (x := .tmp 2) rfl ?_); refine sec_store secT2 rfl _ _ rfl w.heap.size 0 (fillS xs) (fillS_len xs) rfl rfl (hk0.out.secThere Hz.out) ?_))
    refine bodyPost_ret (results_cell_row rfl _ _ w.heap.size 58 _ (0, 0) _ rfl (hk0.out.secStore (Hz.out.trans (fillS_len xs).symm)) Try.underlying58 rfl (secInfoSize2 (fillS_len xs))) rfl ?_
    exact ⟨rfl, below_cells hB.out (Nat.le_refl _) _ _⟩

theorem own8_below {w w' : World} {base : Nat} {v : Value} {xs : Bs} (h : Own8 w base v xs) (hb : Below w.heap.size w w') : Own8 w' base v xs := ownsRow_below h hb
theorem h_cons (h r u : Int) : [h] ++ long4 r ++ long4 u = h :: (long4 r ++ long4 u) := by simp
theorem h_len1 (h : Int) (r : Int) : ([h] ++ long4 r).length = 5 := rfl
theorem h_len2 (h : Int) (r u : Int) : ([h] ++ long4 r ++ long4 u).length = 9 := rfl
set_option maxRecDepth 100000 in
set_option maxHeartbeats 1000000 in
theorem rsuper_any (h : Int) (r u : Nat) (w : World) (h0 : 0 ≤ h) (h1 : h < 256) (hr : r ≤ 4294967295) (hu : u ≤ 4294967295) :
    Calls Try.prog 68 #[.int .i64 h, .int .i64 r, .int .i64 u] w fun e w' => e = .returned (.agg (sc (superB h r u)).toArray) ∧ Below w.heap.size w w' := by
  obtain ⟨z, HZ, hz⟩ := zsec_named
  have Hz := Lib.hid hz; clear hz
  have K0 := Lib.hid (Blk.new w (sc z).toArray 58)
  have B0 := Lib.hid (balloc (Below.refl w.heap.size w) (.cells (sc z).toArray 58))
  have hb : IntKind.u8.wrap h = h := by rw [IntKind.wrap_u8]; omega
  have hh : h % 256 = h := by omega
  have HSB := Lib.hid (show fillS ([h] ++ long4 (r : Int) ++ long4 (u : Int)) = superB h r u by unfold superB; rw [hh, h_cons])
  have hsl : (superB h r u).length = 64 := superB_len _ _ _
  generalize superB h r u = sp at *
  have HSL := Lib.hid hsl
  clear hsl hh
  go_enter Try.func68, Try.ntmps68
  go_wp2_with ((with_reducible refine sec_alloc secT2 HZ rfl rfl ?_); try simp only [World.size_alloc])
  have BL := Lib.hid (balloc B0.out (.cells #[.int .u8 h] 5))
  have KL := Lib.hid (K0.out.alloc (.cells #[.int .u8 h] 5))
  have OL : Hid (Own8 ((w.alloc (.cells (sc z).toArray 58)).alloc (.cells #[.int .u8 h] 5)) (w.heap.size + 1) (.slice (some ⟨w.heap.size + 1, 0, none⟩) 1 1) [h]) := Lib.hid (Own8.lit (w.alloc (.cells (sc z).toArray 58)) [h] (w.heap.size + 1) (w.heap.size + 1) 1 (by simp) rfl (by simp) (by omega))
  generalize ((w.alloc (.cells (sc z).toArray 58)).alloc (.cells #[.int .u8 h] 5)) = w1 at *
  clear hb
  refine (four_any r w1 hr).mono ?_
  rintro e w2 ⟨v2, rfl, O2, B2⟩
  obtain ⟨a2, c2, rfl⟩ := O2.form
  have R2 := Lib.hid O2.rd; have B02 := Lib.hid (bthen BL.out B2); have K2 := Lib.hid (KL.out.below B2); have OL2 := Lib.hid (own8_below OL.out B2)
  have z2 := B02.out.size
  clear O2 B2
  rw [show (long4 (r : Int)).length = 4 from rfl] at R2 ⊢
  have z2' : w.heap.size + 1 ≤ w2.heap.size := K2.out.lt
  go_wp2_with (at_builtin; refine list_app8 rfl _ _ rfl (w.heap.size + 1) _ [h] rfl OL2.out a2 4 c2 (long4 r) rfl R2.out (by simp) z2' ?_; intro v3 w3 O3 G3; obtain ⟨a3, c3, rfl⟩ := O3.form
               have B3 := Lib.hid (B02.out.grown G3 z2 (fun j hj => by have := (OL2.out.lt j hj).1; omega)); have K3 := Lib.hid (K2.out.grown G3 (fun e => by have := (OL2.out.lt _ e.symm).1; omega)); have HO3 := Lib.hid O3; clear O3 G3; rw [h_len1] at HO3 ⊢)
  refine (four_any u w3 hu).mono ?_
  rintro e w4 ⟨v4, rfl, O4, B4⟩
  obtain ⟨a4, c4, rfl⟩ := O4.form
  have R4 := Lib.hid O4.rd; have B04 := Lib.hid (bthen B3.out B4); have K4 := Lib.hid (K3.out.below B4); have OL4 := Lib.hid (own8_below HO3.out B4)
  have z4 := B04.out.size
  have z4' : w.heap.size + 1 ≤ w4.heap.size := K4.out.lt
  clear O4 B4
  rw [show (long4 (u : Int)).length = 4 from rfl] at R4 ⊢
  go_wp2_with (at_builtin; refine list_app8 rfl _ _ rfl (w.heap.size + 1) _ ([h] ++ long4 (r : Int)) rfl OL4.out a4 4 c4 (long4 u) rfl R4.out (by rw [h_len1]; omega) z4' ?_; intro v5 w5 O5 G5; obtain ⟨a5, c5, rfl⟩ := O5.form
               have B5 := Lib.hid (B04.out.grown G5 z4 (fun j hj => by have := (OL4.out.lt j hj).1; omega)); have K5 := Lib.hid (K4.out.grown G5 (fun e => by have := (OL4.out.lt _ e.symm).1; omega)); have HO5 := Lib.hid O5; clear O5 G5; rw [h_len2] at HO5 ⊢)
  refine (rfill_two a5 9 c5 _ w5 HO5.out.rd (by omega)).mono ?_
  rintro e w6 ⟨rfl, B6⟩
  have B06 := Lib.hid (bthen B5.out B6); have K6 := Lib.hid (K5.out.below B6)
  clear B6
  rw [HSB.out]
  go_wp2_with ((with_reducible refine is_store 58 (x := .tmp 6) rfl ?_); refine sec_store secT2 rfl _ _ rfl w.heap.size 0 sp HSL.out rfl rfl (K6.out.secThere Hz.out) ?_)
  refine bodyPost_ret (results_cell_row rfl _ _ w.heap.size 58 _ (0, 0) _ rfl (K6.out.secStore (Hz.out.trans HSL.out.symm)) Try.underlying58 rfl (secInfoSize2 HSL.out)) rfl ?_
  exact ⟨rfl, below_cells B06.out (Nat.le_refl _) _ _⟩

/-- Room, by the document. -/
theorem rroom_any (r m ab bb cb : Nat) (F : Nat → Prop) (p : TD) (w : World) (H : RTapeIs w F r m ab bb cb p) :
    Calls Try.prog 76 #[.pointer (some ⟨r, 0, none⟩)] w fun e w' => e = .returned (.int .i64 (roomP p)) ∧ Below w.heap.size w w' := by
  obtain ⟨A, c, A', c', K, R, R'⟩ := H.blk
  have k2 := K.cell 2; have k3 := K.cell 3; have k4 := K.cell 4
  simp [RC] at k2 k3 k4
  have tl := K.lt
  have hab := allB_le H.small
  have hfl := H.ok.fitL; have hfw := H.ok.fitW
  have hn := H.ok.n3
  have HH := Lib.hid H; have HR := Lib.hid R.rd; have HR' := Lib.hid R'.rd
  have hw : sizeB p.W ≤ 32704 := by omega
  have hl : sizeB p.L ≤ 32704 := by omega
  have HLE := Lib.hid (And.intro hl hw)
  have HF1 := Lib.hid (framesB_len p.L); have HF2 := Lib.hid (framesB_len p.W)
  have HAB := Lib.hid (show ((allB p.n : Nat) : Int) = 64 * (secs p.n : Nat) by unfold allB; omega)
  have hsn : secs p.n ≤ 511 := secs_le _ H.small
  clear K H R R' hfw hfl
  go_enter Try.func76, Try.ntmps76
  have q0 := Lib.hid (show ∀ W, Below w.heap.size w W → W.cell? ⟨r, 2, none⟩ = some (.slice A p.L.length c) ∧ W.cell? ⟨r, 3, none⟩ = some (.slice A' p.W.length c') ∧ W.cell? ⟨r, 4, none⟩ = some (.bool p.fr) from fun W hW => ⟨(hW.cell (p := ⟨r, 2, none⟩) tl).trans k2, (hW.cell (p := ⟨r, 3, none⟩) tl).trans k3, (hW.cell (p := ⟨r, 4, none⟩) tl).trans k4⟩)
  have X1 := Lib.hid (bdrew (Below.refl w.heap.size w))
  have r2 := (q0.out _ X1.out).1
  go_wp2_with fail
  go_region_held3 (fun W => W.cell? ⟨r, 2, none⟩ = some (.slice A p.L.length c)) (first | exact r2 | go_keep)
    (first
      | (go_at_call 69; refine (rsectors_any r m ab bb cb F p _ (HH.out.below X1.out)).mono ?_; rintro e w2 ⟨rfl, hw2⟩; rw [hw2]; clear hw2 w2)
      | (go_at_call 90; refine (rframes_any A _ c p.L _ (HR.out.below X1.out) (by have := HLE.out.1; omega)).mono ?_
         rintro e w3 ⟨v3, rfl, O3, B3⟩; obtain ⟨a3, c3, rfl⟩ := O3.form; rw [HF1.out]
         have X1 := Lib.hid (bthen X1.out B3); have r2 := (q0.out _ X1.out).1; clear O3 B3))
  have e1 : IntKind.i64.wrap (IntKind.i64.wrap (64 * ((secs p.n : Nat) : Int)) - ((sizeB p.L : Nat) : Int)) = (allB p.n : Nat) - ((sizeB p.L : Nat) : Int) := by
    have := HLE.out.1; have := HAB.out
    rw [IntKind.wrap_i64, IntKind.wrap_i64]; omega
  rw [e1]
  have HE := Lib.hid e1
  clear e1 hab
  cases hfr : p.fr with
  | true =>
    have r4 := (q0.out _ X1.out).2.2
    rw [hfr] at r4
    go_wp2
    go_ret
    exact ⟨ret_int (by unfold roomP; rw [hfr]; simp), X1.out⟩
  | false =>
    have r4 := (q0.out _ X1.out).2.2
    have r3 := (q0.out _ X1.out).2.1
    rw [hfr] at r4
    go_wp2_with (go_at_call 90; refine (rframes_any A' _ c' p.W _ (HR'.out.below X1.out) (by have := HLE.out.2; omega)).mono ?_
                 rintro e w4 ⟨v4, rfl, O4, B4⟩; obtain ⟨a4, c4, rfl⟩ := O4.form; rw [HF2.out]; have X4 := Lib.hid (bthen X1.out B4); clear O4 B4)
    go_ret
    have := HLE.out; have := HAB.out
    exact ⟨ret_int (by unfold roomP; rw [hfr]; simp only [Bool.false_eq_true, if_false]; first | omega | (unfold wrap64; omega)), X4.out⟩
end Go.Proofs.Ytlgimhhhlpmjcaa
namespace Go.Proofs.Ytlgimhhhlpmjcaa
open Go.RowKit Go.Maps Go.WideMaps Go.Shelf

/-- Blocks of lists, and new ones. -/
def Ly (w : World) (F : Nat → Prop) (r ab bb cb : Nat) (g : Nat) : Prop := w.heap.size ≤ g ∨ Lx F r ab bb cb g
/-- The document's tape, its own fields written. -/
theorem rtape_set {w w5 w6 : World} {F : Nat → Prop} {r m ab bb cb : Nat} {p q : TD} {A A' : Option Addr} {c c' : Nat} (H : RTapeIs w F r m ab bb cb p) (B5 : Below w.heap.size w w5) (K6 : Kept w5 w6 (fun k => k = r)) (z6 : w6.heap.size = w5.heap.size)
    (b6 : Blk w6 r (RC m q.h (.slice A q.L.length c) (.slice A' q.W.length c') q.fr q.dn) 111) (R5 : RdBX w5 (Ly w F r ab bb cb) A q.L.length q.L) (R5' : RdBX w5 (Ly w F r ab bb cb) A' q.W.length q.W)
    (hn : q.n = p.n) (hs : q.sf = p.sf) (hd : q.df = p.df) (hok : q.Ok) : RTPost w F r m ab bb cb q w6 := by
  have z5 := B5.size
  obtain ⟨n1, n2, n3, n4⟩ := H.ns
  have hX : ∀ g, Ly w F r ab bb cb g → g < w5.heap.size → Lx (fun k => F k ∨ (w.heap.size ≤ k ∧ k < w6.heap.size)) r ab bb cb g := fun g hg hlt => by
    rcases hg with hg | hg
    · have h1 := H.lt r H.fr'; have h2 := H.lt ab H.fa; have h3 := H.lt bb H.fb; have h4 := H.lt cb H.fc
      exact ⟨.inr ⟨hg, by omega⟩, by omega, by omega, by omega, by omega⟩
    · exact ⟨.inl hg.1, hg.2⟩
  have hne : ∀ g, Ly w F r ab bb cb g → g ≠ r := fun g hg => by
    rcases hg with hg | hg
    · have := H.lt r H.fr'; omega
    · exact hg.2.1
  refine ⟨(Kept.of_below B5 F).trans2 (K6) (fun i _ h => by rw [h]; exact H.fr'), fun k => F k ∨ (w.heap.size ≤ k ∧ k < w6.heap.size), ⟨fun k hk => ?_, ⟨A, c, A', c', b6, R5.keep (fun g hg hlt => K6.block g hlt (hne g hg)) K6.size hX, R5'.keep (fun g hg hlt => K6.block g hlt (hne g hg)) K6.size hX⟩, ?_, .inl H.fr', .inl H.fm, .inl H.fa, .inl H.fb, .inl H.fc, hok⟩, fun k hk => hk.imp id fun h => h.1⟩
  · rcases hk with hk | hk
    · have := H.lt k hk; omega
    · exact hk.2
  · rw [hn, hs, hd]
    have hf : ∀ g, F g → g ≠ r → w6.heap[g]? = w.heap[g]? := fun g hg hgr => (K6.block g (Nat.lt_of_lt_of_le (H.lt g hg) z5) hgr).trans (B5.block g (H.lt g hg))
    exact H.ref.keep (hf m H.fm n1.symm) (hf ab H.fa n2.symm) (hf bb H.fb n3.symm) (hf cb H.fc n4.symm)
theorem RdBX.toY {w w5 : World} {F : Nat → Prop} {r ab bb cb : Nat} {A : Option Addr} {n : Nat} {L : List Bs} (h : RdBX w (Lx F r ab bb cb) A n L) (hb : Below w.heap.size w w5) : RdBX w5 (Ly w F r ab bb cb) A n L :=
  h.keep (fun g _ hg => hb.block g hg) hb.size (fun g hg _ => .inr hg)
/-- append([][]byte{}, l...). -/
theorem list_app_vs {ops : Array Oper} {o : Oper} {a : Act} {w : World} {Q : Exit → Act → World → Prop} {rest : List Oper} (hgd : o.guard = none) (s x : Operand)
    (ho : o.op = .call { callee := .builtin .append, args := #[s, x], argTypes := #[22, 22] })
    (base : Nat) (v : Value) (hs : a.eval s = v) (hown : w.ownsRow base 31 1 v 0 []) (A : Option Addr) (n c : Nat) (vs : List Value) (hx : a.eval x = .slice A n c) (hl : vs.length = n)
    (hc : 0 < n → ∃ ad, A = some ad ∧ ∀ j u, vs[j]? = some u → w.cell? (ad.add j) = some u) (h1 : ∀ u ∈ vs, u.oneCell' = true) (hn : n ≤ 1000000) (hb : base ≤ w.heap.size)
    (h : ∀ v' w', w'.ownsRow base 31 1 v' n vs → w.grownBy w' v.ownBlock → wpList Try.prog ops Q rest (a.put o.dst v') w') : wpList Try.prog ops Q (o :: rest) a w := by
  refine wpList_plain hgd fun K hK => ?_
  have := step_app_vs (K := K) (Q := Q) (E := False) (ops := ops) (a := a) (w := w) hgd s x ho base v hs hown A n c vs hx hl hc h1 hn hb (fun v' w' h2 h3 => hK _ _ (h v' w' h2 h3))
  rwa [if_pos (by simp [Region.wanted, hgd])] at this
def RAppPost (w : World) (F : Nat → Prop) (r m ab bb cb : Nat) (p : TD) (xs : Bs) (e : Ending) (w' : World) : Prop := e = .returned (.int .i64 (errA p xs)) ∧ RTPost w F r m ab bb cb (appP p xs) w'

set_option maxRecDepth 100000 in
set_option maxHeartbeats 2000000 in
theorem rappend_any (r m ab bb cb : Nat) (F : Nat → Prop) (p : TD) (A : Option Addr) (n c : Nat) (xs : Bs) (w : World) (H : RTapeIs w F r m ab bb cb p) (hx : RdU8 w A n xs) (hb : okB xs) :
    Calls Try.prog 72 #[.pointer (some ⟨r, 0, none⟩), .slice A n c] w (RAppPost w F r m ab bb cb p xs) := by
  have hl := hx.len
  have hrd : rightB xs = (decide (0 < n) && decide (n ≤ 300)) := by unfold rightB; rw [hl]
  obtain ⟨Ac, cc, A', c', K, R, R'⟩ := H.blk
  have k3 := K.cell 3; have k4 := K.cell 4; have k5 := K.cell 5; have f3 := K.fr 3
  simp [RC] at k3 k4 k5
  have tl := K.lt
  have HH := Lib.hid H; have HK := Lib.hid K; have HR := Lib.hid R; have HR' := Lib.hid R'; have HX := Lib.hid hx; have HOB := Lib.hid hb; have HL := Lib.hid hl
  have hd3 := H.ok.dn3
  have hwl := sizeB_len p.W
  have hfw := H.ok.fitW
  have hab := allB_le H.small
  have hWl : p.W.length ≤ 32704 := by split at hfw <;> omega
  clear H K R R' hx hb hl hwl hfw hab
  cases hr : rightB xs with
  | false =>
    have hP : RAppPost w F r m ab bb cb p xs (.returned (.int .i64 1)) w := by
      unfold RAppPost appP
      have hE : errA p xs = 1 := by unfold errA; rw [if_pos hr]
      rw [hE]
      exact ⟨rfl, by rw [if_neg (by omega)]; exact RTPost.same HH.out (Below.refl _ _)⟩
    have HP := Lib.hid hP; clear hP
    rw [hr] at hrd
    have HRR := Lib.hid hrd; clear hrd hr
    go_enter Try.func72, Try.ntmps72
    go_wp2_with (go_at_call 89; refine (rright_any _ _ _ _).mono ?_; rintro e w1 ⟨rfl, hw1⟩; rw [hw1, ← HRR.out]; clear hw1 w1)
    go_ret
    exact HP.out
  | true =>
    rw [hr] at hrd
    obtain ⟨hn0, hn3⟩ : 0 < n ∧ n ≤ 300 := by simpa using hrd.symm
    have HRR := Lib.hid hrd; clear hrd
    by_cases hst : 0 < p.dn ∨ p.fr = true
    · have hP : RAppPost w F r m ab bb cb p xs (.returned (.int .i64 131)) w := by
        unfold RAppPost appP
        have hE : errA p xs = 131 := by unfold errA; rw [if_neg (by rw [hr]; simp), if_pos hst]
        rw [hE]
        exact ⟨rfl, by rw [if_neg (by omega)]; exact RTPost.same HH.out (Below.refl _ _)⟩
      have HP := Lib.hid hP; clear hP hr
      go_enter Try.func72, Try.ntmps72
      by_cases hdn : 0 < p.dn
      · have hd0 : decide (0 < p.dn) = true := decide_eq_true (by omega)
        clear hst
        go_wp2_with (go_at_call 89; refine (rright_any _ _ _ _).mono ?_; rintro e w1 ⟨rfl, hw1⟩; rw [hw1, ← HRR.out]; clear hw1 w1)
        go_ret
        exact HP.out
      · have hd0 : decide (0 < p.dn) = false := decide_eq_false (by omega)
        have hfr : p.fr = true := by rcases hst with h | h; exact absurd h hdn; exact h
        rw [hfr] at k4
        clear hst hdn
        go_wp2_with (go_at_call 89; refine (rright_any _ _ _ _).mono ?_; rintro e w1 ⟨rfl, hw1⟩; rw [hw1, ← HRR.out]; clear hw1 w1)
        go_ret
        exact HP.out
    · rw [not_or] at hst
      obtain ⟨hdn, hfr⟩ := hst
      have hfr : p.fr = false := by simpa using hfr
      have hd0 : decide (0 < p.dn) = false := decide_eq_false (by omega)
      by_cases hroom : roomP p < 2 + (xs.length : Int)
      · have hP : ∀ w1, Below w.heap.size w w1 → RAppPost w F r m ab bb cb p xs (.returned (.int .i64 61)) w1 := by
          intro w1 hb1
          have hE : errA p xs = 61 := by unfold errA; rw [if_neg (by rw [hr]; simp), if_neg (by rw [hfr]; simp; omega), if_pos hroom]
          unfold RAppPost appP
          rw [hE]
          exact ⟨rfl, by rw [if_neg (by omega)]; exact RTPost.same HH.out hb1⟩
        rw [HL.out] at hroom
        have hroom' : roomP p < (n : Int) + 2 := by omega
        have HP := Lib.hid hP; clear hP hr hroom
        rw [hfr] at k4
        go_enter Try.func72, Try.ntmps72
        go_wp2_with (first
          | (go_at_call 89; refine (rright_any _ _ _ _).mono ?_; rintro e w1 ⟨rfl, hw1⟩; rw [hw1, ← HRR.out]; clear hw1 w1)
          | (go_at_call 76; refine (rroom_any r m ab bb cb F p _ HH.out).mono ?_; rintro e w2 ⟨rfl, B2⟩; have HB2 := Lib.hid B2; clear B2))
        go_ret
        exact HP.out _ HB2.out
      · have hE : errA p xs = 0 := by unfold errA; rw [if_neg (by rw [hr]; simp), if_neg (by rw [hfr]; simp; omega), if_neg hroom]
        have hrl : (n : Int) + 2 ≤ roomP p := by rw [HL.out] at hroom; omega
        have HE := Lib.hid hE; have HFR := Lib.hid hfr; have HR0 := Lib.hid hr; have hdn0 := Lib.hid hdn; have HRL := Lib.hid hrl
        have hrl' : ¬ roomP p < (n : Int) + 2 := by omega
        clear hroom hE hr hdn
        rw [hfr] at k4
        clear hfr
        go_enter Try.func72, Try.ntmps72
        go_wp2_with (first
          | (go_at_call 89; refine (rright_any _ _ _ _).mono ?_; rintro e w1 ⟨rfl, hw1⟩; rw [hw1, ← HRR.out]; clear hw1 w1)
          | (go_at_call 76; refine (rroom_any r m ab bb cb F p _ HH.out).mono ?_; rintro e w2 ⟨rfl, B2⟩
             have HB2 := Lib.hid B2; have k32 := (B2.cell (p := ⟨r, 3, none⟩) tl).trans k3; have tl2 := Nat.lt_of_lt_of_le tl B2.size; have z2 := B2.size
             obtain ⟨vs, hvl, hv1, hvc, hvs⟩ := HR'.out.vals
             have HVL := Lib.hid hvl; have HV1 := Lib.hid hv1; have HVS := Lib.hid hvs
             have HVC := Lib.hid (show ∀ W, Below w2.heap.size w2 W → 0 < p.W.length → ∃ ad, A' = some ad ∧ ∀ j u, vs[j]? = some u → W.cell? (ad.add j) = some u from fun W hW h0 => by
               obtain ⟨b0, o0, e0, hl0, hc0⟩ := hvc h0
               exact ⟨_, e0, fun j u hj => by rw [add_none]; exact (((bthen HB2.out hW).cell (p := ⟨b0, o0 + j, none⟩) hl0).trans (hc0 j u hj))⟩)
             clear hvl hv1 hvc hvs B2)
          | (at_builtin; refine list_app_vs rfl _ _ rfl w2.heap.size _ rfl (own_empty (heap_alloc_new _ _) (Nat.le_refl _)) A' p.W.length c' vs rfl HVL.out (HVC.out _ (balloc (Below.refl _ _) _)) HV1.out (by omega) (by simp) ?_
             intro v3 w3 O3 G3; obtain ⟨a3, c3, rfl⟩ := row_form O3
             have B3 := Lib.hid ((balloc (Below.refl w2.heap.size w2) _).grown G3 (by simp) (fun j hj => by cases hj; exact Nat.le_refl _))
             have HO3 := Lib.hid O3; clear O3 G3)
          | (at_builtin; refine list_app8 rfl _ _ rfl w3.heap.size _ [] rfl (Own8.lit w3 [] w3.heap.size w3.heap.size 0 rfl rfl (Nat.le_refl _) (by omega)) A n c xs rfl (HX.out.below (bthen (bthen HB2.out B3.out) (balloc (Below.refl _ _) _))) (by simp; omega) (by simp) ?_
             intro v4 w4 O4 G4; rw [List.nil_append] at O4; obtain ⟨a4, c4, rfl⟩ := O4.form; rw [HL.out] at O4 ⊢
             have B4 := Lib.hid ((balloc (Below.refl w3.heap.size w3) _).grown G4 (by simp) (fun j hj => by cases hj; exact Nat.le_refl _))
             have HO4 := Lib.hid O4; clear O4 G4)
          | (at_builtin; refine list_app2 rfl _ _ 22 rfl w2.heap.size 31 (.slice none 0 0) 24 bbInfo Try.underlying22 rfl _ p.W.length vs rfl (ownsRow_below HO3.out (balloc B4.out _)) ⟨w4.heap.size, 0, none⟩ 1 1 [.slice a4 n c4] rfl rfl ?_ ?_ ?_ ?_ ?_ ?_ ?_
             (intro i u hu; match i, hu with | 0, hu => (simp at hu; subst hu; exact (Blk.newAt w4 #[.slice a4 n c4] 31 w4.heap.size rfl).cell 0))
             (intro u hu; simp at hu; subst hu; rfl)
             (omega)
             (unfold maxLen; omega)
             (omega)
             (have := B3.out.size; have := B4.out.size; simp; omega)
             intro v5 w5 O5 G5 N5
             obtain ⟨a5, c5, rfl⟩ := row_form O5
             have R45 := Lib.hid (((HO4.out.rd).below (balloc (Below.refl _ _) (.cells #[.slice a4 n c4] 31))).keep (fun b2 o2 e2 hl2 => G5.block b2 hl2 (fun e => by
               have h1 := (HO3.out.lt b2 e.symm).2
               have h2 := (HO4.out.lt b2 (by rw [e2]; rfl)).1
               omega)) G5.size)
             have B5 := Lib.hid ((balloc (bthen B3.out B4.out) (.cells #[.slice a4 n c4] 31)).grown G5 (by have := B3.out.size; have := B4.out.size; simp; omega) (fun j hj => (HO3.out.lt j hj).1))
             have K5 := Lib.hid (HK.out.below (bthen HB2.out B5.out)); have f5 := K5.out.fr 3; have k35 := K5.out.cell 3; simp [RC] at k35; have tl5 := K5.out.lt; have HO5 := Lib.hid O5; clear O5 G5 N5))
        go_ret
        unfold RAppPost appP
        rw [HE.out, if_pos rfl]
        refine ⟨rfl, ?_⟩
        have hok1 := HH.out.ok
        have hfw := hok1.fitW
        rw [if_neg (by rw [HFR.out]; simp)] at hfw
        have hnew : TD.Ok { p with W := p.W ++ [xs] } := by
          refine ⟨hok1.n3, hok1.h1, hok1.dn3, hok1.rl, fun x hx => ?_, hok1.fitL, ?_, fun h => absurd h hdn0.out⟩
          · rcases List.mem_append.1 hx with hx | hx
            · exact hok1.rw x hx
            · rw [List.mem_singleton.1 hx]; exact ⟨HR0.out, HOB.out⟩
          · show (if p.fr = true then 0 else sizeB p.L) + sizeB (p.W ++ [xs]) ≤ allB p.n
            rw [if_neg (by rw [HFR.out]; simp), sizeB_append, sizeB_one, HL.out]
            have := HRL.out
            unfold roomP at this
            rw [if_neg (by rw [HFR.out]; simp)] at this
            omega
        have hz0 : w.heap.size ≤ w2.heap.size := HB2.out.size
        have hz3 : w2.heap.size ≤ w3.heap.size := B3.out.size
        have hSN : RdBX w5 (Ly w F r ab bb cb) a5 (p.W.length + 1) (p.W ++ [xs]) := by
          have hO := HO5.out
          have hx4 := R45.out
          rw [← HL.out] at hO hx4
          refine RdBX.snoc (n := 0) (w := w5) HVL.out (Below.refl _ _) (fun i hi => ?_) hx4 (fun q hq h0 => ?_) hO (fun g hg => .inl (by omega))
          · obtain ⟨A2, c2, e1, e2, e3⟩ := HVS.out i hi
            exact ⟨A2, c2, e1, e2.below (bthen HB2.out B5.out), fun q hq h0 => .inr (e3 q hq h0)⟩
          · rcases HO4.out.2 with ⟨e, _⟩ | ⟨g, cap, cur, e, e2, _⟩
            · injection e with e1 e3; rw [HL.out] at h0; omega
            · injection e with e1
              rw [e1] at hq
              cases hq
              exact .inl (by show w.heap.size ≤ g; omega)
        refine rtape_set (q := { p with W := p.W ++ [xs] }) (c := cc) (c' := c5) HH.out (bthen HB2.out B5.out) ((Kept.refl w5 (fun k => k = r)).set (p := ⟨r, 3, none⟩) rfl _) (by simp [World.setCell]) ?_ (HR.out.toY (bthen HB2.out B5.out)) (by simpa using hSN) rfl rfl rfl hnew
        have := K5.out.set 3 (.slice a5 (p.W.length + 1) c5)
        simpa [RC] using this
end Go.Proofs.Ytlgimhhhlpmjcaa
namespace Go.Proofs.Ytlgimhhhlpmjcaa
open Go.RowKit Go.Maps Go.WideMaps Go.Shelf

def RRplPost (w : World) (F : Nat → Prop) (r m ab bb cb : Nat) (p : TD) (M : List Bs) (e : Ending) (w' : World) : Prop := e = .returned (.int .i64 (errR p M)) ∧ RTPost w F r m ab bb cb (repP p M) w'

/-- The document's tape, its own fields written, and new blocks. -/
theorem rtape_set2 {w w6 : World} {F : Nat → Prop} {r m ab bb cb : Nat} {p q : TD} {A A' : Option Addr} {c c' : Nat} (H : RTapeIs w F r m ab bb cb p) (K : Kept w w6 (fun k => k = r))
    (b6 : Blk w6 r (RC m q.h (.slice A q.L.length c) (.slice A' q.W.length c') q.fr q.dn) 111) (R6 : RdBX w6 (Ly w F r ab bb cb) A q.L.length q.L) (R6' : RdBX w6 (Ly w F r ab bb cb) A' q.W.length q.W)
    (hn : q.n = p.n) (hs : q.sf = p.sf) (hd : q.df = p.df) (hok : q.Ok) : RTPost w F r m ab bb cb q w6 := by
  obtain ⟨n1, n2, n3, n4⟩ := H.ns
  have hX : ∀ g, Ly w F r ab bb cb g → g < w6.heap.size → Lx (fun k => F k ∨ (w.heap.size ≤ k ∧ k < w6.heap.size)) r ab bb cb g := fun g hg hlt => by
    rcases hg with hg | hg
    · have h1 := H.lt r H.fr'; have h2 := H.lt ab H.fa; have h3 := H.lt bb H.fb; have h4 := H.lt cb H.fc
      exact ⟨.inr ⟨hg, by omega⟩, by omega, by omega, by omega, by omega⟩
    · exact ⟨.inl hg.1, hg.2⟩
  refine ⟨K.mono (fun k _ h => by rw [h]; exact H.fr'), fun k => F k ∨ (w.heap.size ≤ k ∧ k < w6.heap.size), ⟨fun k hk => ?_, ⟨A, c, A', c', b6, R6.keep (fun g _ _ => rfl) (Nat.le_refl _) hX, R6'.keep (fun g _ _ => rfl) (Nat.le_refl _) hX⟩, ?_, .inl H.fr', .inl H.fm, .inl H.fa, .inl H.fb, .inl H.fc, hok⟩, fun k hk => hk.imp id fun h => h.1⟩
  · rcases hk with hk | hk
    · have := H.lt k hk; have := K.size; omega
    · exact hk.2
  · rw [hn, hs, hd]
    have hf : ∀ g, F g → g ≠ r → w6.heap[g]? = w.heap[g]? := fun g hg hgr => K.block g (H.lt g hg) hgr
    exact H.ref.keep (hf m H.fm n1.symm) (hf ab H.fa n2.symm) (hf bb H.fb n3.symm) (hf cb H.fc n4.symm)
theorem RdBX.toK {w w6 : World} {F : Nat → Prop} {r ab bb cb : Nat} {A : Option Addr} {n : Nat} {L : List Bs} (h : RdBX w (Lx F r ab bb cb) A n L) (hk : Kept w w6 (fun k => k = r)) : RdBX w6 (Ly w F r ab bb cb) A n L :=
  h.keep (fun g hg hlt => hk.block g hlt hg.2.1) hk.size (fun g hg _ => .inr hg)
theorem rpl_row {w wr w4 w5 : World} {r k q c4 c5 vc : Nat} {va a4 a5 : Option Addr} {L : List Bs} {x : Bs} {vs : List Value} {cs : Array Value} (hk : L.length = k) (hR : RowR wr (NewF w wr) (.slice va k vc) L)
    (hV : ∀ i (hi : i < L.length), ∃ u, vs[i]? = some u ∧ RecIs wr (NewF w wr) u L[i]) (hvl : vs.length = L.length) (B4 : Below wr.heap.size wr w4) (O4 : Own8 w4 wr.heap.size (.slice a4 q c4) x) (hq : q = x.length) (h0 : 0 < q)
    (O5 : w5.ownsRow 0 31 1 (.slice a5 (k + 1) c5) (k + 1) (vs ++ [.slice a4 q c4])) (G5 : (w4.alloc (.cells #[.slice a4 q c4] 31)).grownBy w5 (Value.slice va k vc).ownBlock) (N5 : NewOr (w4.alloc (.cells #[.slice a4 q c4] 31)) (.slice va k vc) (.slice a5 (k + 1) c5))
    (hw : w.heap.size ≤ wr.heap.size) (K5 : Blk w5 r cs 111) (u : Value) : RowR (w5.setCell ⟨r, 3, none⟩ u) (NewF w (w5.setCell ⟨r, 3, none⟩ u)) (.slice a5 (k + 1) c5) (L ++ [x]) := by
  subst hk
  subst hq
  have z4 := B4.size
  have zg := G5.size
  have zs : (w5.setCell ⟨r, 3, none⟩ u).heap.size = w5.heap.size := by simp [World.setCell]
  have z6 : w4.heap.size + 1 ≤ w5.heap.size := by simpa using zg
  have B6 : Below wr.heap.size wr (w4.alloc (.cells #[.slice a4 x.length c4] 31)) := balloc B4 _
  have hU : RecIs (w4.alloc (.cells #[.slice a4 x.length c4] 31)) (NewF w (w4.alloc (.cells #[.slice a4 x.length c4] 31))) (.slice a4 x.length c4) x :=
    ((RecIs.of O4 h0 (fun g h1 h2 => ⟨by omega, by simp; omega⟩) : RecIs w4 (NewF w (w4.alloc (.cells #[.slice a4 x.length c4] 31))) _ _)).keep (fun g cs fr hg hb => Below.heap_alloc _ _ _ (Array.getElem?_eq_some_iff.1 hb).1)
  have hR6 : RowR (w4.alloc (.cells #[.slice a4 x.length c4] 31)) (NewF w (w4.alloc (.cells #[.slice a4 x.length c4] 31))) (.slice va L.length vc) L := (hR.below' B6).mono (fun g hg => ⟨hg.1, by have := hg.2; simp; omega⟩)
  have S5 : RowR w5 (NewF w w5) (.slice a5 (L.length + 1) c5) (L ++ [x]) := hR6.snoc (F' := NewF w w5)
    (fun i hi => by
      obtain ⟨y, e, hr⟩ := hV i hi
      exact ⟨y, e, (hr.keep fun g cs fr _ hb => B6.block g (Array.getElem?_eq_some_iff.1 hb).1).mono fun g hg => ⟨hg.1, by have := hg.2; simp; omega⟩⟩)
    hvl hU O5 G5 N5 (fun g hg => ⟨hg.1, Nat.lt_of_lt_of_le hg.2 zg⟩) (fun g h1 h2 => ⟨by simp at h1; omega, h2⟩) (fun g hg => hg.2)
  refine (S5.keep (fun g hg => Below.heap_setCell _ _ _ _ (fun e => ?_)) (fun g cs fr _ hb => Below.heap_setCell _ _ _ _ (fun e => ?_))).mono (fun g hg => ⟨hg.1, by rw [zs]; exact hg.2⟩)
  · exact S5.ne_blk hg K5 (by decide) e
  · have e' : g = r := e
    subst e'
    rw [show w5.heap[g]? = _ from K5] at hb; simp at hb
theorem rpl_kept {w wr w4 w5 : World} {r : Nat} {v : Value} {o : Obj} (hK : Kept w wr (fun k => k = r)) (B4 : Below wr.heap.size wr w4) (G5 : (w4.alloc o).grownBy w5 v.ownBlock) (hf : ∀ g, v.ownBlock = some g → w.heap.size ≤ g) (u : Value) :
    Kept w (w5.setCell ⟨r, 3, none⟩ u) (fun k => k = r) := by
  have h1 : Kept w (w4.alloc o) (fun k => k = r) := (hK.then B4).alloc o
  have h2 : Kept w w5 (fun k => k = r) := ⟨G5.os.trans h1.os, G5.tape.trans h1.tape, G5.output.trans h1.output, Nat.le_trans h1.size G5.size, fun k hk hn => (G5.block k (Nat.lt_of_lt_of_le hk h1.size) (fun e => by have := hf k e.symm; omega)).trans (h1.block k hk hn)⟩
  exact h2.set (p := ⟨r, 3, none⟩) rfl u
set_option maxRecDepth 100000 in
set_option maxHeartbeats 4000000 in
theorem rreplace_any (r m ab bb cb : Nat) (F : Nat → Prop) (p : TD) (A : Option Addr) (n c : Nat) (M : List Bs) (w0 w : World) (H : RTapeIs w F r m ab bb cb p) (hM : RdBB w0 A n M) (oM : ∀ x ∈ M, okB x) (hs : sizeB M ≤ 500000)
    (hB0 : Below w0.heap.size w0 w) (hF : ∀ k, F k → w0.heap.size ≤ k) :
    Calls Try.prog 73 #[.pointer (some ⟨r, 0, none⟩), .slice A n c] w (RRplPost w F r m ab bb cb p M) := by
  have hl := hM.len
  obtain ⟨Ac, cc, A', c', K, R, R'⟩ := H.blk
  have k5 := K.cell 5
  simp [RC] at k5
  have tl := K.lt
  have hn3 := H.ok.n3
  have hsn : secs p.n ≤ 511 := secs_le _ H.small
  have hsl := sizeB_len M
  have hn5 : n ≤ 500000 := by omega
  have HH := Lib.hid H; have HK := Lib.hid K; have HR := Lib.hid R; have HM := Lib.hid hM; have HO := Lib.hid oM; have HB0 := Lib.hid hB0; have HF := Lib.hid hF; have HS := Lib.hid hs; have HL := Lib.hid hl
  have HAB := Lib.hid (show ((allB p.n : Nat) : Int) = 64 * (secs p.n : Nat) by unfold allB; omega)
  have HFL := Lib.hid (framesB_len M)
  clear K H hM oM hB0 hF hs hl hsl R R'
  go_enter Try.func73, Try.ntmps73
  go_upto_block 0 with fail
  go_cut [5, 6] from 8 to 20 (fun _ _ wc => wc = w ∧ Hid (M.all rightB = true))
  case first =>
    go_wp2_with fail
    go_loopw [5] (fun i wr => ∃ k : Nat, k ≤ n ∧ i = .int .i64 k ∧ wr = w ∧ Hid ((M.take k).all rightB = true)) (fun i _ => n - (intOf i).toNat)
    case atStart => exact ⟨0, Nat.zero_le _, rfl, rfl, Lib.hid rfl⟩
    case round =>
      obtain ⟨k, hk, rfl, hwr, hA⟩ := hrel
      rw [hwr]
      clear hwr wr
      by_cases hlt : k < n
      · obtain ⟨b, off, rfl, hb, hc⟩ := (HM.out.below HB0.out).at' (by omega)
        have hkM : k < M.length := by rw [HL.out]; exact hlt
        obtain ⟨A2, c2, hck, hrd⟩ := hc k hkM
        have hr : rightB M[k] = (decide (0 < M[k].length) && decide (M[k].length ≤ 300)) := rfl
        have HRR := Lib.hid hr; clear hr hc hb hrd
        have HA' := Lib.hid (all_take_succ M k hkM)
        have HFF := Lib.hid (fun hr : rightB M[k] = false => all_false_of hkM hr)
        generalize M[k].length = q at *
        generalize rightB M[k] = x at *
        clear hkM
        have hltI : (k : Int) < n := by omega
        cases x with
        | true =>
          go_wp2_with (go_at_call 89; refine (rright_any _ _ _ _).mono ?_; rintro e w1 ⟨rfl, hw1⟩; rw [hw1, ← HRR.out]; clear hw1 w1)
          go_roundw
          case rel => exact ⟨k + 1, by omega, by go_num, by first | done | rfl | trivial, Lib.hid (by rw [HA'.out, hA.out]; rfl)⟩
          case measure => simp [intOf]; omega
        | false =>
          have hP : RRplPost w F r m ab bb cb p M (.returned (.int .i64 1)) w := by
            unfold RRplPost repP
            rw [show errR p M = 1 by unfold errR; rw [if_pos (by first | exact HFF.out rfl | exact HFF.out trivial)]]
            exact ⟨rfl, by rw [if_neg (by omega)]; exact RTPost.same HH.out (Below.refl _ _)⟩
          have HP := Lib.hid hP; clear hP
          go_wp2_with (go_at_call 89; refine (rright_any _ _ _ _).mono ?_; rintro e w1 ⟨rfl, hw1⟩; rw [hw1, ← HRR.out]; clear hw1 w1)
          go_ret
          exact HP.out
      · have : k = n := by omega
        subst this
        have hA2 := Lib.hid (show M.all rightB = true by have := hA.out; rwa [List.take_of_length_le (by rw [HL.out]; exact Nat.le_refl _)] at this)
        clear hA
        go_wp2
        go_meet
        case rel => exact ⟨by first | done | rfl | trivial, hA2⟩
  case rest =>
    obtain ⟨hwc, hR⟩ := hcut
    rw [hwc]
    clear hwc wc
    by_cases hdn : 0 < p.dn
    · have hP : RRplPost w F r m ab bb cb p M (.returned (.int .i64 131)) w := by
        unfold RRplPost repP
        rw [show errR p M = 131 by unfold errR; rw [if_neg (by rw [hR.out]; simp), if_pos hdn]]
        exact ⟨rfl, by rw [if_neg (by omega)]; exact RTPost.same HH.out (Below.refl _ _)⟩
      have HP := Lib.hid hP; clear hP
      have hdi : (0 : Int) < p.dn := by omega
      go_wp2
      go_ret
      exact HP.out
    · have hdn0 : p.dn = 0 := by omega
      rw [hdn0] at k5
      have HDN := Lib.hid hdn0
      have HDF : Hid (¬ 0 < p.dn) := Lib.hid hdn
      clear hdn hdn0
      go_wp2_with fail
      refine (rframes_any A n c M w (HM.out.below HB0.out) (by have := HS.out; omega)).mono ?_
      rintro e w2 ⟨v2, rfl, O2, B2⟩
      obtain ⟨a2, c2, rfl⟩ := O2.form
      rw [HFL.out]
      have HB2 := Lib.hid B2
      clear O2 B2
      by_cases hsz : allB p.n < sizeB M
      · have hP : ∀ w1, Below w.heap.size w w1 → RRplPost w F r m ab bb cb p M (.returned (.int .i64 61)) w1 := by
          intro w1 hb1
          unfold RRplPost repP
          rw [show errR p M = 61 by unfold errR; rw [if_neg (by rw [hR.out]; simp), if_neg HDF.out, if_pos hsz]]
          exact ⟨rfl, by rw [if_neg (by omega)]; exact RTPost.same HH.out hb1⟩
        have HP := Lib.hid hP; clear hP
        have hcmp : 64 * ((secs p.n : Nat) : Int) < (sizeB M : Nat) := by have := HAB.out; omega
        have hss := HS.out
        go_wp2_with (go_at_call 69; refine (rsectors_any r m ab bb cb F p _ (HH.out.below HB2.out)).mono ?_; rintro e w3 ⟨rfl, hw3⟩; rw [hw3]; clear hw3 w3)
        go_ret
        exact HP.out _ HB2.out
      · have hE := Lib.hid (show errR p M = 0 by unfold errR; rw [if_neg (by rw [hR.out]; simp), if_neg HDF.out, if_neg hsz])
        have HSZ := Lib.hid hsz
        have hcmp : ¬ 64 * ((secs p.n : Nat) : Int) < (sizeB M : Nat) := by have := HAB.out; omega
        have hss := HS.out
        have K2 := Lib.hid (HK.out.below HB2.out)
        have f4 := K2.out.fr 4; have f3 := K2.out.fr 3; have c4 := K2.out.cell 4; have c3 := K2.out.cell 3
        simp [RC] at c4 c3
        have tl2 := K2.out.lt
        clear hsz k5
        go_wp2_with (go_at_call 69; refine (rsectors_any r m ab bb cb F p _ (HH.out.below HB2.out)).mono ?_; rintro e w3 ⟨rfl, hw3⟩; rw [hw3]; clear hw3 w3)
        have KW := Lib.hid ((((Kept.of_below HB2.out (fun k => k = r)).set (p := ⟨r, 4, none⟩) rfl (.bool true))).set (p := ⟨r, 3, none⟩) rfl (.slice none 0 0))
        have KB : Hid (Blk ((w2.setCell ⟨r, 4, none⟩ (.bool true)).setCell ⟨r, 3, none⟩ (.slice none 0 0)) r (RC m p.h (.slice Ac p.L.length cc) (.slice none 0 0) true p.dn) 111) := Lib.hid (by
          have := (K2.out.set 4 (.bool true)).set 3 (.slice none 0 0)
          simpa [RC] using this)
        have hzz : ((w2.setCell ⟨r, 4, none⟩ (.bool true)).setCell ⟨r, 3, none⟩ (.slice none 0 0)).heap.size = w2.heap.size := by simp [World.setCell]
        have HZZ := Lib.hid hzz; clear hzz
        generalize (w2.setCell ⟨r, 4, none⟩ (.bool true)).setCell ⟨r, 3, none⟩ (.slice none 0 0) = w3 at *
        clear f4 f3 c4 c3 hcmp hss tl2
        go_loopw [7] (fun i wr => ∃ (k : Nat) (v : Value), k ≤ n ∧ i = .int .i64 k ∧ Hid (Blk wr r (RC m p.h (.slice Ac p.L.length cc) v true p.dn) 111) ∧ Hid (RowR wr (NewF w wr) v (M.take k)) ∧ Hid (Kept w wr (fun k => k = r))) (fun i _ => n - (intOf i).toNat)
        case atStart => exact ⟨0, _, Nat.zero_le _, rfl, KB, Lib.hid (RowR.nil _ _), KW⟩
        case round =>
          obtain ⟨k, v, hk, rfl, hKb, hRow, hKw⟩ := hrel
          clear KB KW
          have HB3 := Lib.hid (show Below w.heap.size w wr ∨ True from .inr trivial)
          have zr := hKw.out.size
          obtain ⟨va, vc, rfl⟩ := hRow.out.form
          have htk : (M.take k).length = k := by rw [List.length_take, Nat.min_eq_left (by rw [HL.out]; exact hk)]
          rw [htk] at hKb hRow
          by_cases hlt : k < n
          · obtain ⟨b, off, rfl, hb, hc⟩ := HM.out.at' (by omega)
            have hkM : k < M.length := by rw [HL.out]; exact hlt
            obtain ⟨A2, cc2, hck, hrd⟩ := hc k hkM
            have hr1 := List.all_eq_true.1 hR.out _ (List.getElem_mem hkM)
            have HTK := Lib.hid (List.take_succ_eq_append_getElem hkM)
            generalize M[k] = x at *
            obtain ⟨q, hq⟩ : ∃ q, q = x.length := ⟨_, rfl⟩
            rw [← hq] at hck hrd
            have hq3 : 0 < q ∧ q ≤ 300 := by rw [hq]; simpa [rightB] using hr1
            obtain ⟨hq0, hq30⟩ := hq3
            have HQ := Lib.hid hq
            have HBr := Lib.hid (HB0.out.trans (hKw.out.below (B := w0.heap.size) HB0.out.size (fun g h => by rw [h]; exact HF.out r HH.out.fr')))
            have q1 := (HBr.out.cell (p := ⟨b, off + k, none⟩) hb).trans hck
            have HRd := Lib.hid (hrd.below HBr.out)
            have HBL := Lib.hid (Nat.lt_of_lt_of_le hb HBr.out.size)
            have k3 := hKb.out.cell 3; have f3 := hKb.out.fr 3
            simp [RC] at k3
            have tlr := hKb.out.lt
            have hltI : (k : Int) < n := by omega
            obtain ⟨⟨vs, Ow, Vw⟩, Fw⟩ := hRow.out
            rw [htk] at Ow
            have hvl : vs.length = (M.take k).length := by have := Ow.1; omega
            have HOW := Lib.hid Ow; have HVW := Lib.hid Vw; have HVL := Lib.hid hvl
            clear hq hr1 hck hrd hb hc hkM Ow Vw Fw hvl
            have X1 := Lib.hid (bdrew (balloc (Below.refl wr.heap.size wr) (.cells #[] 5)))
            have q1a := ((balloc (Below.refl wr.heap.size wr) (.cells #[] 5)).cell (p := ⟨b, off + k, none⟩) HBL.out).trans q1
            have k3a := ((balloc (Below.refl wr.heap.size wr) (.cells #[] 5)).cell (p := ⟨r, 3, none⟩) tlr).trans k3
            go_wp2_with fail
            go_region_law (first
              | (refine step_app8 rfl _ _ rfl wr.heap.size _ [] rfl ?_ A2 q cc2 x rfl ?_ ?_ ?_ ?_
                 (exact own8_below (Own8.lit wr [] wr.heap.size wr.heap.size 0 rfl rfl (Nat.le_refl _) (by omega)) (bdrew (Below.refl _ _)))
                 (exact HRd.out.below X1.out)
                 (simp; omega)
                 (exact X1.out.size)
                 intro v4 w4 O4 G4
                 rw [List.nil_append] at O4
                 obtain ⟨a4, c4, rfl⟩ := O4.form
                 rw [← HQ.out] at O4 ⊢
                 have B4 : Below wr.heap.size wr w4 := X1.out.grown G4 X1.out.size (fun j hj => by cases hj; exact Nat.le_refl _)
                 have r3 := (B4.cell (p := ⟨r, 3, none⟩) tlr).trans k3
                 have r1 := (B4.cell (p := ⟨b, off + k, none⟩) HBL.out).trans q1
                 have z4 := B4.size
                 have r3a := ((balloc (Below.refl w4.heap.size w4) (.cells #[.slice a4 q c4] 31)).cell (p := ⟨r, 3, none⟩) (Nat.lt_of_lt_of_le tlr z4)).trans r3
                 have HO4 := Lib.hid O4; have HB4 := Lib.hid B4; clear O4 B4 G4)
              | (refine step_app2 rfl _ _ 22 rfl 0 31 (.slice none 0 0) 24 bbInfo Try.underlying22 rfl (.slice va k vc) k vs rfl ?_ ⟨w4.heap.size, 0, none⟩ 1 1 [.slice a4 q c4] rfl rfl ?_ ?_ ?_ ?_ ?_ ?_ ?_
                 (exact ownsRow_below HOW.out (balloc HB4.out _))
                 (intro i u hu; match i, hu with | 0, hu => (simp at hu; subst hu; exact (Blk.newAt w4 #[.slice a4 q c4] 31 w4.heap.size rfl).cell 0))
                 (intro u hu; simp at hu; subst hu; rfl)
                 (omega)
                 (unfold maxLen; omega)
                 (omega)
                 (omega)
                 intro v5 w5 O5 G5 N5
                 obtain ⟨a5, c5, rfl⟩ := row_form O5
                 have K5 := Lib.hid ((hKb.out.below (balloc HB4.out (.cells #[.slice a4 q c4] 31))).grown G5 (fun e => (hRow.out.below' (balloc HB4.out (.cells #[.slice a4 q c4] 31))).ne_blk e.symm (hKb.out.below (balloc HB4.out _)) (by decide) rfl))
                 have k35 := K5.out.cell 3; have f35 := K5.out.fr 3; simp [RC] at k35; have tl5 := K5.out.lt
                 have HO5 := Lib.hid O5; have HG5 := Lib.hid G5; have HN5 := Lib.hid N5; clear O5 G5 N5))
            all_goals
              have HRN := Lib.hid (rpl_row htk hRow.out HVW.out HVL.out HB4.out HO4.out HQ.out hq0 HO5.out HG5.out HN5.out zr K5.out (.slice a5 (k + 1) c5))
              have HKN := Lib.hid (show Blk (w5.setCell ⟨r, 3, none⟩ (.slice a5 (k + 1) c5)) r (RC m p.h (.slice Ac p.L.length cc) (.slice a5 (k + 1) c5) true p.dn) 111 by
                have := K5.out.set 3 (.slice a5 (k + 1) c5)
                simpa [RC] using this)
              have HKK := Lib.hid (rpl_kept hKw.out HB4.out HG5.out (fun g hg => (hRow.out.foot g hg).1) (.slice a5 (k + 1) c5) : Kept w (w5.setCell ⟨r, 3, none⟩ (.slice a5 (k + 1) c5)) (fun k => k = r))
              clear HO4 HB4 HO5 HG5 HN5 K5 r3 r3a r1 q1a k3a
              go_wp2
              go_roundw
              case rel => exact ⟨k + 1, .slice a5 (k + 1) c5, by omega, by go_num, HKN, Lib.hid (by rw [HTK.out]; exact HRN.out), HKK⟩
              case measure => simp [intOf]; omega
          · have : k = n := by omega
            subst this
            have hRM : RowR wr (NewF w wr) (.slice va M.length vc) M := by
              have h1 := hRow.out
              rw [List.take_of_length_le (by rw [HL.out]; exact Nat.le_refl _)] at h1
              rw [HL.out]
              exact h1
            have HRM := Lib.hid hRM
            have HKB := Lib.hid (show Blk wr r (RC m p.h (.slice Ac p.L.length cc) (.slice va M.length vc) true p.dn) 111 by rw [HL.out]; exact hKb.out)
            clear hRM hRow hKb
            go_wp2
            go_ret
            unfold RRplPost repP
            rw [hE.out, if_pos rfl]
            refine ⟨rfl, ?_⟩
            have hok1 := HH.out.ok
            have hnew : TD.Ok { p with W := M, fr := true } := by
              refine ⟨hok1.n3, hok1.h1, hok1.dn3, hok1.rl, fun x hx => ⟨List.all_eq_true.1 hR.out x hx, HO.out x hx⟩, hok1.fitL, ?_, fun _ => .inl rfl⟩
              show (if true = true then 0 else sizeB p.L) + sizeB M ≤ allB p.n
              have := HSZ.out
              rw [if_pos rfl]; omega
            exact rtape_set2 (q := { p with W := M, fr := true }) (c := cc) (c' := vc) HH.out hKw.out HKB.out (HR.out.toK hKw.out) (RdBX.row HRM.out (fun g hg => .inl hg.1)) rfl rfl rfl hnew
end Go.Proofs.Ytlgimhhhlpmjcaa
namespace Go.Proofs.Ytlgimhhhlpmjcaa
open Go.RowKit Go.Maps Go.WideMaps Go.Shelf

set_option maxRecDepth 100000 in
theorem of_any (A : Option Addr) (c : Nat) (a0 a1 a2 a3 : Int) (w : World) (h : RdU8 w A 4 [a0, a1, a2, a3]) (ho : okB [a0, a1, a2, a3]) :
    Calls Try.prog 67 #[.slice A 4 c] w fun e w' => e = .returned (.int .i64 (numB [a0, a1, a2, a3])) ∧ Below w.heap.size w w' := by
  obtain ⟨b, off, rfl, hb, hc⟩ := h.at' (by omega)
  have q0 := hc 0 (by simp); have q1 := hc 1 (by simp); have q2 := hc 2 (by simp); have q3 := hc 3 (by simp)
  simp only [List.getElem_cons_zero, List.getElem_cons_succ, Nat.add_zero] at q0 q1 q2 q3
  have o0 := ho a0 (by simp); have o1 := ho a1 (by simp); have o2 := ho a2 (by simp); have o3 := ho a3 (by simp)
  obtain ⟨o00, o01⟩ := o0; obtain ⟨o10, o11⟩ := o1; obtain ⟨o20, o21⟩ := o2; obtain ⟨o30, o31⟩ := o3
  have HN := Lib.hid (show numB [a0, a1, a2, a3] = ((a0 * 256 + a1) * 256 + a2) * 256 + a3 by simp only [numB, List.foldl]; omega)
  clear h hc ho
  go_enter Try.func67, Try.ntmps67
  go_wp2_with fail
  go_quiet (fail)
  rename_i nq
  go_wp2
  go_ret
  exact ⟨ret_int (by rw [HN.out]; first | done | rfl | omega), below_drewN (Below.refl _ _) _⟩

def RParsePost (w : World) (R : Option (List Bs)) (nn : Int) (e : Ending) (w' : World) : Prop :=
  Below w.heap.size w w' ∧ match R with
    | none => e = .returned (.tuple #[.slice none 0 0, .bool false])
    | some L => ∃ v, e = .returned (.tuple #[v, .bool (decide ((L.length : Int) = nn))]) ∧ RowR w' (NewF w w') v L
set_option maxRecDepth 100000 in
set_option maxHeartbeats 4000000 in
theorem parse_any (A : Option Addr) (n c : Nat) (nn : Int) (xs : Bs) (w : World) (h : RdU8 w A n xs) (hb : okB xs) (hn : n ≤ 100000) (hc : n ≤ c) (hcm : c ≤ maxLen) :
    Calls Try.prog 70 #[.slice A n c, .int .i64 nn] w (RParsePost w (splitB n xs) nn) := by
  have hl := h.len
  subst hl
  unfold maxLen at hcm
  generalize hS : splitB xs.length xs = R
  have HS := Lib.hid hS; clear hS
  go_enter Try.func70, Try.ntmps70
  go_wp2
  go_loopw [0, 6] (fun b o wr => ∃ (r : Bs) (A' : Option Addr) (c' f : Nat) (L : List Bs), b = .slice A' r.length c' ∧ r.length ≤ c' ∧ c' ≤ c ∧ r.length ≤ f ∧ sizeB L + r.length ≤ xs.length ∧ Hid (RdU8 w A' r.length r) ∧ Hid (okB r) ∧ Hid (R = (splitB f r).map (L ++ ·)) ∧ Hid (RowR wr (NewF w wr) o L) ∧ Hid (Below w.heap.size w wr)) (fun b _ _ => lenV b)
  case atStart => exact ⟨xs, A, c, xs.length, [], rfl, hc, Nat.le_refl _, Nat.le_refl _, by simp [sizeB], Lib.hid h, Lib.hid hb, Lib.hid (by rw [← HS.out]; simp), Lib.hid (RowR.nil _ _), Lib.hid (Below.refl _ _)⟩
  case round =>
    obtain ⟨r, A', c', f, L, rfl, hrc, hcc, hrf, hsz, hR, hok, hSp, hO, hB⟩ := hrel
    obtain ⟨va, vc, rfl⟩ := hO.out.form
    have hLs := sizeB_len L
    by_cases h0 : r.length = 0
    · have hr : r = [] := List.eq_nil_of_length_eq_zero h0
      subst hr
      have hRL : Hid (R = some L) := Lib.hid (by rw [hSp.out]; cases f <;> simp [splitB])
      clear hSp
      go_wp2
      go_ret2
      unfold RParsePost
      rw [hRL.out]
      exact ⟨hB.out, _, rfl, hO.out⟩
    · by_cases h3 : r.length < 3
      · have hRL : Hid (R = none) := Lib.hid (by
          rw [hSp.out]
          by_cases h2 : r.length < 2
          · rw [splitB_short (by omega) h2 hrf]; rfl
          · have hnn := numB_nonneg (okB_take hok.out 2)
            obtain ⟨m, hm⟩ : ∃ m : Nat, numB (r.take 2) = m := ⟨(numB (r.take 2)).toNat, by omega⟩
            rw [splitB_bad (m := m) (by omega) hrf hm]
            · rfl
            · by_cases hm0 : m = 0
              · right; subst hm0; simp [rightB]
              · left; omega)
        clear hSp
        have h3i : (r.length : Int) < 3 := by omega
        have h0i : (0 : Int) < r.length := by omega
        go_wp2
        go_ret2
        unfold RParsePost
        rw [hRL.out]
        exact ⟨hB.out, rfl⟩
      · obtain ⟨b, off, rfl, hblt, hcells⟩ := (hR.out.below hB.out).at' (by omega)
        have q0 := hcells 0 (by omega); have q1 := hcells 1 (by omega)
        rw [Nat.add_zero] at q0
        have o0 := hok.out r[0] (List.getElem_mem _); have o1 := hok.out r[1] (List.getElem_mem _)
        have hnum : numB (r.take 2) = r[0] * 256 + r[1] := by
          rw [numB_take_succ r 1 (by omega), numB_take_succ r 0 (by omega)]; simp [numB]
        generalize r[0] = x0 at *
        generalize r[1] = x1 at *
        obtain ⟨o00, o01⟩ := o0; obtain ⟨o10, o11⟩ := o1
        obtain ⟨m, hm⟩ : ∃ m : Nat, x0 * 256 + x1 = m := ⟨(x0 * 256 + x1).toNat, by omega⟩
        have HM := Lib.hid hm
        have HNM := Lib.hid (hnum.trans hm)
        have hm2 : m < 65536 := by omega
        have hRr := Lib.hid (hR.out.below hB.out)
        have h0i : (0 : Int) < r.length := by omega
        have h3i : ¬ (r.length : Int) < 3 := by omega
        have h1i : (1 : Int) < r.length := by omega
        clear hcells hblt hnum hm
        go_wp2_with fail
        go_quiet (fail)
        rename_i nq
        rw [HM.out]
        have BQ := Lib.hid (below_drewN hB.out nq)
        have OQ := Lib.hid (show RowR (wr.drewN nq) (NewF w (wr.drewN nq)) (.slice va L.length vc) L from hO.out.keep (fun g _ => rfl) (fun g _ _ _ _ => rfl))
        by_cases hbad : m < 1 ∨ 300 < m ∨ (r.length : Int) - 2 < m
        · have hRL : Hid (R = none) := Lib.hid (by
            rw [hSp.out, splitB_bad (by omega) hrf HNM.out]
            · rfl
            · by_cases hbig : (r.length : Int) - 2 < m
              · exact .inl hbig
              · right
                have hlen2 : ((r.drop 2).take m).length = m := by simp; omega
                simp [rightB, hlen2]; omega)
          clear hSp
          by_cases hb1 : (m : Int) < 1
          · go_wp2
            go_ret2
            unfold RParsePost
            rw [hRL.out]
            exact ⟨BQ.out, rfl⟩
          · by_cases hb2 : (300 : Int) < m
            · go_wp2
              go_ret2
              unfold RParsePost
              rw [hRL.out]
              exact ⟨BQ.out, rfl⟩
            · have hb3 : (r.length : Int) - 2 < m := by omega
              go_wp2
              go_ret2
              unfold RParsePost
              rw [hRL.out]
              exact ⟨BQ.out, rfl⟩
        · have hm0 : 0 < m := by omega
          have hm3 : m ≤ 300 := by omega
          have hlm : m + 2 ≤ r.length := by omega
          have hc2 : ¬ c' = 2 := by omega
          have hlen2 : ((r.drop 2).take m).length = m := by simp; omega
          have hright : rightB ((r.drop 2).take m) = true := by simp [rightB, hlen2, hm0, hm3]
          have hrec := Lib.hid ((hR.out.below BQ.out).cut 2 m (by omega))
          have hSp2 : Hid (R = (splitB (f - 1) (r.drop (2 + m))).map ((L ++ [(r.drop 2).take m]) ++ ·)) := Lib.hid (by rw [hSp.out, splitB_good (by omega) hrf HNM.out (by omega) hright, Option.map_map]; congr 1; funext l; simp)
          have hrest : Hid (RdU8 w (some ⟨b, off + (2 + m), none⟩) (r.drop (2 + m)).length (r.drop (2 + m))) := Lib.hid (by
            have := hR.out.cut (2 + m) (r.length - (2 + m)) (by omega)
            rw [List.take_of_length_le (by simp)] at this
            simpa using this)
          have hb1 : ¬ (m : Int) < 1 := by omega
          have hb2 : ¬ (300 : Int) < m := by omega
          have hb3 : ¬ (r.length : Int) - 2 < m := by omega
          have HWM := Lib.hid (show wrap64 (2 + (m : Int)) = 2 + m by unfold wrap64; omega)
          clear hSp hbad hRr
          obtain ⟨wq, hwq⟩ : ∃ wq, wq = wr.drewN nq := ⟨_, rfl⟩
          rw [← hwq] at BQ OQ hrec ⊢
          clear hwq
          have hz1 := BQ.out.size
          go_wp2_with (first
            | (at_builtin; refine list_app8 rfl _ _ rfl wq.heap.size _ [] rfl (Own8.lit wq [] wq.heap.size wq.heap.size 0 rfl rfl (Nat.le_refl _) (by omega)) _ _ _ ((r.drop 2).take m) rfl (by have := hrec.out.below (balloc (Below.refl wq.heap.size wq) (.cells #[] 5)); first | exact this | simpa using this | (simp [hc2]; exact this)) (by simp; omega) (by simp) ?_
               intro v3 w3 O3 G3; rw [List.nil_append] at O3; obtain ⟨a3, c3, rfl⟩ := O3.form; rw [hlen2] at O3 ⊢
               have B3 := (balloc (Below.refl wq.heap.size wq) (.cells #[] 5)).grown G3 (by simp) (fun j hj => by cases hj; exact Nat.le_refl _)
               have hz3 := B3.size
               have U5 : RecIs (w3.alloc (.cells #[.slice a3 m c3] 31)) (NewF w (w3.alloc (.cells #[.slice a3 m c3] 31))) (.slice a3 m c3) ((r.drop 2).take m) :=
                 ((RecIs.of O3 (by omega) (fun g h1 h2 => ⟨by omega, by simp; omega⟩) : RecIs w3 (NewF w (w3.alloc (.cells #[.slice a3 m c3] 31))) _ _)).keep (fun g cs fr hg hb => Below.heap_alloc _ _ _ (Array.getElem?_eq_some_iff.1 hb).1)
               have H5 : RowR (w3.alloc (.cells #[.slice a3 m c3] 31)) (NewF w (w3.alloc (.cells #[.slice a3 m c3] 31))) (.slice va L.length vc) L :=
                 (OQ.out.same (fun g hg => (Below.heap_alloc _ _ _ (Nat.lt_of_lt_of_le hg.2 hz3)).trans (B3.block g hg.2))).mono (fun g hg => ⟨hg.1, by simp; have := hg.2; omega⟩)
               have HU5 := Lib.hid U5; have HH5 := Lib.hid H5
               obtain ⟨⟨vs, O5, V5⟩, F5⟩ := H5
               have hvl : vs.length = L.length := by have := O5.1; omega
               have HO5 := Lib.hid O5; have HV5 := Lib.hid V5; have HVL := Lib.hid hvl
               have HBW := Lib.hid (balloc (bthen BQ.out B3) (.cells #[.slice a3 m c3] 31))
               clear O3 B3 U5 O5 V5 F5 hvl G3)
            | (at_builtin; refine list_app2 rfl _ _ 22 rfl 0 31 (.slice none 0 0) 24 bbInfo Try.underlying22 rfl _ L.length vs rfl HO5.out ⟨w3.heap.size, 0, none⟩ 1 1 [.slice a3 m c3] rfl rfl ?_ ?_ ?_ ?_ ?_ ?_ ?_
               (intro i u hu; match i, hu with | 0, hu => (simp at hu; subst hu; exact (Blk.newAt w3 #[.slice a3 m c3] 31 w3.heap.size rfl).cell 0))
               (intro u hu; simp at hu; subst hu; rfl)
               (omega)
               (unfold maxLen; omega)
               (omega)
               (omega)
               intro v6 w6 O6 G6 N6
               have HS6 := Lib.hid (HH5.out.snoc (F' := NewF w w6) HV5.out HVL.out HU5.out O6 G6 N6 (fun g hg => ⟨hg.1, Nat.lt_of_lt_of_le hg.2 G6.size⟩) (fun g h1 h2 => ⟨by simp at h1; omega, h2⟩) (fun g hg => hg.2))
               have HB6 := Lib.hid (HBW.out.grown G6 HBW.out.size (fun j hj => by have := HH5.out.foot j hj; exact this.1))
               clear O6 G6 N6))
          have hdl : (r.drop (2 + m)).length = r.length - (2 + m) := by simp
          go_roundw
          case rel =>
            refine ⟨r.drop (2 + m), _, c' - (2 + m), f - 1, L ++ [(r.drop 2).take m], by rw [hdl], by omega, by omega, by omega, ?_, Lib.hid ?_, Lib.hid (okB_drop hok.out _), hSp2, HS6, HB6⟩
            · rw [sizeB_append, sizeB_one, hlen2]; omega
            · by_cases hc : c' = 2 + m
              · rw [if_pos hc, List.drop_of_length_le (by omega)]; exact RdU8.nil _ _
              · rw [if_neg hc]; exact hrest.out
          case measure => rw [lenV_slice, lenV_slice]; omega
end Go.Proofs.Ytlgimhhhlpmjcaa
namespace Go.Proofs.Ytlgimhhhlpmjcaa
open Go.RowKit Go.Maps Go.WideMaps Go.Shelf

theorem RTapeIs.lens {w : World} {F : Nat → Prop} {r m ab bb cb : Nat} {p : TD} (h : RTapeIs w F r m ab bb cb p) {i : Nat} (hi : i < p.n) : (curS p.sf p.df i).length = 64 := by
  have hl : i < (flushS p.n p.sf p.df).length := by rw [flushS_len]; exact hi
  have := h.ref.ea _ (List.getElem_mem hl)
  simpa [flushS] using this
theorem flushS_at {n : Nat} {sf : List Sec} {df : Int → Option Sec} {i : Nat} (hi : i < (flushS n sf df).length) : (flushS n sf df)[i] = curS sf df i := by simp [flushS]
set_option maxRecDepth 100000 in
set_option maxHeartbeats 2000000 in
theorem rhalf_any (r m ab bb cb : Nat) (F : Nat → Prop) (p : TD) (h : Nat) (w : World) (H : RTapeIs w F r m ab bb cb p) (hh : h ≤ 1) :
    Calls Try.prog 71 #[.pointer (some ⟨r, 0, none⟩), .int .i64 h] w fun e w' => ∃ v, e = .returned v ∧ Own8 w' w.heap.size v (halfB p.n p.sf p.df h) ∧ Below w.heap.size w w' := by
  obtain ⟨z, HZ, hz⟩ := zsec_named
  have Hz := Lib.hid hz; clear hz
  obtain ⟨A, c, A', c', K, _⟩ := H.blk
  have KK := Lib.hid K
  have hn := H.small
  have hsn : secs p.n ≤ 511 := secs_le _ hn
  have HH := Lib.hid H
  clear H K
  go_enter Try.func71, Try.ntmps71
  go_wp2_with (go_at_call 69; refine (rsectors_any r m ab bb cb F p _ HH.out).mono ?_; rintro e w1 ⟨rfl, hw1⟩; rw [hw1]; clear hw1 w1)
  go_loopw [5, 7] (fun o i wr => ∃ k : Nat, k ≤ secs p.n ∧ i = .int .i64 k ∧ Hid (Own8 wr w.heap.size o (halfTo p.n p.sf p.df h k)) ∧ Hid (Below w.heap.size w wr)) (fun _ i _ => secs p.n - (intOf i).toNat)
  case atStart => exact ⟨0, Nat.zero_le _, rfl, Lib.hid (Own8.nil _ _), Lib.hid (Below.refl _ _)⟩
  case round =>
    obtain ⟨k, hk, rfl, hO, hB⟩ := hrel
    have zr := hB.out.size
    obtain ⟨a0, c0, rfl⟩ := hO.out.form
    have hfl : (halfTo p.n p.sf p.df h k).length ≤ 64 * k := by rw [halfTo, flat_len _ _ (fun i hi => HH.out.lens (sec_lt hh (by omega)))]; exact Nat.le_refl _
    by_cases hlt : k < secs p.n
    · have hi := sec_lt hh hlt
      have HTS := Lib.hid (halfTo_succ p.n p.sf p.df h k)
      have hnl : 1 + h * secs p.n + k < (flushS p.n p.sf p.df).length := by rw [flushS_len]; exact hi
      have href := (HH.out.ref.below hB.out)
      have hra := href.a.2 _ hnl
      have hs64 := href.ea _ (List.getElem_mem hnl)
      rw [flushS_at hnl] at hra hs64
      obtain ⟨c1, c2, c3, hb⟩ := href.blk
      have m0 := hb.cell 0
      simp at m0
      have r0 := (KK.out.below hB.out).cell 0
      simp [RC] at r0
      obtain ⟨mm, hmm⟩ : ∃ mm : Nat, mm = h * secs p.n := ⟨_, rfl⟩
      have hm' : (h : Int) * ((secs p.n : Nat) : Int) = (mm : Nat) := by rw [hmm]; simp
      have hmm2 : mm ≤ 511 := by
        rw [hmm]
        have : h = 0 ∨ h = 1 := by omega
        rcases this with rfl | rfl <;> omega
      rw [← hmm] at hi hra hs64 HTS
      generalize curS p.sf p.df (1 + mm + k) = s at *
      have LS := Lib.hid hs64; have HRA := Lib.hid hra
      clear hra hs64 hb href hnl hmm
      have hwm : wrap64 ((h : Int) * ((secs p.n : Nat) : Int)) = (mm : Nat) := by rw [hm']; unfold wrap64; omega
      have hltI : (k : Int) < (secs p.n : Nat) := by omega
      clear hm'
      go_wp2_with (first
        | ((with_reducible refine is_load 58 (x := .tmp 29) rfl ?_); refine sec_load secT2 rfl _ rfl ab ((1 + mm + k) * 64) rfl s LS.out HRA.out ?_)
        | ((with_reducible refine sec_alloc secT2 HZ rfl rfl ?_); try simp only [World.size_alloc])
        | ((with_reducible refine is_store 58 (x := .tmp 8) rfl ?_); refine sec_store secT2 rfl _ _ rfl wr.heap.size 0 s LS.out rfl rfl ((Blk.new _ _ _).secThere Hz.out) ?_;
           have bW : Below wr.heap.size wr ((wr.alloc (.cells (sc z).toArray 58)).setCells wr.heap.size 0 (sc s)) := below_cells ((Below.refl _ _).alloc (Nat.le_refl _) _) (Nat.le_refl _) _ _;
           have Jwb := Lib.hid ((Blk.new wr (sc z).toArray 58).secStore (s' := s) (Hz.out.trans LS.out.symm));
           have Bb := Lib.hid (bthen hB.out bW);
           have Ob := Lib.hid (own8_below hO.out bW);
           have zb := Bb.out.size;
           have RS := Lib.hid (show RdU8 _ (some ⟨wr.heap.size, 0, none⟩) 64 s from ⟨LS.out, fun _ => ⟨wr.heap.size, 0, rfl, Jwb.out.lt, fun i hi => by rw [Nat.zero_add, Jwb.out.cell]; simp [sc, hi]⟩⟩);
           clear bW; generalize ((wr.alloc (.cells (sc z).toArray 58)).setCells wr.heap.size 0 (sc s)) = wb at *)
        | ((with_reducible refine is_slice1 rfl ?_); refine sec_slice1 rfl _ rfl s LS.out rfl ?_; try simp only [World.size_alloc])
        | (at_builtin; refine list_app8 rfl _ _ rfl w.heap.size _ (halfTo p.n p.sf p.df h k) rfl Ob.out _ 64 _ s rfl RS.out (by omega) zb ?_; intro v6 w6 O6 G6; have B6 := Lib.hid (Bb.out.grown G6 zb (fun j hj => (Ob.out.lt j hj).1)); have HO6 := Lib.hid O6; clear O6 G6))
      go_roundw
      case rel => exact ⟨k + 1, by omega, by go_num, Lib.hid (by rw [HTS.out]; exact HO6.out), B6⟩
      case measure => simp [intOf]; omega
    · have : k = secs p.n := by omega
      subst this
      go_wp2
      go_ret
      exact ⟨_, rfl, hO.out, hB.out⟩
end Go.Proofs.Ytlgimhhhlpmjcaa
namespace Go.Proofs.Ytlgimhhhlpmjcaa
open Go.RowKit Go.Maps Go.WideMaps Go.Shelf

/-- The disk under the document's tape is another: nothing else is. -/
theorem rtape_disk {w w' : World} {F : Nat → Prop} {r m ab bb cb : Nat} {p q : TD} (H : RTapeIs w F r m ab bb cb p) (K : Kept w w' (fun k => k = ab ∨ k = bb ∨ k = cb))
    (hr : RefIs w' m ab bb cb q.n (flushS q.n q.sf q.df) q.sf (isDs q.n q.df)) (hh : q.h = p.h) (hL : q.L = p.L) (hW : q.W = p.W) (hf : q.fr = p.fr) (hd : q.dn = p.dn) (hok : q.Ok) : RTapeIs w' F r m ab bb cb q := by
  obtain ⟨n1, n2, n3, n4⟩ := H.ns
  obtain ⟨A, c, A', c', b1, b2, b3⟩ := H.blk
  have hx : ∀ g, Lx F r ab bb cb g → g < w.heap.size → w'.heap[g]? = w.heap[g]? := fun g hg hlt => K.block g hlt (fun e => by
    obtain ⟨_, _, g2, g3, g4⟩ := hg
    rcases e with e | e | e
    · exact g2 e
    · exact g3 e
    · exact g4 e)
  refine ⟨fun k hk => Nat.lt_of_lt_of_le (H.lt k hk) K.size, ⟨A, c, A', c', ?_, ?_, ?_⟩, hr, H.fr', H.fm, H.fa, H.fb, H.fc, hok⟩
  · rw [hh, hL, hW, hf, hd]
    exact b1.keep (K.block r (H.lt r H.fr') (fun e => by rcases e with e | e | e; exact n2 e; exact n3 e; exact n4 e))
  · rw [hL]; exact b2.keep hx K.size (fun g hg _ => hg)
  · rw [hW]; exact b3.keep hx K.size (fun g hg _ => hg)
end Go.Proofs.Ytlgimhhhlpmjcaa
namespace Go.Proofs.Ytlgimhhhlpmjcaa
open Go.RowKit Go.Maps Go.WideMaps Go.Shelf

set_option maxRecDepth 100000 in
set_option maxHeartbeats 1000000 in
theorem target_fr (r m ab bb cb : Nat) (F : Nat → Prop) (p : TD) (w : World) (H : RTapeIs w F r m ab bb cb p) (hf : p.fr = true) :
    Calls Try.prog 91 #[.pointer (some ⟨r, 0, none⟩)] w fun e w' => ∃ a c, e = .returned (.tuple #[.int .i64 (placeH p : Nat), .slice a (sizeB (newL p)) c, .int .i64 (placeU p : Nat)]) ∧ Own8 w' w.heap.size (.slice a (sizeB (newL p)) c) (framesB (newL p)) ∧ Below w.heap.size w w' := by
  obtain ⟨A, c, A', c', K, R, R'⟩ := H.blk
  have k1 := K.cell 1; have k3 := K.cell 3; have k4 := K.cell 4
  simp [RC] at k1 k3 k4
  rw [hf] at k4
  have tl := K.lt
  have h1 := H.ok.h1
  have hab := allB_le H.small
  have hfw := H.ok.fitW
  have hw : sizeB p.W ≤ 32704 := by omega
  have HN := Lib.hid (show newL p = p.W by unfold newL; rw [hf]; rfl)
  have HPH := Lib.hid (show ((placeH p : Nat) : Int) = 1 - (p.h : Int) by unfold placeH; rw [hf]; simp only [if_true]; omega)
  have HPU := Lib.hid (show placeU p = 0 by unfold placeU; rw [hf]; rfl)
  have HR' := Lib.hid R'.rd
  have HFL := Lib.hid (framesB_len p.W)
  have q0 := Lib.hid (show ∀ W, Below w.heap.size w W → W.cell? ⟨r, 1, none⟩ = some (.int .i64 p.h) ∧ W.cell? ⟨r, 3, none⟩ = some (.slice A' p.W.length c') from fun W hW => ⟨(hW.cell (p := ⟨r, 1, none⟩) tl).trans k1, (hW.cell (p := ⟨r, 3, none⟩) tl).trans k3⟩)
  clear K R R' H hf hfw hab
  have X1 := Lib.hid (bdrew (Below.refl w.heap.size w))
  have r1 := (q0.out _ X1.out).1; have r3 := (q0.out _ X1.out).2
  go_enter Try.func91, Try.ntmps91
  go_wp2_with fail
  go_region_held3 (fun W => W.cell? ⟨r, 1, none⟩ = some (.int .i64 p.h) ∧ W.cell? ⟨r, 3, none⟩ = some (.slice A' p.W.length c')) (first | exact ⟨r1, r3⟩ | go_keep)
    (first
      | (go_at_call 90; refine (rframes_any A' _ c' p.W _ (HR'.out.below X1.out) (by omega)).mono ?_
         rintro e w3 ⟨v3, rfl, O3, B3⟩; obtain ⟨a3, c3, rfl⟩ := O3.form; rw [HFL.out] at O3 ⊢
         have z3 := X1.out.size
         have X1 := Lib.hid (bthen X1.out B3); have r1 := (q0.out _ X1.out).1; have r3 := (q0.out _ X1.out).2
         have HO3 := Lib.hid O3; clear O3 B3))
  all_goals
    go_wp2
    go_ret3
    refine ⟨a3, c3, ?_, ?_, X1.out⟩
    · rw [HN.out, HPU.out, HPH.out]
      first | rfl | (simp [IntKind.wrap_i64]; omega) | (simp only [IntKind.wrap_i64]; congr 1; congr 1; omega)
    · rw [HN.out]
      exact ownsRow_keep HO3.out (fun g hg => rfl)
end Go.Proofs.Ytlgimhhhlpmjcaa
