/- The disk: New, Len, at, Write, Read. -/
import Derived.Test.YtlgimhhhlpmjcaaBig
set_option linter.unusedVariables false
set_option linter.unusedSimpArgs false
namespace Go.Proofs.Ytlgimhhhlpmjcaa
open Go.RowKit Go.Maps Go.WideMaps Go.Shelf

theorem len_any (d sb mb n : Nat) (sf : List Sec) (df : Int → Option Sec) (w : World) (h : DiskIs w d sb mb n sf df) :
    Calls Try.prog 42 #[.pointer (some ⟨d, 0, none⟩)] w fun e w' => e = .returned (.int .i64 n) ∧ w' = w := by
  obtain ⟨cap, hb⟩ := h.blk
  have c0 := hb.cell 0
  simp at c0
  go_enter Try.func42, Try.ntmps42
  go_wp2
  go_ret
  exact ⟨rfl, rfl⟩
theorem len_nil (w : World) :
    Calls Try.prog 42 #[.pointer none] w fun e w' => e = .returned (.int .i64 0) ∧ w' = w := by
  go_enter Try.func42, Try.ntmps42
  go_wp2
  go_ret
  exact ⟨rfl, rfl⟩

theorem at_nil (i : Int) (w : World) :
    Calls Try.prog 62 #[.pointer none, .int .i64 i] w fun e w' => e = .returned (.int .i64 1) ∧ w' = w := by
  go_enter Try.func62, Try.ntmps62
  go_wp2
  go_ret
  exact ⟨rfl, rfl⟩
theorem at_in (d sb mb n : Nat) (sf : List Sec) (df : Int → Option Sec) (i : Int) (w : World) (h : DiskIs w d sb mb n sf df) (h0 : 0 ≤ i) (h1 : i < n) :
    Calls Try.prog 62 #[.pointer (some ⟨d, 0, none⟩), .int .i64 i] w fun e w' => e = .returned (.int .i64 0) ∧ w' = w := by
  obtain ⟨cap, hb⟩ := h.blk
  have c0 := hb.cell 0
  simp at c0
  have hn := h.small
  have n1 : ¬ i < 0 := by omega
  have n2 : ¬ (n : Int) ≤ i := by omega
  go_enter Try.func62, Try.ntmps62
  go_wp2
  go_ret
  exact ⟨rfl, rfl⟩
theorem at_out (d sb mb n : Nat) (sf : List Sec) (df : Int → Option Sec) (i : Int) (w : World) (h : DiskIs w d sb mb n sf df) (h0 : i < 0 ∨ (n : Int) ≤ i) :
    Calls Try.prog 62 #[.pointer (some ⟨d, 0, none⟩), .int .i64 i] w fun e w' => e = .returned (.int .i64 41) ∧ w' = w := by
  obtain ⟨cap, hb⟩ := h.blk
  have c0 := hb.cell 0
  simp at c0
  have hn := h.small
  rcases h0 with h0 | h0
  · go_enter Try.func62, Try.ntmps62
    go_wp2
    go_ret
    exact ⟨rfl, rfl⟩
  · have n1 : ¬ i < 0 := by omega
    go_enter Try.func62, Try.ntmps62
    go_wp2
    go_ret
    exact ⟨rfl, rfl⟩

theorem zsec_cell (j : Nat) (h : j < 64) : (sc zsec)[j]? = some (.int .u8 0) := by
  unfold sc zsec
  rw [List.map_replicate, List.getElem?_replicate, if_pos h]
/-- n sectors of zeros. -/
def zcells (n : Nat) : Array Value := madeCells (sc zsec).toArray (n * 64)
theorem zcells_get (n k : Nat) (h : k < n * 64) : (zcells n)[k]? = some (.int .u8 0) := by
  have hz : (sc zsec).toArray.size = 64 := by rw [List.size_toArray, sc_len, zsec_len]
  have hk : k % 64 < 64 := Nat.mod_lt _ (by omega)
  have : ((sc zsec).toArray)[k % 64]! = .int .u8 0 := by
    rw [getElem!_pos _ _ (by rw [hz]; exact hk)]
    have := zsec_cell (k % 64) hk
    rw [List.getElem?_eq_getElem (by rw [sc_len, zsec_len]; exact hk)] at this
    exact Option.some.inj this
  unfold zcells madeCells
  rw [hz]
  simp only [Array.getElem?_map, Array.getElem?_range, h, if_true, Option.map_some, this]
theorem SafeIs.zeros (W : World) (n : Nat) (g : Nat) (hg : g = W.heap.size) : SafeIs (W.alloc (.cells (zcells n) 55)) g (List.replicate n zsec) := by
  subst hg
  have hb := Blk.new W (zcells n) 55
  refine ⟨⟨_, hb⟩, fun i hi => ?_⟩
  intro j v hv
  rw [List.length_replicate] at hi
  simp only [List.getElem_replicate] at hv
  have hj : j < 64 := by
    have := (List.getElem?_eq_some_iff.1 hv).1
    rwa [sc_len, zsec_len] at this
  rw [hb.cell, zcells_get n _ (by omega)]
  rw [← hv, zsec_cell j hj]
theorem makeSecs (n : Nat) (hn : n ≤ 1024) (W : World) : (Instr.makeSlice 68 (.int .i64 (n : Int)) (.int .i64 (n : Int))).run Try.prog W = .ok (.slice (some ⟨W.heap.size, 0, none⟩) n n) (W.alloc (.cells (zcells n) 55)) := by
  obtain ⟨i, hi, hzz⟩ := Option.map_eq_some_iff.1 secInfo
  simp only [Prod.mk.injEq] at hzz
  obtain ⟨hz, hsize, hby⟩ := hzz
  have := run_makeSlice (P := Try.prog) W 68 55 i _ Try.underlying68 hi hz .i64 .i64 (n : Int) (n : Int) (by omega) (by omega) (by rw [hsize]; omega) (by rw [hby]; omega) (by omega)
  rw [hsize] at this
  simpa [zcells, Value.cells] using this

def NewPost (w : World) (n : Nat) (e : Ending) (w' : World) : Prop :=
  ∃ d sb mb, e = .returned (.tuple #[.pointer (some ⟨d, 0, none⟩), .int .i64 0]) ∧ DiskIs w' d sb mb n (List.replicate n zsec) (fun _ => none) ∧ w.heap.size ≤ d ∧ w.heap.size ≤ sb ∧ w.heap.size ≤ mb ∧ Below w.heap.size w w'

theorem new_ok (n : Nat) (w : World) (h1 : 1 ≤ n) (h2 : n ≤ 1024) :
    Calls Try.prog 15 #[.int .i64 n] w (NewPost w n) := by
  have hmk := makeSecs n h2
  have hmm := @run_makeMap Try.prog
  have n1 : ¬ (n : Int) < 1 := by omega
  have n2 : ¬ 1024 < (n : Int) := by omega
  go_enter Try.func15, Try.ntmps15
  go_wp2
  go_ret2
  refine ⟨w.heap.size + 2, w.heap.size, w.heap.size + 1, rfl, ⟨⟨n, Blk.newAt _ _ _ _ (by simp)⟩, ?_, ?_, by simp, h2, ?_, ?_⟩, by omega, by omega, by omega, ?_⟩
  · refine (SafeIs.zeros w n w.heap.size rfl).keep ?_
    rw [Below.heap_alloc _ _ _ (by simp <;> omega), Below.heap_alloc _ _ _ (by simp <;> omega)]
  · have := (MapS.made (w.alloc (.cells (zcells n) 55))).mono (Nat.zero_le n)
    rw [World.size_alloc] at this
    exact this.keep (Below.heap_alloc _ _ _ (by simp <;> omega))
  · intro x hx
    rw [List.eq_of_mem_replicate hx]; exact zsec_len
  · intro i s hs; cases hs
  · exact (((Below.refl _ _).alloc (Nat.le_refl _) _).alloc (by simp) _).alloc (by simp; omega) _
theorem new_bad (n : Int) (w : World) (h : n < 1 ∨ 1024 < n) :
    Calls Try.prog 15 #[.int .i64 n] w fun e w' => e = .returned (.tuple #[.pointer none, .int .i64 1]) ∧ w' = w := by
  rcases h with h | h
  · go_enter Try.func15, Try.ntmps15
    go_wp2
    go_ret2
    exact ⟨rfl, rfl⟩
  · have n1 : ¬ n < 1 := by omega
    go_enter Try.func15, Try.ntmps15
    go_wp2
    go_ret2
    exact ⟨rfl, rfl⟩

theorem wfI {x : Int} (h1 : -9223372036854775808 ≤ x) (h2 : x ≤ 9223372036854775807) : (Lit.int .i64 x).wf = true := by
  have e1 : IntKind.i64.min = -9223372036854775808 := by decide
  have e2 : IntKind.i64.max = 9223372036854775807 := by decide
  simp only [Lit.wf, e1, e2]
  simp; omega

/-- What Write leaves. -/
def WritePost (w : World) (d sb mb n : Nat) (sf : List Sec) (df : Int → Option Sec) (e : Ending) (w' : World) : Prop :=
  e = .returned (.int .i64 0) ∧ DiskIs w' d sb mb n sf df ∧ w.grownBy w' (some mb)

set_option maxRecDepth 100000 in
theorem write_in (d sb mb n : Nat) (sf : List Sec) (df : Int → Option Sec) (i : Nat) (s : Sec) (w : World) (h : DiskIs w d sb mb n sf df) (h1 : i < n) (hs : s.length = 64) :
    Calls Try.prog 30 #[.pointer (some ⟨d, 0, none⟩), .int .i64 i, .agg (sc s).toArray] w (WritePost w d sb mb n sf (putL df i s)) := by
  have hlt := h.lt
  have hA := (h.alloc (.cells (sc s).toArray 55))
  have hsm := h.small
  have hat := at_in d sb mb n sf df i _ hA (by omega) (by omega)
  have hK := Blk.new w (sc s).toArray 55
  have hsz : (Try.prog.info? 55).map (·.size) = some (sc s).length := by rw [sc_len, hs]; exact secSize
  obtain ⟨w2, hrun, hm2, hg2⟩ := (MapS.put (w := (w.alloc (.cells (sc s).toArray 55)).drew) hA.map i (wfI (by omega) (by omega)) s (by unfold maxLen; omega))
  obtain ⟨cap, hb⟩ := hA.blk
  have c1 := hb.cell 1
  simp at c1
  have HA := Lib.hid hA; have HSZ := Lib.hid hsz; have HR := Lib.hid (show ((w.alloc (.cells (sc s).toArray 55)).drew).rangeAt w.heap.size 0 (sc s) by have := World.rangeAt_of_block hK.drew 0 (sc s).length; simpa using this); have HM2 := Lib.hid hm2; have HG2 := Lib.hid hg2; have Hs := Lib.hid hs; clear hA hsz hm2 hg2 h hb hs hK
  have HAT := Lib.hid hat; clear hat
  go_enter Try.func30, Try.ntmps30
  go_wp2_with (go_at_call 62; refine HAT.out.mono ?_; rintro e w1 ⟨rfl, rfl⟩)
  refine region_tail 6 (by kernel_rfl) (by kernel_rfl) ?_
  simp only [List.take_succ_cons, List.take_zero, List.drop_succ_cons, List.drop_zero]
  still_step; still_step; still_step; still_step; still_step
  refine still_load_mid rfl _ _ rfl w.heap.size 0 rfl (sc s) _ HR.out Try.underlying55 rfl HSZ.out ?_
  refine wpStill_nil ?_
  go_wp2
  go_ret
  obtain ⟨n1, n2, n3⟩ := HA.out.ne
  obtain ⟨⟨cp, hbk⟩, hsf, hmp, e1, e2, e3, e4⟩ := HA.out
  have l1 : d < (w.alloc (.cells (sc s).toArray 55)).heap.size := hbk.lt
  have l2 : sb < (w.alloc (.cells (sc s).toArray 55)).heap.size := hsf.lt
  have hsup : ∀ j s', putL df i s j = some s' → 0 ≤ j ∧ j < (n : Int) ∧ s'.length = 64 := by
    intro j s' hj
    unfold putL at hj
    split at hj
    · rename_i e; subst e; cases hj; exact ⟨by omega, by omega, Hs.out⟩
    · exact e4 j s' hj
  refine ⟨rfl, ⟨⟨cp, hbk.keep (HG2.out.block d l1 (fun e => n2 (Option.some.inj e)))⟩, hsf.keep (HG2.out.block sb l2 (fun e => n3 (Option.some.inj e))), HM2.out.fit n fun j s' hj => ⟨(hsup j s' hj).1, (hsup j s' hj).2.1⟩, e1, e2, e3, hsup⟩, ?_⟩
  have q : Below w.heap.size w (w.alloc (.cells (sc s).toArray 55)) := (Below.refl _ _).alloc (Nat.le_refl _) _
  exact below_grownBy (show Below w.heap.size w (w.alloc (.cells (sc s).toArray 55)).drew from ⟨q.os, q.tape, q.output, q.size, q.block⟩) HG2.out

theorem write_out (d sb mb n : Nat) (sf : List Sec) (df : Int → Option Sec) (i : Int) (s : Sec) (w : World) (h : DiskIs w d sb mb n sf df) (h0 : i < 0 ∨ (n : Int) ≤ i) (hs : s.length = 64) :
    Calls Try.prog 30 #[.pointer (some ⟨d, 0, none⟩), .int .i64 i, .agg (sc s).toArray] w fun e w' => e = .returned (.int .i64 41) ∧ Below w.heap.size w w' := by
  have hA := (h.alloc (.cells (sc s).toArray 55))
  have hat := at_out d sb mb n sf df i _ hA h0
  have HAT := Lib.hid hat; clear hat hA h hs
  go_enter Try.func30, Try.ntmps30
  go_wp2_with (go_at_call 62; refine HAT.out.mono ?_; rintro e w1 ⟨rfl, rfl⟩)
  go_ret
  exact ⟨rfl, (Below.refl _ _).alloc (Nat.le_refl _) _⟩
theorem write_nil (i : Int) (s : Sec) (w : World) :
    Calls Try.prog 30 #[.pointer none, .int .i64 i, .agg (sc s).toArray] w fun e w' => e = .returned (.int .i64 1) ∧ Below w.heap.size w w' := by
  go_enter Try.func30, Try.ntmps30
  go_wp2_with (go_at_call 62; refine (at_nil _ _).mono ?_; rintro e w1 ⟨rfl, rfl⟩)
  go_ret
  exact ⟨rfl, (Below.refl _ _).alloc (Nat.le_refl _) _⟩

/-- What Read tells. -/
def ReadPost (w : World) (s : Sec) (x : Int) (e : Ending) (w' : World) : Prop :=
  e = .returned (.tuple #[.agg (sc s).toArray, .int .i64 x]) ∧ Below w.heap.size w w'
theorem results_cell_tmp_row {P : Program} {fn : Func} {p u : Tmp} {ty : TypeId} (h : fn.results = #[.cell p ty, .tmp u]) (tmps : Array Value) (w : World) (g : Nat) (t : TypeId) (cs : Array Value) (fr : Nat × Nat) (d : TypeDesc)
    (hp : tmps.getD p undef = .pointer (some ⟨g, 0, none⟩)) (hg : w.heap[g]? = some (.cells cs t fr))
    (hu : P.underlying ty = some d) (hd : (match d with | .struct _ | .array _ _ => true | _ => false) = true) (hi : (P.info? ty).map (·.size) = some cs.size) :
    (results fn tmps).run P w = .ok (.tuple #[.agg cs, tmps.getD u undef]) w := by
  rw [results_cell_tmp h, hp]
  simp only [asAddr, Sem.run_pure, Result.andThen_ok, run_loadVar_row w g t ty cs fr d hg hu hd hi]
theorem secInfoSize {s : Sec} (hs : s.length = 64) : (Try.prog.info? 55).map (·.size) = some (sc s).toArray.size := by rw [List.size_toArray, sc_len, hs]; exact secSize

/-- A result that is being told: a block of the call's own. -/
theorem below_cells {B : Nat} {a w : World} (h : Below B a w) {g : Nat} (hg : B ≤ g) (o : Nat) (vs : List Value) : Below B a (w.setCells g o vs) :=
  ⟨(rest_setCells g vs o w).1.trans h.os, (rest_setCells g vs o w).2.1.trans h.tape, (rest_setCells g vs o w).2.2.trans h.output, by rw [size_setCells]; exact h.size, fun k hk => (heap_setCells_other g vs o w k (by omega)).trans (h.block k hk)⟩

end Go.Proofs.Ytlgimhhhlpmjcaa
