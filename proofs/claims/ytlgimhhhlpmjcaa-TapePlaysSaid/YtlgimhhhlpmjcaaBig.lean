/- Arrays of many cells, whole: made, zeroed, loaded, stored. -/
import Derived.Test.YtlgimhhhlpmjcaaDskA
set_option linter.unusedVariables false
set_option linter.unusedSimpArgs false
namespace Go.Proofs.Ytlgimhhhlpmjcaa
open Go.RowKit Go.Maps Go.WideMaps Go.Shelf

/-- A type of arrays of bytes, 64 cells. -/
structure SecT (ty : TypeId) : Prop where
  und : ∃ n e, Try.prog.underlying ty = some (.array n e) ∧ (Try.prog.info? e).map (·.size) = some 1
  info : (Try.prog.info? ty).map (·.size) = some 64
  zero : ∀ w, (zeroValue ty).run Try.prog w = .ok (.agg (sc zsec).toArray) w
theorem secT1 : SecT 55 := ⟨⟨_, _, Try.underlying55, by kernel_rfl⟩, by kernel_rfl, fun w => by kernel_rfl⟩
theorem secT2 : SecT 58 := ⟨⟨_, _, Try.underlying58, by kernel_rfl⟩, by kernel_rfl, fun w => by kernel_rfl⟩

/-- The empty sector, under a name. -/
theorem zsec_named : ∃ z : Sec, Hid (z = zsec) ∧ z.length = 64 := ⟨zsec, Lib.hid rfl, zsec_len⟩

section
variable {ops : Array Oper} {w : World} {a : Act} {o : Oper} {rest : List Oper}

theorem still_load_mid {P : Program} {Q : Act → Prop} (hg : o.guard = none) (ty : TypeId) (x : Operand) (ho : o.op = .load ty x)
    (b off : Nat) (hx : a.eval x = .pointer (some ⟨b, off, none⟩)) (cs : List Value) (d : TypeDesc) (hc : w.rangeAt b off cs) (hu : P.underlying ty = some d) (hd : d.isRow = true) (hi : (P.info? ty).map (·.size) = some cs.length)
    (h : wpStill P ops w Q rest (a.put o.dst (.agg cs.toArray))) : wpStill P ops w Q (o :: rest) a := by
  refine wpStill_step fun K hK => ?_
  rw [if_pos (by simp [Region.wanted, hg])]
  unfold Oper.still execOp
  simp only [ho, hx, Instr.loadAt, Instr.sureAddr, Sem.run_bind, Sem.run_pure, Result.andThen_ok, run_loadVar_mid w b off ty cs d hc hu hd hi]
  exact ⟨rfl, hK _ h⟩

theorem sec_still_load {Q : Act → Prop} {ty : TypeId} (T : SecT ty) (hg : o.guard = none) (x : Operand) (ho : o.op = .load ty x) (b off : Nat) (hx : a.eval x = .pointer (some ⟨b, off, none⟩)) (s : Sec) (hs : s.length = 64) (hc : w.rangeAt b off (sc s))
    (h : wpStill Try.prog ops w Q rest (a.put o.dst (.agg (sc s).toArray))) : wpStill Try.prog ops w Q (o :: rest) a := by
  obtain ⟨n, e, hu, _⟩ := T.und
  exact still_load_mid hg ty x ho b off hx (sc s) _ hc hu rfl (by rw [sc_len, hs]; exact T.info) h

variable {Q : Exit → Act → World → Prop}
/-- Guards: what the next operation is. -/
theorem is_store {P : Program} (ty : TypeId) {x y : Operand} (ho : o.op = .store ty x y) (h : wpList P ops Q (o :: rest) a w) : wpList P ops Q (o :: rest) a w := h
theorem is_load {P : Program} (ty : TypeId) {x : Operand} (ho : o.op = .load ty x) (h : wpList P ops Q (o :: rest) a w) : wpList P ops Q (o :: rest) a w := h
theorem sec_load {ty : TypeId} (T : SecT ty) (hg : o.guard = none) (x : Operand) (ho : o.op = .load ty x) (b off : Nat) (hx : a.eval x = .pointer (some ⟨b, off, none⟩)) (s : Sec) (hs : s.length = 64) (hc : w.rangeAt b off (sc s))
    (h : wpList Try.prog ops Q rest (a.put o.dst (.agg (sc s).toArray)) w) : wpList Try.prog ops Q (o :: rest) a w := by
  obtain ⟨n, e, hu, _⟩ := T.und
  exact wpList_load_mid hg ty x ho b off hx (sc s) _ hc hu rfl (by rw [sc_len, hs]; exact T.info) h
theorem sec_store {ty : TypeId} (T : SecT ty) (hg : o.guard = none) (x y : Operand) (ho : o.op = .store ty x y) (b off : Nat) (s : Sec) (hs : s.length = 64) (hx : a.eval x = .pointer (some ⟨b, off, none⟩)) (hy : a.eval y = .agg (sc s).toArray) (ht : w.there b off 64)
    (h : wpList Try.prog ops Q rest (a.put o.dst undef) (w.setCells b off (sc s))) : wpList Try.prog ops Q (o :: rest) a w :=
  wpList_store_mid hg ty x y ho b off (sc s).toArray hx hy (by rw [List.size_toArray, sc_len, hs]; exact ht) (by rw [List.size_toArray, sc_len, hs]; exact T.info) (all_oneCell_toArray (sc_one s)) h
theorem sec_alloc {ty : TypeId} (T : SecT ty) {z : Sec} (hz : Hid (z = zsec)) (hg : o.guard = none) (ho : o.op = .alloc ty)
    (h : wpList Try.prog ops Q rest (a.put o.dst (.pointer (some ⟨w.heap.size, 0, none⟩))) (w.alloc (.cells (sc z).toArray ty))) : wpList Try.prog ops Q (o :: rest) a w := by
  refine wpList_plain hg fun K hK => ?_
  rw [hz.out] at h
  unfold Oper.wp execOp
  simp only [ho, Instr.alloc, Sem.run_bind, Sem.run_pure, T.zero, Result.andThen_ok, newVar, newRow, Value.cells, newObj]
  exact hK _ _ h
theorem sec_zero {ty : TypeId} (T : SecT ty) {z : Sec} (hz : Hid (z = zsec)) (hg : o.guard = none) (ho : o.op = .build ty #[])
    (h : wpList Try.prog ops Q rest (a.put o.dst (.agg (sc z).toArray)) w) : wpList Try.prog ops Q (o :: rest) a w := by
  refine wpList_plain hg fun K hK => ?_
  obtain ⟨n, e, hu, he⟩ := T.und
  obtain ⟨i, hi, hsz⟩ := Option.map_eq_some_iff.1 he
  rw [hz.out] at h
  unfold Oper.wp execOp
  simp [ho, Instr.build, Sem.run_bind, T.zero, run_underlying hu, sizeOf, typeInfo, hi, Instr.fill, Value.cells]
  exact hK _ _ h
/-- A sector known whole in a block of its own. -/
theorem Blk.sec {w : World} {g ty : Nat} {s : Sec} (h : Blk w g (sc s).toArray ty) : w.rangeAt g 0 (sc s) := by
  have := World.rangeAt_of_block h 0 (sc s).length
  simpa using this
theorem Blk.secThere {w : World} {g ty : Nat} {s : Sec} (h : Blk w g (sc s).toArray ty) (hs : s.length = 64) : w.there g 0 64 := fun j hj => by
  refine ⟨h.sec.isSome j (by rw [sc_len, hs]; exact hj), h.fr _⟩
theorem setCells_whole (b : Nat) (t : TypeId) : ∀ (vs pre old : List Value) (w : World), old.length = vs.length → Blk w b (pre ++ old).toArray t → Blk (w.setCells b pre.length vs) b (pre ++ vs).toArray t
  | [], pre, old, w, hl, h => by
    have : old = [] := List.eq_nil_of_length_eq_zero hl
    subst this; exact h
  | v :: r, pre, [], w, hl, h => by simp at hl
  | v :: r, pre, u :: old, w, hl, h => by
    rw [World.setCells]
    have h1 := h.set pre.length v
    have e : (pre ++ u :: old).toArray.setIfInBounds pre.length v = ((pre ++ [v]) ++ old).toArray := by
      simp
    rw [e] at h1
    have := setCells_whole b t r (pre ++ [v]) old _ (by simpa using hl) h1
    simpa using this
theorem Blk.secStore {w : World} {g ty : Nat} {s s' : Sec} (h : Blk w g (sc s).toArray ty) (hl : s.length = s'.length) : Blk (w.setCells g 0 (sc s')) g (sc s').toArray ty := by
  have := setCells_whole g ty (sc s') [] (sc s) w (by rw [sc_len, sc_len, hl]) (by simpa using h)
  simpa using this
end
end Go.Proofs.Ytlgimhhhlpmjcaa
