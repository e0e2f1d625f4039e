/- A slice of one sector, written out; the document's answer is not wanted here. -/
import Derived.Test.YtlgimhhhlpmjcaaDskL
set_option linter.unusedVariables false
set_option linter.unusedSimpArgs false
namespace Go.Proofs.Ytlgimhhhlpmjcaa
open Go.RowKit Go.Maps Go.WideMaps Go.Shelf

theorem fold_put : ∀ (l : List Value) (k : Nat) (C : Array Value), k + l.length ≤ C.size → (l.zipIdx k).foldl (fun cs x => cs.setIfInBounds x.snd x.fst) C = (C.toList.take k ++ l ++ C.toList.drop (k + l.length)).toArray
  | [], k, C, h => by simp
  | v :: r, k, C, h => by
    rw [List.zipIdx_cons, List.foldl_cons, fold_put r (k + 1) (C.setIfInBounds k v) (by simp at h ⊢; omega)]
    congr 1
    have hk : k < C.toList.length := by simp at h ⊢; omega
    have e1 : (C.setIfInBounds k v).toList = C.toList.set k v := by simp
    rw [e1]
    have e2 : (C.toList.set k v).take (k + 1) = C.toList.take k ++ [v] := by
      rw [List.take_succ_eq_append_getElem (by simpa using hk), List.take_set_of_le (Nat.le_refl _)]
      simp
    have e3 : (C.toList.set k v).drop (k + 1 + r.length) = C.toList.drop (k + (v :: r).length) := by
      rw [List.drop_set_of_lt (by omega)]
      congr 1
      simp; omega
    rw [e2, e3]
    simp
theorem one_sec (s : Sec) (hs : s.length = 64) (w : World) : (Instr.buildSlice 68 1 #[(0, .agg (sc s).toArray)]).run Try.prog w = .ok (.slice (some ⟨w.heap.size, 0, none⟩) 1 1) (w.alloc (.cells (sc s).toArray 55)) := by
  have hl : (sc s).length = 64 := by rw [sc_len, hs]
  simp [Instr.buildSlice, run_underlying Try.underlying68, Try.sizeOf55, zeroSec, Value.cells, Instr.fill, hl, newRow, newObj]
  rw [fold_put (sc s) 0 _ (by simp [hl]), List.drop_of_length_le (by simp [hl])]
  simp only [List.take_zero, List.nil_append, List.append_nil]
  rfl
theorem is_slice1 {P : Program} {ops : Array Oper} {w : World} {a : Act} {o : Oper} {rest : List Oper} {Q : Exit → Act → World → Prop} {x : Operand} (ho : o.op = .buildSlice 68 1 #[(0, x)]) (h : wpList P ops Q (o :: rest) a w) : wpList P ops Q (o :: rest) a w := h
theorem sec_slice1 {ops : Array Oper} {w : World} {a : Act} {o : Oper} {rest : List Oper} {Q : Exit → Act → World → Prop} (hg : o.guard = none) (x : Operand) (ho : o.op = .buildSlice 68 1 #[(0, x)]) (s : Sec) (hs : s.length = 64) (hx : a.eval x = .agg (sc s).toArray)
    (h : wpList Try.prog ops Q rest (a.put o.dst (.slice (some ⟨w.heap.size, 0, none⟩) 1 1)) (w.alloc (.cells (sc s).toArray 55))) : wpList Try.prog ops Q (o :: rest) a w := by
  refine wpList_plain hg fun K hK => ?_
  unfold Oper.wp execOp
  simp only [ho, List.map_toArray, List.map_cons, List.map_nil, hx, one_sec s hs w, Sem.run_bind, Sem.run_pure, Result.andThen_ok]
  exact hK _ _ h
end Go.Proofs.Ytlgimhhhlpmjcaa
