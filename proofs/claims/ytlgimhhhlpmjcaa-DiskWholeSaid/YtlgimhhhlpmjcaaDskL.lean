/- Lists of sectors and of bools that are being filled. -/
import Derived.Test.YtlgimhhhlpmjcaaDskK
set_option linter.unusedVariables false
set_option linter.unusedSimpArgs false
namespace Go.Proofs.Ytlgimhhhlpmjcaa
open Go.RowKit Go.Maps Go.WideMaps Go.Shelf

/-- A load of a sector, in the text's order, under a guard that holds. -/
theorem sec_still_w {ops : Array Oper} {w : World} {a : Act} {o : Oper} {rest : List Oper} {Q : Act → Prop} {ty : TypeId} (T : SecT ty) (hw : Region.wanted o (yielded ops a.tmps) = true) (x : Operand) (ho : o.op = .load ty x) (b off : Nat) (hx : a.eval x = .pointer (some ⟨b, off, none⟩)) (s : Sec) (hs : s.length = 64) (hc : w.rangeAt b off (sc s))
    (h : wpStill Try.prog ops w Q rest (a.put o.dst (.agg (sc s).toArray))) : wpStill Try.prog ops w Q (o :: rest) a := by
  obtain ⟨n, e, hu, _⟩ := T.und
  refine wpStill_step fun K hK => ?_
  rw [if_pos hw]
  unfold Oper.still execOp
  simp only [ho, hx, Instr.loadAt, Instr.sureAddr, Sem.run_bind, Sem.run_pure, Result.andThen_ok, run_loadVar_mid w b off ty (sc s) _ hc hu rfl (by rw [sc_len, hs]; exact T.info)]
  exact ⟨rfl, hK _ h⟩
/-- The first k of one list, the others of another one. -/
def mixS (k : Nat) (a b : List Sec) : List Sec := a.take k ++ b.drop k
theorem mixS_zero (a b : List Sec) : mixS 0 a b = b := rfl
theorem mixS_all {a b : List Sec} {n : Nat} (ha : a.length = n) (hb : b.length = n) : mixS n a b = a := by
  unfold mixS
  rw [List.take_of_length_le (by omega), List.drop_of_length_le (by omega), List.append_nil]
theorem mixS_len {a b : List Sec} {k : Nat} (h : a.length = b.length) (hk : k ≤ b.length) : (mixS k a b).length = b.length := by
  simp [mixS]; omega
theorem mixS_each {a b : List Sec} {k : Nat} (ha : ∀ x ∈ a, x.length = 64) (hb : ∀ x ∈ b, x.length = 64) : ∀ x ∈ mixS k a b, x.length = 64 := by
  intro x hx
  rcases List.mem_append.1 hx with h | h
  · exact ha x (List.mem_of_mem_take h)
  · exact hb x (List.mem_of_mem_drop h)
theorem mixS_succ {a b : List Sec} {k : Nat} (h : k < a.length) (hb : k < b.length) : mixS (k + 1) a b = (mixS k a b).set k a[k] := by
  unfold mixS
  have e : List.drop k b = b[k] :: List.drop (k + 1) b := List.drop_eq_getElem_cons hb
  have this : k - (a.take k).length = 0 := by simp; omega
  rw [e, List.set_append_right _ _ (by simp; omega), this, List.take_succ_eq_append_getElem h, List.append_assoc]
  rfl

/-- n bools of false. -/
theorem makeBools (n : Nat) (hn : n ≤ 60) (W : World) : (Instr.makeSlice 41 (.int .i64 (n : Int)) (.int .i64 (n : Int))).run Try.prog W = .ok (.slice (some ⟨W.heap.size, 0, none⟩) n n) (W.alloc (.cells (madeCells #[.bool false] n) 4)) := by
  obtain ⟨i, hi, hzz⟩ := Option.map_eq_some_iff.1 (show (Try.prog.info? 4).map (fun i => (i.zero, i.size, i.bytes)) = some (some (.bool false), 1, 1) by kernel_rfl)
  simp only [Prod.mk.injEq] at hzz
  obtain ⟨hz, hsize, hby⟩ := hzz
  have := run_makeSlice (P := Try.prog) W 41 4 i _ Try.underlying41 hi hz .i64 .i64 (n : Int) (n : Int) (by omega) (by omega) (by rw [hsize]; omega) (by rw [hby]; omega) (by omega)
  rw [hsize] at this
  simpa [Value.cells] using this
/-- Bools in a block: the first k are true. -/
def BoolsIs (w : World) (g n k : Nat) : Prop := ∃ cs : Array Value, Blk w g cs 4 ∧ cs.size = n ∧ (∀ j, j < k → cs[j]? = some (.bool true)) ∧ ∀ j, j < n → ∃ b, cs[j]? = some (.bool b)
theorem BoolsIs.made (w : World) (n g : Nat) (hg : g = w.heap.size) : BoolsIs (w.alloc (.cells (madeCells #[.bool false] n) 4)) g n 0 :=
  ⟨_, Blk.newAt _ _ _ _ hg, by simp [madeCells], fun j hj => by omega, fun j hj => ⟨false, by simp [madeCells, hj, Nat.mod_one]⟩⟩
theorem BoolsIs.set {w : World} {g n k : Nat} (h : BoolsIs w g n k) (hk : k < n) : BoolsIs (w.setCell ⟨g, k, none⟩ (.bool true)) g n (k + 1) := by
  obtain ⟨cs, h1, h2, h3, h4⟩ := h
  refine ⟨_, h1.set k _, by simp [h2], fun j hj => ?_, fun j hj => ?_⟩
  · by_cases e : k = j
    · subst e
      simp [h2, hk]
    · rw [Array.getElem?_setIfInBounds_ne e]; exact h3 j (by omega)
  · by_cases e : k = j
    · subst e
      exact ⟨true, by simp [h2, hk]⟩
    · rw [Array.getElem?_setIfInBounds_ne e]; exact h4 j hj
theorem BoolsIs.rd {w : World} {g n : Nat} (h : BoolsIs w g n n) : RdBo w (some ⟨g, 0, none⟩) n (List.replicate n true) := by
  obtain ⟨cs, h1, h2, h3, h4⟩ := h
  refine ⟨by simp, fun _ => ⟨g, 0, rfl, h1.lt, fun i hi => ?_⟩⟩
  rw [Nat.zero_add, h1.cell, h3 i (by simpa using hi)]
  simp
theorem BoolsIs.cell {w : World} {g n k j : Nat} (h : BoolsIs w g n k) (hj : j < n) : ∃ b, w.cell? ⟨g, j, none⟩ = some (.bool b) ∧ w.frozen? ⟨g, j, none⟩ = false ∧ g < w.heap.size := by
  obtain ⟨cs, h1, h2, h3, h4⟩ := h
  obtain ⟨b, hb⟩ := h4 j hj
  exact ⟨b, by rw [h1.cell]; exact hb, h1.fr _, h1.lt⟩
end Go.Proofs.Ytlgimhhhlpmjcaa
