/- What came in, read: slices of numbers and of texts; structs. -/
import Derived.Test.YtlgimhhhlpmjcaaKit
import Derived.ProofKit
import Derived.OpenShut
import Derived.ShutString
import Derived.ChangeOld
import Derived.SliceStrings
import Derived.Lib.SmallJoins
set_option linter.unusedVariables false
set_option linter.unusedSimpArgs false
namespace Go.Proofs.Ytlgimhhhlpmjcaa
open Go.RowKit Go.ChangeShapes Go.WideShapes Go.ChangeAt

/-- A slice of numbers, read. -/
structure RdI (k : IntKind) (w : World) (A : Option Addr) (n : Nat) (xs : List Int) : Prop where
  len : xs.length = n
  small : n ≤ 140737488355328
  at' : 0 < n → ∃ b off, A = some ⟨b, off, none⟩ ∧ ∀ i (h : i < xs.length), w.cell? ⟨b, off + i, none⟩ = some (.int k xs[i])
theorem RdI.below {k : IntKind} {w w' : World} {A : Option Addr} {n : Nat} {xs : List Int} (h : RdI k w A n xs) (hb : Below w.heap.size w w') : RdI k w' A n xs :=
  ⟨h.len, h.small, fun hn => by
    obtain ⟨b, off, e, hc⟩ := h.at' hn
    refine ⟨b, off, e, fun i hi => ?_⟩
    rw [← hc i hi]
    exact hb.cell (World.block_lt_of_cell? w _ (hc i hi))⟩

/-- A slice of strings, read. -/
structure RdS (w : World) (A : Option Addr) (n : Nat) (xs : List ByteArray) : Prop where
  len : xs.length = n
  small : n ≤ 140737488355328
  at' : 0 < n → ∃ b off, A = some ⟨b, off, none⟩ ∧ ∀ i (h : i < xs.length), w.cell? ⟨b, off + i, none⟩ = some (.string xs[i])


section
variable {P : Program} {H : Type} {enc : TypeId × Value → H} {w : World} {base : Nat} {spare : Nat → Bool} {held : Bool}

theorem rd_at {w : World} {x : Addr} {u : Nat → Value} {n : Nat} (h0 : 0 < n) (hc : ∀ i, i < n → w.cell? (x.add i) = some (u i)) : ∃ b off, x = ⟨b, off, none⟩ ∧ ∀ i, i < n → w.cell? ⟨b, off + i, none⟩ = some (u i) := by
  obtain ⟨b, off, spot⟩ := x
  have hc0 := hc 0 h0
  have hspot : spot = none := by simpa [Addr.add] using World.cell?_spot hc0
  subst hspot
  refine ⟨b, off, rfl, fun i hi => ?_⟩
  have ha : (⟨b, off, none⟩ : Addr).add i = ⟨b, off + i, none⟩ := by unfold Addr.add; split <;> simp_all
  rw [← ha]; exact hc i hi

/-- A slice of numbers that came in. -/
theorem open_rdI {t e : TypeId} {k : IntKind} {r : Reach} {b0 : Nat} {v : Value} {d : DataW H} {ps : List MemPlace} (ht : P.underlying t = some (.slice e)) (he : P.underlying e = some (.int k)) (hc : P.cellsOf e = 1)
    (hv : Value.okWide P w r b0 t v) (h : DataW.Trod enc P w base spare held t v d ps) :
    ∃ A n c xs, v = .slice A n c ∧ n ≤ maxLen ∧ (n ≤ 140737488355328 → RdI k w A n xs) ∧ ∀ x ∈ xs, (Lit.int k x).wf = true := by
  obtain ⟨A, n, c, rfl⟩ := okWide_slice ht hv
  obtain ⟨fuel, hf⟩ := h
  rcases open_ints ht he hc hf with ⟨hcs, _⟩ | ⟨x, l, cc, zs, hcs, _, hl, hm, hz, _, hcell, hwz⟩
  · simp [Value.cells] at hcs
    obtain ⟨rfl, rfl, rfl⟩ := hcs
    exact ⟨none, 0, 0, [], rfl, by unfold maxLen; omega, fun h => ⟨rfl, h, fun h => by omega⟩, fun x hx => by simp at hx⟩
  · simp [Value.cells] at hcs
    obtain ⟨rfl, rfl, rfl⟩ := hcs
    refine ⟨some x, n, c, zs.take n, rfl, Nat.le_trans hl hm, fun hs => ⟨?_, hs, fun h0 => ?_⟩, fun y hy => hwz y (List.mem_of_mem_take hy)⟩
    · have : n ≤ zs.length := by rw [hz]; split <;> omega
      simp; omega
    · have hn : n ≤ zs.length := by rw [hz]; split <;> omega
      obtain ⟨b, off, rfl, hcc⟩ := rd_at (u := fun i => .int k (zs.getD i 0)) (by omega : 0 < zs.length) hcell
      refine ⟨b, off, rfl, fun i hi => ?_⟩
      have hi' : i < zs.length := by simp at hi; omega
      rw [hcc i hi']
      simp [List.getD_eq_getElem?_getD, hi']

/-- A slice of texts that came in. -/
theorem open_rdS {t e : TypeId} {r : Reach} {b0 : Nat} {v : Value} {d : DataW H} {ps : List MemPlace} (ht : P.underlying t = some (.slice e)) (he : P.underlying e = some .string) (hc : P.cellsOf e = 1)
    (hv : Value.okWide P w r b0 t v) (h : DataW.Trod enc P w base spare held t v d ps) :
    ∃ A n c xs, v = .slice A n c ∧ n ≤ maxLen ∧ (n ≤ 140737488355328 → RdS w A n xs) ∧ ∀ x ∈ xs, x.size ≤ maxLen := by
  obtain ⟨A, n, c, rfl⟩ := okWide_slice ht hv
  obtain ⟨fuel, hf⟩ := h
  rcases open_strings ht he hc hf with ⟨hcs, _⟩ | ⟨x, l, cc, zs, hcs, _, hl, hm, hz, _, hcell, hwz⟩
  · simp [Value.cells] at hcs
    obtain ⟨rfl, rfl, rfl⟩ := hcs
    exact ⟨none, 0, 0, [], rfl, by unfold maxLen; omega, fun h => ⟨rfl, h, fun h => by omega⟩, fun x hx => by simp at hx⟩
  · simp [Value.cells] at hcs
    obtain ⟨rfl, rfl, rfl⟩ := hcs
    refine ⟨some x, n, c, zs.take n, rfl, Nat.le_trans hl hm, fun hs => ⟨?_, hs, fun h0 => ?_⟩, fun y hy => hwz y (List.mem_of_mem_take hy)⟩
    · have : n ≤ zs.length := by rw [hz]; split <;> omega
      simp; omega
    · have hn : n ≤ zs.length := by rw [hz]; split <;> omega
      obtain ⟨b, off, rfl, hcc⟩ := rd_at (u := fun i => .string (zs.getD i ByteArray.empty)) (by omega : 0 < zs.length) hcell
      refine ⟨b, off, rfl, fun i hi => ?_⟩
      have hi' : i < zs.length := by simp at hi; omega
      rw [hcc i hi']
      simp [List.getD_eq_getElem?_getD, hi']

end
end Go.Proofs.Ytlgimhhhlpmjcaa
