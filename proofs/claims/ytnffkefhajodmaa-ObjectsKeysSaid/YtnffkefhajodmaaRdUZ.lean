/- A slice of updates that came in, read (what ObjectsKeys' walk is told). -/
import Derived.Test.YtnffkefhajodmaaRdU
import Derived.Test.YtnffkefhajodmaaObjZ
set_option linter.unusedVariables false
set_option linter.unusedSimpArgs false
namespace Go.Proofs.Ytnffkefhajodmaa
open Go.RowKit Go.ChangeShapes Go.WideShapes Go.ChangeAt Go.Deep

section
variable {H : Type} {enc : TypeId × Value → H} {w : World} {base : Nat} {spare : Nat → Bool} {held : Bool}

theorem chosen {n : Nat} {Q : Nat → AU → Prop} (h : ∀ i, i < n → ∃ u, Q i u) : ∃ us : List AU, us.length = n ∧ ∀ i (hi : i < us.length), Q i us[i] := by
  induction n generalizing Q with
  | zero => exact ⟨[], rfl, fun i hi => absurd hi (by simp)⟩
  | succ n ih =>
    obtain ⟨u, hu⟩ := h 0 (by omega)
    obtain ⟨us, hl, hus⟩ := ih (Q := fun i => Q (i + 1)) fun i hi => h (i + 1) (by omega)
    refine ⟨u :: us, by simp [hl], fun i hi => ?_⟩
    cases i with
    | zero => exact hu
    | succ i => exact hus i (by simp at hi; omega)

set_option maxRecDepth 100000 in
theorem open_rdU {r : Reach} {b0 : Nat} {v : Value} {d : DataW H} {ps : List MemPlace}
    (hv : Value.okWide Try.prog w r b0 38 v) (h : DataW.Trod enc Try.prog w base spare held 38 v d ps) :
    ∃ A n c us, v = .slice A n c ∧ RdU w A n us := by
  obtain ⟨A, n, c, rfl⟩ := okWide_slice Try.underlying38 hv
  obtain ⟨fuel, hf⟩ := h
  have hC : Try.prog.cellsOf 32 = 4 := by kernel_rfl
  rcases open_slice Try.underlying38 hf with ⟨hcs, _⟩ | ⟨a, l, cc, m, n', D, Pl, hcs, _, hl, _, hm, _, hat⟩
  · simp [Value.cells] at hcs
    obtain ⟨rfl, rfl, rfl⟩ := hcs
    exact ⟨none, 0, 0, [], rfl, rfl, fun h => by omega⟩
  · simp [Value.cells] at hcs
    obtain ⟨rfl, rfl, rfl⟩ := hcs
    rw [hC] at hat
    have hnm : n ≤ m := by rw [hm]; split <;> omega
    obtain ⟨us, hul, hus⟩ := chosen (n := n) (Q := fun i u => w.cells? base (a.add (i * 4)) 4 = some [.int .i64 u.k, .string u.key, .string u.val, .int .i64 u.n]) fun i hi => by
      obtain ⟨cs', h1, h2⟩ := hat i (by omega)
      obtain ⟨k, key, val, x, rfl⟩ := upd_cells h2
      exact ⟨⟨k, key, val, x⟩, h1⟩
    refine ⟨some a, n, c, us, rfl, hul, fun h0 => ?_⟩
    obtain ⟨b, off, spot⟩ := a
    have hspot : spot = none := by
      have := cells4 (hus 0 (by omega)) 0 (by omega)
      have := World.cell?_spot this
      simpa [Addr.add] using this
    subst hspot
    refine ⟨b, off, rfl, fun i hi => ?_⟩
    have hc := cells4 (hus i hi)
    have ha : ∀ j, (⟨b, off, none⟩ : Addr).add j = ⟨b, off + j, none⟩ := fun j => by unfold Addr.add; split <;> simp_all
    have ha' : ∀ j k, ((⟨b, off, none⟩ : Addr).add j).add k = ⟨b, off + j + k, none⟩ := fun j k => by rw [ha]; unfold Addr.add; split <;> simp_all
    simp only [ha'] at hc
    exact ⟨hc 0 (by omega), hc 1 (by omega), hc 2 (by omega), hc 3 (by omega)⟩

end
end Go.Proofs.Ytnffkefhajodmaa
