/- Makings that came in, read. -/
import Derived.Test.YtjalhcfphhdcbaaStrN
import Derived.Test.YtjalhcfphhdcbaaStrR
set_option linter.unusedVariables false
set_option linter.unusedSimpArgs false
namespace Go.Proofs.Ytjalhcfphhdcbaa
open Go.RowKit Go.ChangeShapes Go.WideShapes Go.ChangeAt Go.Deep

section
variable {H : Type} {enc : TypeId × Value → H} {w : World} {base : Nat} {spare : Nat → Bool} {held : Bool}

theorem ints_open {t e : TypeId} {k : IntKind} {fuel : Nat} {cs : List Value} {x : DataW H × List MemPlace} (ht : Try.prog.underlying t = some (.slice e)) (he : Try.prog.underlying e = some (.int k)) (hc : Try.prog.cellsOf e = 1)
    (h : DataW.trod enc Try.prog w base spare held fuel t cs = some x) : ∃ A n c xs, cs = [.slice A n c] ∧ RdJ k w A n xs := by
  rcases open_ints ht he hc h with ⟨rfl, _⟩ | ⟨a, l, cc, zs, rfl, _, hl, hm, hz, _, hcell, hwz⟩
  · exact ⟨none, 0, 0, [], rfl, rfl, fun h => by omega⟩
  · have hlz : l ≤ zs.length := by rw [hz]; split <;> omega
    refine ⟨some a, l, cc, zs.take l, rfl, by simp; omega, fun h0 => ?_⟩
    obtain ⟨b, off, rfl, hcc⟩ := rd_at (u := fun i => .int k (zs.getD i 0)) (by omega : 0 < zs.length) hcell
    refine ⟨b, off, rfl, fun i hi => ?_⟩
    have hi' : i < zs.length := by simp at hi; omega
    rw [hcc i hi']
    simp [List.getD_eq_getElem?_getD, hi']

/-- A making's cells. -/
theorem made_cells {fuel : Nat} {cs : List Value} {x : DataW H × List MemPlace} (h : DataW.trod enc Try.prog w base spare held fuel 67 cs = some x) :
    ∃ (y : Md) (sA : Option Addr) (sc : Nat) (dA : Option Addr) (dc : Nat) (ds : List Int), cs = [.slice sA y.str.length sc, .slice dA y.nd dc, .bool y.junk] ∧ RdJ .i64 w sA y.str.length y.str ∧ RdJ .u8 w dA y.nd ds := by
  obtain ⟨xs, n, _, rfl, hl, hxl, hf⟩ := DataW.trod_struct Try.underlying67 h
  have hc : Try.prog.cellsOf 67 = 3 := by kernel_rfl
  have cs' : Try.prog.cellsOf 65 = 1 := by kernel_rfl
  have cd : Try.prog.cellsOf 38 = 1 := by kernel_rfl
  have cb : Try.prog.cellsOf 4 = 1 := by kernel_rfl
  have ci : Try.prog.cellsOf 3 = 1 := by kernel_rfl
  have c8 : Try.prog.cellsOf 5 = 1 := by kernel_rfl
  rw [hc] at hl
  obtain ⟨c0, c1, c2, rfl⟩ : ∃ c0 c1 c2, cs = [c0, c1, c2] := by
    rcases cs with _ | ⟨c0, _ | ⟨c1, _ | ⟨c2, _ | ⟨c3, cs⟩⟩⟩⟩ <;> simp at hl
    exact ⟨_, _, _, rfl⟩
  have h0 : DataW.trod enc Try.prog w base spare held n 65 (([c0, c1, c2].drop 0).take (Try.prog.cellsOf 65)) = xs[0]? := hf 0 _ rfl
  have h1 : DataW.trod enc Try.prog w base spare held n 38 (([c0, c1, c2].drop 1).take (Try.prog.cellsOf 38)) = xs[1]? := hf 1 _ rfl
  have h2 : DataW.trod enc Try.prog w base spare held n 4 (([c0, c1, c2].drop 2).take (Try.prog.cellsOf 4)) = xs[2]? := hf 2 _ rfl
  clear hf h
  obtain ⟨y0, e0⟩ := at_some hxl (show 0 < _ by decide)
  obtain ⟨y1, e1⟩ := at_some hxl (show 1 < _ by decide)
  obtain ⟨y2, e2⟩ := at_some hxl (show 2 < _ by decide)
  rw [e0] at h0
  rw [e1] at h1
  rw [e2] at h2
  simp only [cs', cd, cb, List.drop_zero, List.drop_succ_cons, List.take_succ_cons, List.take_zero] at h0 h1 h2
  obtain ⟨sA, sn, sc, ss, q0, hs⟩ := ints_open Try.underlying65 Try.underlying3 ci h0
  obtain ⟨dA, dn, dc, ds, q1, hd⟩ := ints_open Try.underlying38 Try.underlying5 c8 h1
  obtain ⟨j, q2, _⟩ := DataW.trod_bool Try.underlying4 h2
  simp at q0 q1 q2
  subst q0 q1 q2
  have hsl := hs.len
  subst hsl
  exact ⟨⟨ss, dn, j⟩, sA, sc, dA, dc, ds, rfl, hs, hd⟩

set_option maxRecDepth 100000 in
/-- Makings that came in. -/
theorem open_rdM {r : Reach} {b0 : Nat} {v : Value} {d : DataW H} {ps : List MemPlace}
    (hv : Value.okWide Try.prog w r b0 22 v) (h : DataW.Trod enc Try.prog w base spare held 22 v d ps) :
    ∃ A n c ms, v = .slice A n c ∧ RdM w A n ms := by
  obtain ⟨A, n, c, rfl⟩ := okWide_slice Try.underlying22 hv
  obtain ⟨fuel, hf⟩ := h
  have hC : Try.prog.cellsOf 67 = 3 := by kernel_rfl
  rcases open_slice Try.underlying22 hf with ⟨hcs, _⟩ | ⟨a, l, cc, m, n', D, Pl, hcs, _, hl, _, hm, _, hat⟩
  · simp [Value.cells] at hcs
    obtain ⟨rfl, rfl, rfl⟩ := hcs
    exact ⟨none, 0, 0, [], rfl, ⟨rfl, fun h => by omega⟩⟩
  · simp [Value.cells] at hcs
    obtain ⟨rfl, rfl, rfl⟩ := hcs
    rw [hC] at hat
    have hnm : n ≤ m := by rw [hm]; split <;> omega
    obtain ⟨ms, hul, hus⟩ := chosenG (n := n) (Q := fun i (y : Md) => ∃ (sA : Option Addr) (sc : Nat) (dA : Option Addr) (dc : Nat) (ds : List Int), w.cells? base (a.add (i * 3)) 3 = some [.slice sA y.str.length sc, .slice dA y.nd dc, .bool y.junk] ∧ RdJ .i64 w sA y.str.length y.str ∧ RdJ .u8 w dA y.nd ds) fun i hi => by
      obtain ⟨cs', h1, h2⟩ := hat i (by omega)
      obtain ⟨y, sA, sc, dA, dc, ds, rfl, h3, h4⟩ := made_cells h2
      exact ⟨y, sA, sc, dA, dc, ds, h1, h3, h4⟩
    refine ⟨some a, n, c, ms, rfl, ⟨hul, fun h0 => ?_⟩⟩
    obtain ⟨b, off, spot⟩ := a
    have hspot : spot = none := by
      obtain ⟨_, _, _, _, _, h1, _⟩ := hus 0 (by omega)
      have := cellsN h1 0 (by simp)
      have := World.cell?_spot this
      simpa [Addr.add] using this
    subst hspot
    refine ⟨b, off, rfl, fun i hi => ?_⟩
    obtain ⟨sA, sc, dA, dc, ds, h1, h3, h4⟩ := hus i hi
    have hc := cellsN h1
    have e0 := hc 0 (by simp)
    have e1 := hc 1 (by simp)
    have e2 := hc 2 (by simp)
    simp only [add_none] at e0 e1 e2
    exact ⟨sA, sc, dA, dc, ds, e0, e1, e2, h3, h4⟩
end
end Go.Proofs.Ytjalhcfphhdcbaa
