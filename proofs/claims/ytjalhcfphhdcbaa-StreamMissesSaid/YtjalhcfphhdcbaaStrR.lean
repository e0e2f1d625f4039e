/- A view that came in, read. -/
import Derived.Test.YtjalhcfphhdcbaaStrE
import Derived.Test.YtjalhcfphhdcbaaRd
import Derived.Deep.Slices
set_option linter.unusedVariables false
set_option linter.unusedSimpArgs false
namespace Go.Proofs.Ytjalhcfphhdcbaa
open Go.RowKit Go.ChangeShapes Go.WideShapes Go.ChangeAt Go.Deep

section
variable {H : Type} {enc : TypeId × Value → H} {w : World} {base : Nat} {spare : Nat → Bool} {held : Bool}

theorem cellsN {a : Addr} {k : Nat} {cs : List Value} (h : w.cells? base a k = some cs) : ∀ j (hj : j < cs.length), w.cell? (a.add j) = some cs[j] := by
  obtain ⟨_, hcl, hat⟩ := World.cells?_some h
  intro j hj
  rw [hat j (by omega)]
  simp [hj]
theorem add_none (b off j : Nat) : (⟨b, off, none⟩ : Addr).add j = ⟨b, off + j, none⟩ := by unfold Addr.add; split <;> simp_all

theorem u64_pos {x : Int} (h : (Lit.int .u64 x).wf = true) : 0 ≤ x := by
  simp [Lit.wf, IntKind.min, IntKind.max, IntKind.signed, IntKind.bits] at h
  omega
theorem at_some {α : Type} {xs : List α} {n i : Nat} (h : xs.length = n) (hi : i < n) : ∃ y, xs[i]? = some y := ⟨xs[i], by simp [h, hi]⟩

theorem pair_cells {fuel : Nat} {cs : List Value} {x : DataW H × List MemPlace} (h : DataW.trod enc Try.prog w base spare held fuel 29 cs = some x) :
    ∃ a b, cs = [.int .u64 a, .int .u64 b] ∧ 0 ≤ a ∧ 0 ≤ b := by
  obtain ⟨xs, n, _, rfl, hl, hxl, hf⟩ := DataW.trod_array Try.underlying29 h
  have hc : Try.prog.cellsOf 29 = 2 := by kernel_rfl
  have ci : Try.prog.cellsOf 23 = 1 := by kernel_rfl
  rw [hc] at hl
  obtain ⟨c0, c1, rfl⟩ : ∃ c0 c1, cs = [c0, c1] := by
    rcases cs with _ | ⟨c0, _ | ⟨c1, _ | ⟨c2, cs⟩⟩⟩ <;> simp at hl
    exact ⟨_, _, rfl⟩
  have h0 := hf 0 (by omega)
  have h1 := hf 1 (by omega)
  obtain ⟨y0, e0⟩ := at_some hxl (by omega : 0 < 2)
  obtain ⟨y1, e1⟩ := at_some hxl (by omega : 1 < 2)
  rw [e0] at h0
  rw [e1] at h1
  simp only [ci, Nat.zero_mul, Nat.one_mul, List.drop_zero, List.drop_succ_cons, List.take_succ_cons, List.take_zero] at h0 h1
  obtain ⟨a, q0, _, w0⟩ := DataW.trod_int Try.underlying23 h0
  obtain ⟨b, q1, _, w1⟩ := DataW.trod_int Try.underlying23 h1
  simp at q0 q1
  subst q0 q1
  exact ⟨a, b, rfl, u64_pos w0, u64_pos w1⟩

theorem back_cells {fuel : Nat} {cs : List Value} {x : DataW H × List MemPlace} (h : DataW.trod enc Try.prog w base spare held fuel 69 cs = some x) :
    ∃ k : Bk, cs = [.int .i64 k.s, .int .u64 k.a, .int .u64 k.b] ∧ 0 ≤ k.a ∧ 0 ≤ k.b := by
  obtain ⟨xs, n, _, rfl, hl, hxl, hf⟩ := DataW.trod_struct Try.underlying69 h
  have hc : Try.prog.cellsOf 69 = 3 := by kernel_rfl
  have ci : Try.prog.cellsOf 3 = 1 := by kernel_rfl
  have cp : Try.prog.cellsOf 29 = 2 := by kernel_rfl
  rw [hc] at hl
  obtain ⟨c0, c1, c2, rfl⟩ : ∃ c0 c1 c2, cs = [c0, c1, c2] := by
    rcases cs with _ | ⟨c0, _ | ⟨c1, _ | ⟨c2, _ | ⟨c3, cs⟩⟩⟩⟩ <;> simp at hl
    exact ⟨_, _, _, rfl⟩
  have h0 : DataW.trod enc Try.prog w base spare held n 3 (([c0, c1, c2].drop 0).take (Try.prog.cellsOf 3)) = xs[0]? := hf 0 _ rfl
  have h1 : DataW.trod enc Try.prog w base spare held n 29 (([c0, c1, c2].drop 1).take (Try.prog.cellsOf 29)) = xs[1]? := hf 1 _ rfl
  clear hf h
  obtain ⟨y0, e0⟩ := at_some hxl (show 0 < _ by decide)
  obtain ⟨y1, e1⟩ := at_some hxl (show 1 < _ by decide)
  rw [e0] at h0
  rw [e1] at h1
  simp only [ci, cp, List.drop_zero, List.drop_succ_cons, List.take_succ_cons, List.take_zero] at h0 h1
  obtain ⟨s, q0, _, _⟩ := DataW.trod_int Try.underlying3 h0
  obtain ⟨a, b, q1, wa, wb⟩ := pair_cells h1
  simp at q0 q1
  obtain ⟨rfl, rfl⟩ := q1
  subst q0
  exact ⟨⟨s, a, b⟩, rfl, wa, wb⟩

theorem chosenG {α : Type} {n : Nat} {Q : Nat → α → Prop} (h : ∀ i, i < n → ∃ u, Q i u) : ∃ us : List α, us.length = n ∧ ∀ i (hi : i < us.length), Q i us[i] := by
  induction n generalizing Q with
  | zero => exact ⟨[], rfl, fun i hi => absurd hi (by simp)⟩
  | succ n ih =>
    obtain ⟨u, hu⟩ := h 0 (by omega)
    obtain ⟨us, hl, hus⟩ := ih (Q := fun i => Q (i + 1)) fun i hi => h (i + 1) (by omega)
    refine ⟨u :: us, by simp [hl], fun i hi => ?_⟩
    cases i with
    | zero => exact hu
    | succ i => exact hus i (by simp at hi; omega)

/-- A slice of Backs that came in. -/
theorem backs_open {fuel : Nat} {cs : List Value} {x : DataW H × List MemPlace} (h : DataW.trod enc Try.prog w base spare held fuel 39 cs = some x) :
    ∃ A n c bs, cs = [.slice A n c] ∧ RdB w A n bs ∧ ∀ k ∈ bs, 0 ≤ k.a ∧ 0 ≤ k.b := by
  have hC : Try.prog.cellsOf 69 = 3 := by kernel_rfl
  rcases open_slice Try.underlying39 h with ⟨rfl, _⟩ | ⟨a, l, cc, m, n', D, Pl, rfl, _, hl, _, hm, _, hat⟩
  · exact ⟨none, 0, 0, [], rfl, ⟨rfl, fun h => by omega⟩, fun k hk => by simp at hk⟩
  · rw [hC] at hat
    have hnm : l ≤ m := by rw [hm]; split <;> omega
    obtain ⟨bs, hul, hus⟩ := chosenG (n := l) (Q := fun i (k : Bk) => w.cells? base (a.add (i * 3)) 3 = some [.int .i64 k.s, .int .u64 k.a, .int .u64 k.b] ∧ 0 ≤ k.a ∧ 0 ≤ k.b) fun i hi => by
      obtain ⟨cs', h1, h2⟩ := hat i (by omega)
      obtain ⟨k, rfl, wa, wb⟩ := back_cells h2
      exact ⟨k, h1, wa, wb⟩
    refine ⟨some a, l, cc, bs, rfl, ⟨hul, fun h0 => ?_⟩, fun k hk => ?_⟩
    · obtain ⟨b, off, spot⟩ := a
      have hspot : spot = none := by
        have := cellsN (hus 0 (by omega)).1 0 (by simp)
        have := World.cell?_spot this
        simpa [Addr.add] using this
      subst hspot
      refine ⟨b, off, rfl, fun i hi => ?_⟩
      have hc := cellsN (hus i hi).1
      have e0 := hc 0 (by simp)
      have e1 := hc 1 (by simp)
      have e2 := hc 2 (by simp)
      simp only [add_none] at e0 e1 e2
      exact ⟨e0, e1, e2⟩
    · obtain ⟨i, hi, rfl⟩ := List.getElem_of_mem hk
      exact (hus i hi).2

/-- A slot's cells. -/
theorem slot_cells {fuel : Nat} {cs : List Value} {x : DataW H × List MemPlace} (h : DataW.trod enc Try.prog w base spare held fuel 43 cs = some x) :
    ∃ (y : Sl) (dA : Option Addr) (dc : Nat) (A : Option Addr) (n c : Nat), cs = [.int .i64 y.st, .int .i64 y.kind, .slice dA y.nd dc, .slice A n c] ∧ RdB w A n y.bs ∧ ∀ k ∈ y.bs, 0 ≤ k.a ∧ 0 ≤ k.b := by
  obtain ⟨xs, n, _, rfl, hl, hxl, hf⟩ := DataW.trod_struct Try.underlying43 h
  have hc : Try.prog.cellsOf 43 = 4 := by kernel_rfl
  have ci : Try.prog.cellsOf 3 = 1 := by kernel_rfl
  have cc : Try.prog.cellsOf 41 = 3 := by kernel_rfl
  have ck : Try.prog.cellsOf 37 = 1 := by kernel_rfl
  have cd : Try.prog.cellsOf 38 = 1 := by kernel_rfl
  have cb : Try.prog.cellsOf 39 = 1 := by kernel_rfl
  rw [hc] at hl
  obtain ⟨c0, c1, c2, c3, rfl⟩ : ∃ c0 c1 c2 c3, cs = [c0, c1, c2, c3] := by
    rcases cs with _ | ⟨c0, _ | ⟨c1, _ | ⟨c2, _ | ⟨c3, _ | ⟨c4, cs⟩⟩⟩⟩⟩ <;> simp at hl
    exact ⟨_, _, _, _, rfl⟩
  have h0 : DataW.trod enc Try.prog w base spare held n 3 (([c0, c1, c2, c3].drop 0).take (Try.prog.cellsOf 3)) = xs[0]? := hf 0 _ rfl
  have h1 : DataW.trod enc Try.prog w base spare held n 41 (([c0, c1, c2, c3].drop 1).take (Try.prog.cellsOf 41)) = xs[1]? := hf 1 _ rfl
  clear hf h
  obtain ⟨y0, e0⟩ := at_some hxl (show 0 < _ by decide)
  obtain ⟨y1, e1⟩ := at_some hxl (show 1 < _ by decide)
  rw [e0] at h0
  rw [e1] at h1
  simp only [ci, cc, List.drop_zero, List.drop_succ_cons, List.take_succ_cons, List.take_zero] at h0 h1
  obtain ⟨st, q0, _, _⟩ := DataW.trod_int Try.underlying3 h0
  obtain ⟨zs, n2, _, _, hl2, hzl, hf2⟩ := DataW.trod_struct Try.underlying41 h1
  have g0 : DataW.trod enc Try.prog w base spare held n2 37 (([c1, c2, c3].drop 0).take (Try.prog.cellsOf 37)) = zs[0]? := hf2 0 _ rfl
  have g1 : DataW.trod enc Try.prog w base spare held n2 38 (([c1, c2, c3].drop 1).take (Try.prog.cellsOf 38)) = zs[1]? := hf2 1 _ rfl
  have g2 : DataW.trod enc Try.prog w base spare held n2 39 (([c1, c2, c3].drop 2).take (Try.prog.cellsOf 39)) = zs[2]? := hf2 2 _ rfl
  clear hf2
  obtain ⟨z0, f0⟩ := at_some hzl (show 0 < _ by decide)
  obtain ⟨z1, f1⟩ := at_some hzl (show 1 < _ by decide)
  obtain ⟨z2, f2⟩ := at_some hzl (show 2 < _ by decide)
  rw [f0] at g0
  rw [f1] at g1
  rw [f2] at g2
  simp only [ck, cd, cb, List.drop_zero, List.drop_succ_cons, List.take_succ_cons, List.take_zero] at g0 g1 g2
  obtain ⟨kind, q1, _, _⟩ := DataW.trod_int Try.underlying37 g0
  obtain ⟨A, bn, bc, bs, q3, hb, hp⟩ := backs_open g2
  have q2 : ∃ dA nd dc, c2 = .slice dA nd dc := by
    rcases DataW.trod_slice Try.underlying38 g1 with ⟨e, _⟩ | ⟨a, len, cap, _, _, _, _, e, _⟩
    · simp at e; exact ⟨_, _, _, e⟩
    · simp at e; exact ⟨_, _, _, e⟩
  obtain ⟨dA, nd, dc, rfl⟩ := q2
  simp at q0 q1 q3
  subst q0 q1 q3
  exact ⟨⟨st, kind, nd, bs⟩, dA, dc, A, bn, bc, rfl, hb, hp⟩

set_option maxRecDepth 100000 in
/-- A view that came in. -/
theorem open_rdV {r : Reach} {b0 : Nat} {v : Value} {d : DataW H} {ps : List MemPlace}
    (hv : Value.okWide Try.prog w r b0 27 v) (h : DataW.Trod enc Try.prog w base spare held 27 v d ps) :
    ∃ A n c vs, v = .slice A n c ∧ RdV w A n vs ∧ NatV vs := by
  obtain ⟨A, n, c, rfl⟩ := okWide_slice Try.underlying27 hv
  obtain ⟨fuel, hf⟩ := h
  have hC : Try.prog.cellsOf 43 = 4 := by kernel_rfl
  rcases open_slice Try.underlying27 hf with ⟨hcs, _⟩ | ⟨a, l, cc, m, n', D, Pl, hcs, _, hl, _, hm, _, hat⟩
  · simp [Value.cells] at hcs
    obtain ⟨rfl, rfl, rfl⟩ := hcs
    exact ⟨none, 0, 0, [], rfl, ⟨rfl, fun h => by omega⟩, fun x hx => by simp at hx⟩
  · simp [Value.cells] at hcs
    obtain ⟨rfl, rfl, rfl⟩ := hcs
    rw [hC] at hat
    have hnm : n ≤ m := by rw [hm]; split <;> omega
    obtain ⟨vs, hul, hus⟩ := chosenG (n := n) (Q := fun i (y : Sl) => ∃ (dA : Option Addr) (dc : Nat) (A : Option Addr) (n2 c2 : Nat), w.cells? base (a.add (i * 4)) 4 = some [.int .i64 y.st, .int .i64 y.kind, .slice dA y.nd dc, .slice A n2 c2] ∧ RdB w A n2 y.bs ∧ ∀ k ∈ y.bs, 0 ≤ k.a ∧ 0 ≤ k.b) fun i hi => by
      obtain ⟨cs', h1, h2⟩ := hat i (by omega)
      obtain ⟨y, dA, dc, A, n2, c2, rfl, h3, h4⟩ := slot_cells h2
      exact ⟨y, dA, dc, A, n2, c2, h1, h3, h4⟩
    refine ⟨some a, n, c, vs, rfl, ⟨hul, fun h0 => ?_⟩, fun y hy => ?_⟩
    · obtain ⟨b, off, spot⟩ := a
      have hspot : spot = none := by
        obtain ⟨_, _, _, _, _, h1, _⟩ := hus 0 (by omega)
        have := cellsN h1 0 (by simp)
        have := World.cell?_spot this
        simpa [Addr.add] using this
      subst hspot
      refine ⟨b, off, rfl, fun i hi => ?_⟩
      obtain ⟨dA, dc, A, n2, c2, h1, h3, _⟩ := hus i hi
      have hc := cellsN h1
      have e0 := hc 0 (by simp)
      have e1 := hc 1 (by simp)
      have e2 := hc 2 (by simp)
      have e3 := hc 3 (by simp)
      simp only [add_none] at e0 e1 e2 e3
      exact ⟨dA, dc, A, n2, c2, e0, e1, e2, e3, h3⟩
    · obtain ⟨i, hi, rfl⟩ := List.getElem_of_mem hy
      obtain ⟨_, _, _, _, _, _, _, h4⟩ := hus i hi
      exact h4

theorem okWide_array {P : Program} {w : World} {r : Reach} {b0 : Nat} {t : TypeId} {v : Value} {n : Nat} {e : TypeId} (ht : P.underlying t = some (.array n e)) (h : Value.okWide P w r b0 t v) : ∃ cs, v = .agg cs ∧ cs.size = P.cellsOf t := by
  simp only [Value.okWide, ht] at h
  obtain ⟨cs, h1, h2, _⟩ := h
  exact ⟨cs, h1, h2⟩

set_option maxRecDepth 100000 in
/-- Three numbers that came in. -/
theorem open_three {r : Reach} {b0 : Nat} {v : Value} {d : DataW H} {ps : List MemPlace}
    (hv : Value.okWide Try.prog w r b0 24 v) (h : DataW.Trod enc Try.prog w base spare held 24 v d ps) :
    ∃ f0 f1 f2, v = .agg #[.int .u64 f0, .int .u64 f1, .int .u64 f2] ∧ 0 ≤ f0 ∧ 0 ≤ f1 ∧ 0 ≤ f2 := by
  obtain ⟨cs, rfl, hsz⟩ := okWide_array Try.underlying24 hv
  obtain ⟨fuel, hf⟩ := h
  have hcs : (Value.agg cs).cells.toList = cs.toList := rfl
  rw [hcs] at hf
  obtain ⟨xs, n, _, _, hl, hxl, hat⟩ := DataW.trod_array Try.underlying24 hf
  have hc : Try.prog.cellsOf 24 = 3 := by kernel_rfl
  have ci : Try.prog.cellsOf 23 = 1 := by kernel_rfl
  rw [hc] at hl
  obtain ⟨c0, c1, c2, he⟩ : ∃ c0 c1 c2, cs.toList = [c0, c1, c2] := by
    generalize cs.toList = l at hl
    rcases l with _ | ⟨c0, _ | ⟨c1, _ | ⟨c2, _ | ⟨c3, l⟩⟩⟩⟩ <;> simp at hl
    exact ⟨_, _, _, rfl⟩
  rw [he] at hat
  have h0 := hat 0 (by omega)
  have h1 := hat 1 (by omega)
  have h2 := hat 2 (by omega)
  obtain ⟨y0, e0⟩ := at_some hxl (by omega : 0 < 3)
  obtain ⟨y1, e1⟩ := at_some hxl (by omega : 1 < 3)
  obtain ⟨y2, e2⟩ := at_some hxl (by omega : 2 < 3)
  rw [e0] at h0
  rw [e1] at h1
  rw [e2] at h2
  simp only [ci, Nat.zero_mul, Nat.one_mul, Nat.mul_one, List.drop_zero, List.drop_succ_cons, List.take_succ_cons, List.take_zero] at h0 h1 h2
  obtain ⟨a, q0, _, w0⟩ := DataW.trod_int Try.underlying23 h0
  obtain ⟨b, q1, _, w1⟩ := DataW.trod_int Try.underlying23 h1
  obtain ⟨c, q2, _, w2⟩ := DataW.trod_int Try.underlying23 h2
  simp at q0 q1 q2
  subst q0 q1 q2
  have hcs' : cs = #[.int .u64 a, .int .u64 b, .int .u64 c] := Array.toList_inj.1 he
  exact ⟨a, b, c, by rw [hcs'], u64_pos w0, u64_pos w1, u64_pos w2⟩
end
end Go.Proofs.Ytjalhcfphhdcbaa
