/- What came in, read: views of any type made of numbers, bools, texts, slices, structs. -/
import Derived.Test.YtlgimhhhlpmjcaaKit
import Derived.ProofKit
import Derived.OpenShut
import Derived.ShutString
import Derived.ChangeOld
import Derived.Deep.Slices
set_option linter.unusedVariables false
set_option linter.unusedSimpArgs false
namespace Go.Proofs.Ytlgimhhhlpmjcaa
open Go.RowKit Go.ChangeShapes Go.WideShapes Go.ChangeAt Go.Deep

theorem cellsN {base : Nat} {w : World} {a : Addr} {k : Nat} {cs : List Value} (h : w.cells? base a k = some cs) : ∀ j (hj : j < cs.length), w.cell? (a.add j) = some cs[j] := by
  obtain ⟨_, hcl, hat⟩ := World.cells?_some h
  intro j hj
  rw [hat j (by omega)]
  simp [hj]
theorem add_none (b off j : Nat) : (⟨b, off, none⟩ : Addr).add j = ⟨b, off + j, none⟩ := by unfold Addr.add; split <;> simp_all
theorem at_some {α : Type} {xs : List α} {n i : Nat} (h : xs.length = n) (hi : i < n) : ∃ y, xs[i]? = some y := ⟨xs[i], by simp [h, hi]⟩
theorem chosenG {α : Type} {n : Nat} {Q : Nat → α → Prop} (h : ∀ i, i < n → ∃ u, Q i u) : ∃ us : List α, us.length = n ∧ ∀ i (hi : i < us.length), Q i us[i] := by
  induction n generalizing Q with
  | zero => exact ⟨[], rfl, fun i hi => absurd hi (by simp)⟩
  | succ n ih =>
    obtain ⟨u, hu⟩ := h 0 (by omega)
    obtain ⟨us, hl, hus⟩ := ih (Q := fun i => Q (i + 1)) fun i hi => h (i + 1) (by omega)
    refine ⟨u :: us, by simp [hl], fun i hi => ?_⟩
    cases i with
    | zero => exact hu
    | succ i => exact hus i (by simp at hi; omega)

/-- How a datum reads in cells. -/
abbrev View (α : Type) := World → List Value → α → Prop
/-- A type, read by a view. -/
structure Vw {α : Type} (t : TypeId) (K : Nat) (C : View α) : Prop where
  cells : Try.prog.cellsOf t = K
  mono : ∀ {w w' : World} {cs : List Value} {x : α}, C w cs x → Below w.heap.size w w' → C w' cs x
  len : ∀ {w : World} {cs : List Value} {x : α}, C w cs x → cs.length = K
  opens : ∀ {H : Type} {enc : TypeId × Value → H} {w : World} {base : Nat} {spare : Nat → Bool} {held : Bool} {fuel : Nat} {cs : List Value} {x : DataW H × List MemPlace}, DataW.trod enc Try.prog w base spare held fuel t cs = some x → ∃ y, C w cs y

def intV (k : IntKind) : View Int := fun _ cs x => cs = [.int k x] ∧ (Lit.int k x).wf = true
theorem Vw.int {t : TypeId} {k : IntKind} (ht : Try.prog.underlying t = some (.int k)) (hc : Try.prog.cellsOf t = 1) : Vw t 1 (intV k) :=
  ⟨hc, fun h _ => h, fun h => by rw [h.1]; rfl, fun h => by obtain ⟨x, e, _, hw⟩ := DataW.trod_int ht h; exact ⟨x, e, hw⟩⟩
def boolV : View Bool := fun _ cs x => cs = [.bool x]
theorem Vw.bool {t : TypeId} (ht : Try.prog.underlying t = some .bool) (hc : Try.prog.cellsOf t = 1) : Vw t 1 boolV :=
  ⟨hc, fun h _ => h, fun h => by rw [h]; rfl, fun h => by obtain ⟨x, e, _⟩ := DataW.trod_bool ht h; exact ⟨x, e⟩⟩
def strV : View ByteArray := fun _ cs x => cs = [.string x] ∧ x.size ≤ maxLen
theorem Vw.str {t : TypeId} (ht : Try.prog.underlying t = some .string) (hc : Try.prog.cellsOf t = 1) : Vw t 1 strV :=
  ⟨hc, fun h _ => h, fun h => by rw [h.1]; rfl, fun h => by obtain ⟨x, e, _, hw⟩ := DataW.trod_string ht h; exact ⟨x, e, hw⟩⟩

/-- A slice, read. -/
structure RdL {α : Type} (C : View α) (K : Nat) (w : World) (A : Option Addr) (n : Nat) (xs : List α) : Prop where
  len : xs.length = n
  at' : 0 < n → ∃ b off, A = some ⟨b, off, none⟩ ∧ ∀ i (h : i < xs.length), ∃ cs, C w cs xs[i] ∧ ∀ j (h : j < cs.length), w.cell? ⟨b, off + i * K + j, none⟩ = some cs[j]
theorem RdL.below {α : Type} {t : TypeId} {C : View α} {K : Nat} {w w' : World} {A : Option Addr} {n : Nat} {xs : List α} (h : RdL C K w A n xs) (V : Vw t K C) (hb : Below w.heap.size w w') : RdL C K w' A n xs :=
  ⟨h.len, fun hn => by
    obtain ⟨b, off, e, hc⟩ := h.at' hn
    refine ⟨b, off, e, fun i hi => ?_⟩
    obtain ⟨cs, h1, h2⟩ := hc i hi
    refine ⟨cs, V.mono h1 hb, fun j hj => ?_⟩
    rw [← h2 j hj]
    exact hb.cell (World.block_lt_of_cell? w _ (h2 j hj))⟩
theorem RdL.nil {α : Type} (C : View α) (K : Nat) (w : World) (A : Option Addr) : RdL C K w A 0 [] := ⟨rfl, fun h => by omega⟩
def slV {α : Type} (C : View α) (K : Nat) : View (List α) := fun w cs xs => ∃ A c, cs = [.slice A xs.length c] ∧ RdL C K w A xs.length xs
theorem Vw.sl {α : Type} {t e : TypeId} {K : Nat} {C : View α} (ht : Try.prog.underlying t = some (.slice e)) (hc : Try.prog.cellsOf t = 1) (V : Vw e K C) (hK : 0 < K) : Vw t 1 (slV C K) := by
  refine ⟨hc, ?_, ?_, ?_⟩
  · rintro w w' cs x ⟨A, c, rfl, h⟩ hb
    exact ⟨A, c, rfl, h.below V hb⟩
  · rintro w cs x ⟨A, c, rfl, h⟩
    rfl
  · intro H enc w base spare held fuel cs x h
    rcases open_slice ht h with ⟨rfl, _⟩ | ⟨a, l, cc, m, n', D, Pl, rfl, _, hl, _, hm, _, hat⟩
    · exact ⟨[], none, 0, rfl, RdL.nil _ _ _ _⟩
    · rw [V.cells] at hat
      have hnm : l ≤ m := by rw [hm]; split <;> omega
      obtain ⟨ys, hul, hus⟩ := chosenG (n := l) (Q := fun i (y : α) => ∃ cs', w.cells? base (a.add (i * K)) K = some cs' ∧ C w cs' y) fun i hi => by
        obtain ⟨cs', h1, h2⟩ := hat i (by omega)
        obtain ⟨y, hy⟩ := V.opens h2
        exact ⟨y, cs', h1, hy⟩
      refine ⟨ys, some a, cc, by rw [hul], ⟨rfl, fun h0 => ?_⟩⟩
      obtain ⟨b, off, spot⟩ := a
      have hspot : spot = none := by
        obtain ⟨cs', h1, hC⟩ := hus 0 h0
        have := cellsN h1 0 (by rw [V.len hC]; exact hK)
        have := World.cell?_spot this
        simpa [Addr.add] using this
      subst hspot
      refine ⟨b, off, rfl, fun i hi => ?_⟩
      obtain ⟨cs', h1, hC⟩ := hus i hi
      refine ⟨cs', hC, fun j hj => ?_⟩
      have := cellsN h1 j hj
      simpa only [add_none] using this

/-- Fields, one behind the other. -/
def nilV : View Unit := fun _ cs _ => cs = []
def consV {α β : Type} (C : View α) (D : View β) : View (α × β) := fun w cs x => ∃ c d, cs = c ++ d ∧ C w c x.1 ∧ D w d x.2
structure Fl {β : Type} (fs : List Field) (off K : Nat) (C : View β) : Prop where
  mono : ∀ {w w' : World} {cs : List Value} {x : β}, C w cs x → Below w.heap.size w w' → C w' cs x
  len : ∀ {w : World} {cs : List Value} {x : β}, C w cs x → cs.length = K
  opens : ∀ {H : Type} {enc : TypeId × Value → H} {w : World} {base : Nat} {spare : Nat → Bool} {held : Bool} {fuel : Nat} {cs : List Value}, cs.length = off + K →
    (∀ f ∈ fs, ∃ y, DataW.trod enc Try.prog w base spare held fuel f.type ((cs.drop f.offset).take (Try.prog.cellsOf f.type)) = some y) → ∃ y, C w (cs.drop off) y
theorem Fl.nil (off : Nat) : Fl [] off 0 nilV :=
  ⟨fun h _ => h, fun h => by rw [h]; rfl, fun h _ => ⟨(), List.drop_of_length_le (by omega)⟩⟩
theorem Fl.cons {α β : Type} {f : Field} {fs : List Field} {off K L : Nat} {C : View α} {D : View β} (ho : f.offset = off) (V : Vw f.type K C) (F : Fl fs (off + K) L D) : Fl (f :: fs) off (K + L) (consV C D) := by
  refine ⟨?_, ?_, ?_⟩
  · rintro w w' cs x ⟨c, d, rfl, h1, h2⟩ hb
    exact ⟨c, d, rfl, V.mono h1 hb, F.mono h2 hb⟩
  · rintro w cs x ⟨c, d, rfl, h1, h2⟩
    rw [List.length_append, V.len h1, F.len h2]
  · intro H enc w base spare held fuel cs hl h
    obtain ⟨x0, hx0⟩ := h f (by simp)
    obtain ⟨y, hy⟩ := V.opens hx0
    obtain ⟨z, hz⟩ := F.opens (cs := cs) (by omega) (fun g hg => h g (by simp [hg]))
    rw [V.cells, ho] at hy
    refine ⟨(y, z), (cs.drop off).take K, cs.drop (off + K), ?_, hy, hz⟩
    rw [← List.drop_drop, List.take_append_drop]
theorem Vw.st {β : Type} {t : TypeId} {fs : Array Field} {K : Nat} {C : View β} (ht : Try.prog.underlying t = some (.struct fs)) (hc : Try.prog.cellsOf t = K) (F : Fl fs.toList 0 K C) : Vw t K C := by
  refine ⟨hc, F.mono, F.len, ?_⟩
  intro H enc w base spare held fuel cs x h
  obtain ⟨xs, n, _, rfl, hl, hxl, hf⟩ := DataW.trod_struct ht h
  have := F.opens (enc := enc) (w := w) (base := base) (spare := spare) (held := held) (fuel := n) (cs := cs) (by omega) (fun f hm => by
    obtain ⟨i, hi, rfl⟩ := List.getElem_of_mem hm
    have hi' : i < xs.length := by rw [hxl]; simpa using hi
    refine ⟨xs[i], ?_⟩
    rw [hf i _ (by simp at hi ⊢)]
    simp [hi'])
  simpa using this
/-- An array of two. -/
theorem Vw.arr2 {α : Type} {t e : TypeId} {K : Nat} {C : View α} (ht : Try.prog.underlying t = some (.array 2 e)) (hc : Try.prog.cellsOf t = K + (K + 0)) (V : Vw e K C) : Vw t (K + (K + 0)) (consV C (consV C nilV)) := by
  refine ⟨hc, ?_, ?_, ?_⟩
  · rintro w w' cs x ⟨c, d, rfl, h1, c', d', rfl, h2, rfl⟩ hb
    exact ⟨c, _, rfl, V.mono h1 hb, c', _, rfl, V.mono h2 hb, rfl⟩
  · rintro w cs x ⟨c, d, rfl, h1, c', d', rfl, h2, rfl⟩
    rw [List.length_append, List.length_append, V.len h1, V.len h2]; rfl
  · intro H enc w base spare held fuel cs x h
    obtain ⟨xs, n, _, rfl, hl, hxl, hf⟩ := DataW.trod_array ht h
    have h0 := hf 0 (by omega)
    have h1 := hf 1 (by omega)
    obtain ⟨y0, e0⟩ := at_some hxl (by omega : 0 < 2)
    obtain ⟨y1, e1⟩ := at_some hxl (by omega : 1 < 2)
    rw [e0] at h0
    rw [e1] at h1
    rw [V.cells] at h0 h1
    obtain ⟨a, ha⟩ := V.opens h0
    obtain ⟨b, hb⟩ := V.opens h1
    rw [hc] at hl
    refine ⟨(a, b, ()), List.take K (cs.drop (0 * K)), cs.drop K, ?_, ha, (cs.drop (1 * K)).take K, [], ?_, hb, rfl⟩
    · simp
    · rw [List.append_nil, Nat.one_mul, List.take_of_length_le (by simp; omega)]

set_option maxRecDepth 100000 in
/-- A parameter, read. -/
theorem Vw.open {α : Type} {t : TypeId} {K : Nat} {C : View α} (V : Vw t K C) {H : Type} {enc : TypeId × Value → H} {w : World} {base : Nat} {spare : Nat → Bool} {held : Bool} {v : Value} {d : DataW H} {ps : List MemPlace}
    (h : DataW.Trod enc Try.prog w base spare held t v d ps) : ∃ y, C w v.cells.toList y := by
  obtain ⟨fuel, hf⟩ := h
  exact V.opens hf
set_option maxRecDepth 100000 in
/-- A slice that came in. -/
theorem Vw.openSl {α : Type} {t e : TypeId} {K : Nat} {C : View α} (V : Vw e K C) (hK : 0 < K) (ht : Try.prog.underlying t = some (.slice e)) (hc : Try.prog.cellsOf t = 1) {H : Type} {enc : TypeId × Value → H} {w : World} {base : Nat} {spare : Nat → Bool} {held : Bool} {r : Reach} {b0 : Nat} {v : Value} {d : DataW H} {ps : List MemPlace}
    (hv : Value.okWide Try.prog w r b0 t v) (h : DataW.Trod enc Try.prog w base spare held t v d ps) : ∃ A n c xs, v = .slice A n c ∧ RdL C K w A n xs := by
  obtain ⟨A, n, c, rfl⟩ := okWide_slice ht hv
  obtain ⟨xs, A', c', e, hr⟩ := (Vw.sl ht hc V hK).open h
  simp [Value.cells] at e
  obtain ⟨rfl, rfl, rfl⟩ := e
  exact ⟨_, _, _, xs, rfl, hr⟩
set_option maxRecDepth 100000 in
/-- A struct that came in. -/
theorem Vw.openSt {α : Type} {t : TypeId} {fs : Array Field} {K : Nat} {C : View α} (V : Vw t K C) (ht : Try.prog.underlying t = some (.struct fs)) {H : Type} {enc : TypeId × Value → H} {w : World} {base : Nat} {spare : Nat → Bool} {held : Bool} {r : Reach} {b0 : Nat} {v : Value} {d : DataW H} {ps : List MemPlace}
    (hv : Value.okWide Try.prog w r b0 t v) (h : DataW.Trod enc Try.prog w base spare held t v d ps) : ∃ cs y, v = .agg cs.toArray ∧ C w cs y := by
  obtain ⟨cs, rfl, _⟩ := okWide_struct ht hv
  obtain ⟨y, hy⟩ := V.open h
  exact ⟨cs.toList, y, by simp, by simpa [Value.cells] using hy⟩
set_option maxRecDepth 100000 in
theorem okWide_arr {n : Nat} {e t : TypeId} {w : World} {r : Reach} {base : Nat} {v : Value} (ht : Try.prog.underlying t = some (.array n e)) (h : Value.okWide Try.prog w r base t v) : ∃ cs, v = .agg cs := by
  simp only [Value.okWide, ht] at h
  obtain ⟨cs, h1, h2, _⟩ := h
  exact ⟨cs, h1⟩
set_option maxRecDepth 100000 in
/-- An array of two that came in. -/
theorem Vw.openArr {α : Type} {t e : TypeId} {n K : Nat} {C : View α} (V : Vw t K C) (ht : Try.prog.underlying t = some (.array n e)) {H : Type} {enc : TypeId × Value → H} {w : World} {base : Nat} {spare : Nat → Bool} {held : Bool} {r : Reach} {b0 : Nat} {v : Value} {d : DataW H} {ps : List MemPlace}
    (hv : Value.okWide Try.prog w r b0 t v) (h : DataW.Trod enc Try.prog w base spare held t v d ps) : ∃ cs y, v = .agg cs.toArray ∧ C w cs y := by
  obtain ⟨cs, rfl⟩ := okWide_arr ht hv
  obtain ⟨y, hy⟩ := V.open h
  exact ⟨cs.toList, y, by simp, by simpa [Value.cells] using hy⟩

/-- Elements of one cell: the cell of each. -/
theorem RdL.cell {k : IntKind} {w : World} {A : Option Addr} {n : Nat} {xs : List Int} (h : RdL (intV k) 1 w A n xs) (hn : 0 < n) : ∃ b off, A = some ⟨b, off, none⟩ ∧ ∀ i (h : i < xs.length), w.cell? ⟨b, off + i, none⟩ = some (.int k xs[i]) := by
  obtain ⟨b, off, e, hc⟩ := h.at' hn
  refine ⟨b, off, e, fun i hi => ?_⟩
  obtain ⟨cs, ⟨rfl, _⟩, h2⟩ := hc i hi
  simpa using h2 0 (by simp)
theorem RdL.cellB {w : World} {A : Option Addr} {n : Nat} {xs : List Bool} (h : RdL boolV 1 w A n xs) (hn : 0 < n) : ∃ b off, A = some ⟨b, off, none⟩ ∧ ∀ i (h : i < xs.length), w.cell? ⟨b, off + i, none⟩ = some (.bool xs[i]) := by
  obtain ⟨b, off, e, hc⟩ := h.at' hn
  refine ⟨b, off, e, fun i hi => ?_⟩
  obtain ⟨cs, rfl, h2⟩ := hc i hi
  simpa using h2 0 (by simp)
theorem RdL.wf {k : IntKind} {w : World} {A : Option Addr} {n : Nat} {xs : List Int} (h : RdL (intV k) 1 w A n xs) : ∀ x ∈ xs, (Lit.int k x).wf = true := by
  intro x hx
  obtain ⟨i, hi, rfl⟩ := List.getElem_of_mem hx
  obtain ⟨b, off, e, hc⟩ := h.at' (by rw [← h.len]; omega)
  obtain ⟨cs, ⟨_, hw⟩, _⟩ := hc i hi
  exact hw
theorem byte_wf {x : Int} (h : (Lit.int .u8 x).wf = true) : 0 ≤ x ∧ x < 256 := by
  have e1 : IntKind.u8.min = 0 := by decide
  have e2 : IntKind.u8.max = 255 := by decide
  simp only [Lit.wf, e1, e2] at h
  simp at h; omega
end Go.Proofs.Ytlgimhhhlpmjcaa
