/- The disk: Dirty, Fill. -/
import Derived.Test.YtlgimhhhlpmjcaaDskB
import Derived.Test.YtlgimhhhlpmjcaaIter
set_option linter.unusedVariables false
set_option linter.unusedSimpArgs false
namespace Go.Proofs.Ytlgimhhhlpmjcaa
open Go.RowKit Go.Maps Go.WideMaps Go.Shelf

/-- Those that are not safe, as Go's ints. -/
def dirtyI (n : Nat) (df : Int → Option Sec) : List Int := (dirtyN n df).map fun (i : Nat) => (i : Int)
theorem dirtyI_len (n : Nat) (df : Int → Option Sec) : (dirtyI n df).length = (dirtyN n df).length := by simp [dirtyI]
theorem dirtyN_le (n : Nat) (df : Int → Option Sec) : (dirtyN n df).length ≤ n := by
  have := List.length_filter_le (isD df) (List.range n)
  simpa [dirtyN] using this
theorem dirtyI_sorted (n : Nat) (df : Int → Option Sec) : (dirtyI n df).mergeSort (fun x y => decide (x ≤ y)) = dirtyI n df := by
  refine List.mergeSort_of_pairwise ?_
  unfold dirtyI
  rw [List.pairwise_map]
  have : (List.range n).Pairwise (fun a b => a < b) := List.pairwise_lt_range
  refine (this.filter _).imp fun {a b} hab => ?_
  simp only [decide_eq_true_eq]; omega
theorem dirty_perm {w : World} {mb N n : Nat} {df : Int → Option Sec} {D : DataW Unit} (h1 : w.ownsMap Try.prog 3 RS mb N D) (h3 : ∀ x, Maps.has D (.int .i64 x) = (df x).isSome)
    (hs : ∀ x s, df x = some s → 0 ≤ x ∧ x < (n : Int)) : (dirtyI n df).Perm (intKeys D) := by
  obtain ⟨l, rfl, e2, e3⟩ := h1.entries (int_keyed Try.underlying3)
  refine perm_intKeys e2 ?_ ?_ ?_
  · intro p hp
    obtain ⟨es, clock, hb, F, hsz, hD⟩ := h1
    injection hD with hD
    rw [hD] at hp
    obtain ⟨x, hx, rfl⟩ := List.mem_map.1 (mem_sorted.1 hp)
    obtain ⟨y, hy⟩ := F.reads x hx
    rw [WideElems.rg_of hy]
    obtain ⟨z, _, hz, _⟩ := Maps.keyOf_int_inv Try.underlying3 (WideElems.rd_key hy)
    exact ⟨z, hz⟩
  · unfold dirtyI List.Nodup
    rw [List.pairwise_map]
    have : (List.range n).Pairwise (fun a b => a < b) := List.pairwise_lt_range
    refine (this.filter _).imp fun {a b} hab => ?_
    omega
  · intro x
    rw [h3 x]
    unfold dirtyI
    rw [List.mem_map]
    constructor
    · rintro ⟨i, hi, rfl⟩
      exact (mem_dirtyN.1 hi).2
    · intro hx
      obtain ⟨s, hs'⟩ := Option.isSome_iff_exists.1 hx
      obtain ⟨a, b⟩ := hs x s hs'
      refine ⟨x.toNat, mem_dirtyN.2 ⟨by omega, ?_⟩, by omega⟩
      unfold isD
      rw [show ((x.toNat : Nat) : Int) = x by omega]; exact hx

/-- What Dirty tells. -/
def DirtyPost (w : World) (n : Nat) (df : Int → Option Sec) (e : Ending) (w' : World) : Prop :=
  ∃ a c, e = .returned (.slice a (dirtyI n df).length c) ∧ w'.ownsRow w.heap.size 3 1 (.slice a (dirtyI n df).length c) (dirtyI n df).length ((dirtyI n df).map (Value.int .i64)) ∧ Below w.heap.size w w'
theorem row_form {w : World} {base e size n : Nat} {v : Value} {xs : List Value} (h : w.ownsRow base e size v n xs) : ∃ a c, v = .slice a n c := by
  rcases h.2 with ⟨rfl, rfl⟩ | ⟨g, cap, cur, rfl, _⟩
  · exact ⟨_, _, rfl⟩
  · exact ⟨_, _, rfl⟩
set_option maxRecDepth 100000 in
theorem dirty_any (d sb mb n : Nat) (sf : List Sec) (df : Int → Option Sec) (w : World) (h : DiskIs w d sb mb n sf df) :
    Calls Try.prog 41 #[.pointer (some ⟨d, 0, none⟩)] w (DirtyPost w n df) := by
  obtain ⟨cap, hb⟩ := h.blk
  have c1 := hb.cell 1
  simp at c1
  have hn := h.small
  obtain ⟨D, h1, h2, h3⟩ := h.map
  have hperm := dirty_perm h1 (fun x => (h3 x).1) (fun x s hx => ⟨(h.sup x s hx).1, (h.sup x s hx).2.1⟩)
  have hsize : Maps.size D ≤ n := h1.size_le
  have H1 := Lib.hid h1; have HP := Lib.hid hperm
  clear h h1 h2 h3 hb hperm
  go_enter Try.func41, Try.ntmps41
  go_wp2_with fail
  refine (callsIn_wide.1 (Try.maps_Keys_66 (some mb) w)).mono ?_
  rintro e w1 ⟨rfl, rfl⟩
  go_wp2_with fail
  refine (callsIn_wide.1 (Try.slices_Sorted_keys_65_66 mb n D _ w H1.out (by unfold maxLen; omega) (by omega))).mono ?_
  rintro e w2 ⟨v, ss, rfl, hpm, hrow, _, hb2⟩
  have e0 : ss.mergeSort (fun x y => decide (x ≤ y)) = dirtyI n df := by
    rw [← dirtyI_sorted]
    exact mergeSort_of_perm_i (hpm.trans HP.out.symm)
  have e1 : ss.length = (dirtyI n df).length := by rw [(hpm.trans HP.out.symm).length_eq]
  rw [e0, e1] at hrow
  obtain ⟨a, c, rfl⟩ := row_form hrow
  have R := Lib.hid hrow; have B := Lib.hid hb2; clear hrow hb2 e0 e1 hpm
  go_wp2
  go_ret
  refine ⟨a, c, rfl, ownsRow_base R.out (by simp), ?_⟩
  exact ((Below.refl w.heap.size w).alloc (Nat.le_refl _) (.cells #[.map (some mb)] 85)).trans (B.out.mono (B' := w.heap.size) (by simp))
theorem dirty_nil (w : World) :
    Calls Try.prog 41 #[.pointer none] w fun e w' => e = .returned (.slice none 0 0) ∧ w' = w := by
  go_enter Try.func41, Try.ntmps41
  go_wp2
  go_ret
  exact ⟨rfl, rfl⟩
end Go.Proofs.Ytlgimhhhlpmjcaa
