/- The disk: by any place; a live disk. -/
import Derived.Test.YtlgimhhhlpmjcaaDskC
import Derived.Test.YtlgimhhhlpmjcaaDskD
import Derived.Test.YtlgimhhhlpmjcaaDskE
import Derived.Test.YtlgimhhhlpmjcaaDskG
import Derived.Lib.SlBytesConst
import Derived.Laws.BytesArg
set_option linter.unusedVariables false
set_option linter.unusedSimpArgs false
namespace Go.Proofs.Ytlgimhhhlpmjcaa
open Go.RowKit Go.Maps Go.WideMaps Go.Shelf

/-- Is there such a sector? -/
def inD (n : Nat) (i : Int) : Bool := decide (0 ≤ i) && decide (i < (n : Int))
theorem inD_true {n : Nat} {i : Int} (h : inD n i = true) : ∃ k : Nat, i = k ∧ k < n := by
  unfold inD at h
  rw [Bool.and_eq_true, decide_eq_true_eq, decide_eq_true_eq] at h
  exact ⟨i.toNat, by omega, by omega⟩
theorem inD_false {n : Nat} {i : Int} (h : inD n i = false) : i < 0 ∨ (n : Int) ≤ i := by
  unfold inD at h
  rw [Bool.and_eq_false_iff, decide_eq_false_iff_not, decide_eq_false_iff_not] at h
  omega
theorem inD_of {n : Nat} {i : Int} (h0 : 0 ≤ i) (h1 : i < n) : inD n i = true := by simp [inD, h0, h1]
def errD (n : Nat) (i : Int) : Int := if inD n i then 0 else 41
def wrD (n : Nat) (df : Int → Option Sec) (i : Int) (s : Sec) : Int → Option Sec := if inD n i then putL df i s else df
def rdD (n : Nat) (sf : List Sec) (df : Int → Option Sec) (i : Int) : Sec := if inD n i then curS sf df i.toNat else zsec

def WritePost2 (w : World) (d sb mb n : Nat) (sf : List Sec) (df : Int → Option Sec) (x : Int) (e : Ending) (w' : World) : Prop :=
  e = .returned (.int .i64 x) ∧ DiskIs w' d sb mb n sf df ∧ w.grownBy w' (some mb)
theorem write_any (d sb mb n : Nat) (sf : List Sec) (df : Int → Option Sec) (i : Int) (s : Sec) (w : World) (h : DiskIs w d sb mb n sf df) (hs : s.length = 64) :
    Calls Try.prog 30 #[.pointer (some ⟨d, 0, none⟩), .int .i64 i, .agg (sc s).toArray] w (WritePost2 w d sb mb n sf (wrD n df i s) (errD n i)) := by
  unfold errD wrD
  cases hi : inD n i with
  | true =>
    obtain ⟨k, rfl, hk⟩ := inD_true hi
    exact (write_in d sb mb n sf df k s w h hk hs).mono fun e w' h => h
  | false =>
    refine (write_out d sb mb n sf df i s w h (inD_false hi) hs).mono ?_
    rintro e w' ⟨rfl, hb⟩
    exact ⟨rfl, h.below hb, grownBy_of_below hb _⟩
theorem read_any (d sb mb n : Nat) (sf : List Sec) (df : Int → Option Sec) (i : Int) (w : World) (h : DiskIs w d sb mb n sf df) :
    Calls Try.prog 39 #[.pointer (some ⟨d, 0, none⟩), .int .i64 i] w (ReadPost w (rdD n sf df i) (errD n i)) := by
  unfold errD rdD
  cases hi : inD n i with
  | true =>
    obtain ⟨k, rfl, hk⟩ := inD_true hi
    exact read_in d sb mb n sf df k w h hk
  | false => exact read_out d sb mb n sf df i w h (inD_false hi)

/-- Bytes written as a literal. -/
theorem litBytes (W : World) (xs : List Int) (n : Nat) (hn : xs.length = n) (fr : Nat × Nat) : RdU8 (W.alloc (.cells (sc xs).toArray 5 fr)) (some ⟨W.heap.size, 0, none⟩) n xs :=
  ⟨hn, fun _ => ⟨W.heap.size, 0, rfl, by simp, fun i hi => by
    rw [cell_of_row _ _ _ _ _ _ (heap_alloc_new W _)]
    simp [sc, hi]⟩⟩
theorem litBools (W : World) (xs : List Bool) (n : Nat) (hn : xs.length = n) : RdBo (W.alloc (.cells (xs.map Value.bool).toArray 4)) (some ⟨W.heap.size, 0, none⟩) n xs :=
  ⟨hn, fun _ => ⟨W.heap.size, 0, rfl, by simp, fun i hi => by
    rw [cell_of_row _ _ _ _ _ _ (heap_alloc_new W _)]
    simp [hi]⟩⟩
theorem sec_string {W : World} {g T m c : Nat} {s : Sec} (h : Blk W g (sc s).toArray T) (hm : m ≤ s.length) : (convert 31 9 (.slice (some ⟨g, 0, none⟩) m c)).run Try.prog W = .ok (.string (strOfNums (s.take m))) W := by
  refine run_convert_bytes_arg W 31 5 Try.underlying31 Try.underlying5 g 0 m c (s.take m) (by simp; omega) (fun i hi => ?_) 9 Try.underlying9
  rw [Nat.zero_add, h.cell]
  have : i < s.length := by omega
  simp [sc, this, List.getD_eq_getElem?_getD, List.getElem?_take, hi]

def old3 : List Int := [111, 108, 100]
def new3 : List Int := [110, 101, 119]
theorem live_old : rdD 3 (crashS 3 (flushS 3 (List.replicate 3 zsec) (wrD 3 (fun _ => none) 1 (fillS old3))) (wrD 3 (wrD 3 (fun _ => none) 1 (fillS new3)) 3 zsec) []) (fun _ => none) 1 = fillS old3 := by decide +kernel
theorem live_new : rdD 3 (crashS 3 (flushS 3 (List.replicate 3 zsec) (wrD 3 (fun _ => none) 1 (fillS old3))) (wrD 3 (wrD 3 (fun _ => none) 1 (fillS new3)) 3 zsec) [true]) (fun _ => none) 1 = fillS new3 := by decide +kernel
theorem live_dirty : dirtyI 3 (wrD 3 (wrD 3 (fun _ => none) 1 (fillS new3)) 3 zsec) = [1] := by decide +kernel
end Go.Proofs.Ytlgimhhhlpmjcaa
