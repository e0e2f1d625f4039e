/- bits.set: what it does to a row of bytes. -/
import Derived.Test.YtnffkefhajodmaaKit
import Derived.Test.YtnffkefhajodmaaPlainBits
set_option linter.unusedVariables false
set_option linter.unusedSimpArgs false
namespace Go.Proofs.Ytnffkefhajodmaa
open Go.RowKit

def nums8 (xs : List Nat) : List Value := xs.map fun x : Nat => Value.int .u8 (x : Int)
/-- Block g is a row of bytes. -/
def Bytes (w : World) (g : Nat) (xs : List Nat) : Prop := w.heap[g]? = some (.cells (nums8 xs).toArray 5 (0, 0))
def small8 (xs : List Nat) : Prop := ∀ x ∈ xs, x < 256
theorem Bytes.cell {w : World} {g : Nat} {xs : List Nat} (h : Bytes w g xs) (i : Nat) (hi : i < xs.length) : w.cell? ⟨g, i, none⟩ = some (.int .u8 ((xs[i] : Nat) : Int)) := by
  simp only [Bytes] at h; simp [World.cell?, h, nums8, hi]
theorem Bytes.fr {w : World} {g : Nat} {xs : List Nat} (h : Bytes w g xs) (i : Nat) : w.frozen? ⟨g, i, none⟩ = false := by
  simp only [Bytes] at h; simp [World.frozen?, h]
theorem Bytes.set {w : World} {g : Nat} {xs : List Nat} (h : Bytes w g xs) (i : Nat) (y : Nat) : Bytes (w.setCell ⟨g, i, none⟩ (.int .u8 (y : Int))) g (xs.set i y) := by
  simp only [Bytes, World.setCell, Array.getElem?_modify, if_true] at *
  rw [h]; simp [nums8, List.map_set]
theorem Bytes.lt {w : World} {g : Nat} {xs : List Nat} (h : Bytes w g xs) : g < w.heap.size := (Array.getElem?_eq_some_iff.1 h).1
theorem small8_set {xs : List Nat} (h : small8 xs) (i y : Nat) (hy : y < 256) : small8 (xs.set i y) := by
  intro x hx
  rcases List.mem_or_eq_of_mem_set hx with h1 | rfl
  · exact h x h1
  · exact hy

/-- How many bits a round takes. -/
def tk (a n : Int) : Int := if n < 8 - a % 8 then n else 8 - a % 8

theorem set_round {wr : World} {g : Nat} {ys : List Nat} {a n : Int} {v : Nat} {L : List Bool} (h : Bytes wr g ys) (hs : small8 ys) (h0 : 0 ≤ a) (h1 : 0 < n) (h3 : a + n ≤ 8 * ys.length) (hi : (a / 8).toNat < ys.length)
    (hL : splice (bits8 ys) a.toNat (bitsN v n.toNat) = L) :
    ∃ ys', Bytes (wr.setCell ⟨g, (a / 8).toNat, none⟩ (.int .u8 (bits .or .u8 (bits .andNot .u8 ((ys[(a / 8).toNat] : Nat) : Int) ((2 ^ (tk a n).toNat - 1) % 256 * 2 ^ (8 - a % 8 - tk a n).toNat % 256))
      (bits .and .u8 ((v : Int) / 2 ^ (n - tk a n).toNat % 256 * 2 ^ (8 - a % 8 - tk a n).toNat % 256) ((2 ^ (tk a n).toNat - 1) % 256 * 2 ^ (8 - a % 8 - tk a n).toNat % 256))))) g ys' ∧
      ys'.length = ys.length ∧ small8 ys' ∧ splice (bits8 ys') (a + tk a n).toNat (bitsN v (n - tk a n).toNat) = L := by
  have ht0 : 0 < tk a n := by unfold tk; split <;> omega
  have ht1 : tk a n ≤ n := by unfold tk; split <;> omega
  have ht2 : tk a n ≤ 8 - a % 8 := by unfold tk; split <;> omega
  generalize tk a n = t at *
  have hst : (8 - a % 8 - t).toNat + t.toNat ≤ 8 := by omega
  have hx := hs _ (List.getElem_mem hi)
  refine ⟨ys.set (a / 8).toNat (mix ys[(a / 8).toNat] (v / 2 ^ (n - t).toNat) (8 - a % 8 - t).toNat t.toNat), ?_, by simp, small8_set hs _ _ (mix_lt _ _ _ _ hx hst), ?_⟩
  · have h5 := h.set (a / 8).toNat (mix ys[(a / 8).toNat] (v / 2 ^ (n - t).toNat) (8 - a % 8 - t).toNat t.toNat)
    rw [← store_int _ _ _ _ hx hst, Int.natCast_ediv, Int.natCast_pow] at h5
    exact h5
  · have h6 := bits8_store ys (a / 8).toNat (a % 8).toNat t.toNat (v / 2 ^ (n - t).toNat) hi (by omega)
    rw [show ys.getD (a / 8).toNat 0 = ys[(a / 8).toNat] by simp [List.getD_eq_getElem?_getD, hi], show 8 - (a % 8).toNat - t.toNat = (8 - a % 8 - t).toNat by omega, show 8 * (a / 8).toNat + (a % 8).toNat = a.toNat by omega] at h6
    rw [h6, ← hL, bitsN_split v n.toNat t.toNat (by omega), show n.toNat - t.toNat = (n - t).toNat by omega, show (a + t).toNat = a.toNat + t.toNat by omega]
    have := splice_splice (bits8 ys) (bitsN (v / 2 ^ (n - t).toNat) t.toNat) (bitsN v (n - t).toNat) a.toNat (by simp; omega)
    simpa using this

theorem set_any (g len cap : Nat) (xs : List Nat) (at0 n v : Int) (w : World) (h : Bytes w g xs) (hs : small8 xs) (hl : xs.length = len) (h0 : 0 ≤ at0) (h1 : 0 ≤ n) (h2 : n ≤ 64) (h3 : at0 + n ≤ 8 * len) (hm : len ≤ 1000000000000) (hv0 : 0 ≤ v) (hv : v < 18446744073709551616) :
    Calls Try.prog 71 #[.slice (some ⟨g, 0, none⟩) len cap, .int .i64 at0, .int .i64 n, .int .u64 v] w fun e w' =>
      e = .returned (.tuple #[]) ∧ w.grownBy w' (some g) ∧ ∃ ys, Bytes w' g ys ∧ ys.length = len ∧ small8 ys ∧ bits8 ys = splice (bits8 xs) at0.toNat (bitsN v.toNat n.toNat) := by
  obtain ⟨v, rfl⟩ := Int.eq_ofNat_of_zero_le hv0
  rw [Int.toNat_natCast]
  have H := Lib.hid h; clear h
  have Hl := Lib.hid hl; clear hl
  have Hs := Lib.hid hs; clear hs
  go_enter Try.func71, Try.ntmps71
  go_wp2
  go_loopw [1, 2] (fun a1 a2 wr => ∃ (a n' : Int) (ys : List Nat), a1 = .int .i64 a ∧ a2 = .int .i64 n' ∧ 0 ≤ a ∧ 0 ≤ n' ∧ n' ≤ 64 ∧ a + n' ≤ 8 * len ∧ Hid (ys.length = len) ∧ Bytes wr g ys ∧ w.grownBy wr (some g) ∧ Hid (small8 ys) ∧ Hid (splice (bits8 ys) a.toNat (bitsN v n'.toNat) = splice (bits8 xs) at0.toNat (bitsN v n.toNat))) (fun _ a2 _ => (intOf a2).toNat)
  case atStart => exact ⟨_, _, xs, rfl, rfl, h0, h1, h2, h3, Hl, H.out, ⟨rfl, rfl, rfl, Nat.le_refl _, fun _ _ _ => rfl⟩, Hs, rfl⟩
  case round =>
    obtain ⟨a, n', ys, rfl, rfl, q0, q1, q2, q3, q4, q5, q6, q7, q8⟩ := hrel
    by_cases hn : 0 < n'
    · have hi : (a / 8).toNat < ys.length := by have := q4.out; omega
      have hc := q5.cell (a / 8).toNat hi
      have hf := q5.fr (a / 8).toNat
      have hb1 : a / 8 < len := by omega
      have hb0 : 0 ≤ a / 8 := by omega
      obtain ⟨ys', r1, r2, r3, r4⟩ := set_round (wr := wr) (g := g) (n := n') q5 q7.out q0 hn (by have := q4.out; omega) hi q8.out
      have ht0 : 0 < tk a n' := by unfold tk; split <;> omega
      have ht1 : tk a n' ≤ n' := by unfold tk; split <;> omega
      have R1 := Lib.hid r1; clear r1
      have R2 := Lib.hid r2; clear r2
      have R4 := Lib.hid r4; clear r4
      clear q8
      go_wp2
      refine ⟨⟨_, _, ys', rfl, rfl, ?_, ?_, ?_, ?_, ?_, R1.out, World.grownBy.trans q6 ?_, r3, R4.out⟩, ?_⟩
      · show 0 ≤ a + tk a n'; omega
      · show 0 ≤ n' - tk a n'; omega
      · show n' - tk a n' ≤ 64; omega
      · show a + tk a n' + (n' - tk a n') ≤ _; omega
      · exact R2.out.trans q4.out
      · exact grownBy_set _ _ _ _
      · show (n' - tk a n').toNat < n'.toNat; omega
    · have hz : n' = 0 := by omega
      subst hz
      have Q8 := q8.out
      rw [show (0 : Int).toNat = 0 from rfl, show bitsN v 0 = [] from rfl, splice_nil] at Q8
      have Q8' := Lib.hid Q8; clear Q8 q8
      go_wp2
      go_end0
      exact ⟨rfl, q6, ys, q5, q4.out, q7.out, Q8'.out⟩

end Go.Proofs.Ytnffkefhajodmaa
