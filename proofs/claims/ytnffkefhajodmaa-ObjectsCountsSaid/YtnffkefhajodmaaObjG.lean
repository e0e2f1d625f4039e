/- ObjectsCounts: the walk. -/
import Derived.Test.YtnffkefhajodmaaObjF
namespace Go.Proofs.Ytnffkefhajodmaa
open Go.RowKit

def tot : List Int → Int
  | [] => 0
  | xs => xs.foldl (fun t x => wrap64 (t + x)) 0
theorem tot_take_succ (xs : List Int) (k : Nat) (h : k < xs.length) : tot (xs.take (k + 1)) = wrap64 (tot (xs.take k) + xs[k]) := by
  have e : ∀ l : List Int, tot l = l.foldl (fun t x => wrap64 (t + x)) 0 := by intro l; cases l <;> rfl
  rw [e, e, List.take_succ_eq_append_getElem h, List.foldl_append]; rfl
theorem tot_range (l : List Int) : -9223372036854775808 ≤ tot l ∧ tot l ≤ 9223372036854775807 := by
  have e : ∀ l : List Int, tot l = l.foldl (fun t x => wrap64 (t + x)) 0 := by intro l; cases l <;> rfl
  have : ∀ (l : List Int) (a : Int), (-9223372036854775808 ≤ a ∧ a ≤ 9223372036854775807) → -9223372036854775808 ≤ l.foldl (fun t x => wrap64 (t + x)) a ∧ l.foldl (fun t x => wrap64 (t + x)) a ≤ 9223372036854775807 := by
    intro l
    induction l with
    | nil => intro a h; exact h
    | cons x l ih => intro a _; refine ih _ ?_; show _ ≤ wrap64 (a + x) ∧ wrap64 (a + x) ≤ _; unfold wrap64; omega
  rw [e]; exact this l 0 (by omega)

theorem sum_step (t x : Int) : IntKind.u64.wrap (IntKind.u64.wrap t + IntKind.u64.wrap x) = IntKind.u64.wrap (wrap64 (t + x)) := by
  simp only [IntKind.wrap_u64, wrap64]; omega
theorem sum_back (t : Int) (h : -9223372036854775808 ≤ t ∧ t ≤ 9223372036854775807) : wrap64 (IntKind.u64.wrap t) = t := by
  simp only [IntKind.wrap_u64, wrap64]; omega
theorem back_step (t x : Int) (h : -9223372036854775808 ≤ t ∧ t ≤ 9223372036854775807) : wrap64 (wrap64 (t + x) + wrap64 (-x)) = t := by
  simp only [wrap64]; omega

theorem right4 (n : Int) : rightB 4 ⟨#[]⟩ ⟨#[]⟩ n = true := by
  have h1 : (⟨#[]⟩ : ByteArray).size = 0 := rfl
  simp [rightB, h1]
theorem right5 : rightB 5 ⟨#[]⟩ ⟨#[]⟩ 0 = true := by decide +kernel

/-- The sign of 'and' of two 64-bit numbers. -/
theorem neg_wrap (r : BitVec 64) : IntKind.i64.wrap (r.toNat : Int) < 0 ↔ r.msb = true := by
  rw [IntKind.wrap_i64, BitVec.msb_eq_decide, decide_eq_true_eq]
  have := r.isLt
  simp only [Nat.reducePow, Nat.reduceSub] at *
  omega
theorem msb_ofInt (x : Int) (h : -9223372036854775808 ≤ x ∧ x ≤ 9223372036854775807) : (BitVec.ofInt 64 x).msb = decide (x < 0) := by
  rw [BitVec.msb_eq_decide, BitVec.toNat_ofInt]
  have e : (((2 : Nat) ^ 64 : Nat) : Int) = 18446744073709551616 := by decide +kernel
  rw [e]
  congr 1
  apply propext
  simp only [Nat.reducePow, Nat.reduceSub]
  omega
theorem neg_xor (x y : Int) (hx : -9223372036854775808 ≤ x ∧ x ≤ 9223372036854775807) (hy : -9223372036854775808 ≤ y ∧ y ≤ 9223372036854775807) : bits .xor .i64 x y < 0 ↔ (decide (x < 0) != decide (y < 0)) = true := by
  have : bits .xor .i64 x y = IntKind.i64.wrap ((BitVec.ofInt 64 x ^^^ BitVec.ofInt 64 y).toNat : Int) := rfl
  rw [this, neg_wrap, BitVec.msb_xor, msb_ofInt x hx, msb_ofInt y hy]
theorem neg_and (x y : Int) (hx : -9223372036854775808 ≤ x ∧ x ≤ 9223372036854775807) (hy : -9223372036854775808 ≤ y ∧ y ≤ 9223372036854775807) : bits .and .i64 x y < 0 ↔ (x < 0 ∧ y < 0) := by
  have : bits .and .i64 x y = IntKind.i64.wrap ((BitVec.ofInt 64 x &&& BitVec.ofInt 64 y).toNat : Int) := rfl
  rw [this, neg_wrap, BitVec.msb_and, msb_ofInt x hx, msb_ofInt y hy]; simp
theorem ovf_eq (t n : Int) (ht : -9223372036854775808 ≤ t ∧ t ≤ 9223372036854775807) (hn : -9223372036854775808 ≤ n ∧ n ≤ 9223372036854775807) :
    ovf t n = decide (t + n < -9223372036854775808 ∨ 9223372036854775807 < t + n) := by
  have hs : -9223372036854775808 ≤ wrap64 (t + n) ∧ wrap64 (t + n) ≤ 9223372036854775807 := by unfold wrap64; omega
  unfold ovf
  congr 1
  apply propext
  rw [neg_and _ _ ⟨bits_lo_i64 _ _ _, bits_hi_i64 _ _ _⟩ ⟨bits_lo_i64 _ _ _, bits_hi_i64 _ _ _⟩, neg_xor _ _ ht hs, neg_xor _ _ hn hs]
  have hw : wrap64 (t + n) = (t + n + 9223372036854775808) % 18446744073709551616 - 9223372036854775808 := by simp only [wrap64]
  simp only [bne_iff_ne, ne_eq, decide_eq_decide]
  omega

theorem five_cases (t x : Int) (ht : -9223372036854775808 ≤ t ∧ t ≤ 9223372036854775807) (hx : -9223372036854775808 ≤ x ∧ x ≤ 9223372036854775807) :
    (ovf t x = true ∧ decide (0 < x) = true ∧ decide (wrap64 (9223372036854775807 - x) < t) = true) ∨
    (ovf t x = true ∧ decide (0 < x) = false ∧ decide (x < 0) = true ∧ decide (t < wrap64 (-9223372036854775808 - x)) = true) ∨
    (ovf t x = false ∧ decide (0 < x) = true ∧ decide (wrap64 (9223372036854775807 - x) < t) = false ∧ decide (x < 0) = false) ∨
    (ovf t x = false ∧ decide (0 < x) = false ∧ decide (x < 0) = true ∧ decide (t < wrap64 (-9223372036854775808 - x)) = false) ∨
    (ovf t x = false ∧ decide (0 < x) = false ∧ decide (x < 0) = false) := by
  rw [ovf_eq t x ht hx]
  simp only [decide_eq_true_eq, decide_eq_false_iff_not, wrap64]
  omega

end Go.Proofs.Ytnffkefhajodmaa
