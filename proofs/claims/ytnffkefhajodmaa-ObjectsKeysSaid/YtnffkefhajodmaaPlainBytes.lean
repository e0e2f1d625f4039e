/- Plain laws: bits as bytes. -/
import Derived.Test.YtnffkefhajodmaaPlainPack
import Derived.Lib.ItoaNum
set_option linter.unusedVariables false
set_option linter.unusedSimpArgs false
namespace Go.Proofs.Ytnffkefhajodmaa

def num (l : List Bool) : Nat := l.foldl (fun a b => 2 * a + b.toNat) 0
theorem num_snoc (l : List Bool) (b : Bool) : num (l ++ [b]) = 2 * num l + b.toNat := by simp [num, List.foldl_append]
theorem snocInd {P : List Bool → Prop} (h0 : P []) (h1 : ∀ l b, P l → P (l ++ [b])) (l : List Bool) : P l := by
  have : ∀ r : List Bool, P r.reverse := by
    intro r
    induction r with
    | nil => exact h0
    | cons b r ih => rw [List.reverse_cons]; exact h1 _ _ ih
  have h2 := this l.reverse
  rwa [List.reverse_reverse] at h2
theorem num_lt (l : List Bool) : num l < 2 ^ l.length := by
  refine snocInd (P := fun l => num l < 2 ^ l.length) ?_ ?_ l
  · simp [num]
  · intro l b ih
    rw [num_snoc, List.length_append, List.length_singleton, Nat.pow_succ]
    cases b <;> simp <;> omega
theorem bitsN_num (l : List Bool) : bitsN (num l) l.length = l := by
  refine snocInd (P := fun l => bitsN (num l) l.length = l) ?_ ?_ l
  · rfl
  · intro l b ih
    rw [num_snoc, List.length_append, List.length_singleton, bitsN_split _ (l.length + 1) l.length (by omega)]
    have e1 : l.length + 1 - l.length = 1 := by omega
    rw [e1, Nat.pow_one, show (2 * num l + b.toNat) / 2 = num l by cases b <;> simp <;> omega, ih]
    congr 1
    cases b <;> simp [bitsN, Nat.testBit_zero] <;> omega

def toBytesN : Nat → List Bool → List Nat
  | 0, _ => []
  | n + 1, l => num (l.take 8 ++ zeros (8 - l.length)) :: toBytesN n (l.drop 8)
/-- Bits in bytes, filled up by zeros. -/
def toBytes (l : List Bool) : List Nat := toBytesN ((l.length + 7) / 8) l

theorem toBytesN_length (n : Nat) (l : List Bool) : (toBytesN n l).length = n := by
  induction n generalizing l with
  | zero => rfl
  | succ n ih => simp [toBytesN, ih]
theorem toBytesN_small (n : Nat) (l : List Bool) : ∀ x ∈ toBytesN n l, x < 256 := by
  induction n generalizing l with
  | zero => intro x hx; simp [toBytesN] at hx
  | succ n ih =>
    intro x hx
    simp only [toBytesN, List.mem_cons] at hx
    rcases hx with rfl | hx
    · have h := num_lt (l.take 8 ++ zeros (8 - l.length))
      have e : (l.take 8 ++ zeros (8 - l.length)).length = 8 := by simp [zeros]; omega
      rw [e] at h; exact h
    · exact ih _ x hx
theorem toBytesN_bits (n : Nat) (l : List Bool) (h : l.length ≤ 8 * n) : bits8 (toBytesN n l) = l ++ zeros (8 * n - l.length) := by
  induction n generalizing l with
  | zero => have : l = [] := List.eq_nil_of_length_eq_zero (by omega); subst this; rfl
  | succ n ih =>
    have e : (l.take 8 ++ zeros (8 - l.length)).length = 8 := by simp [zeros]; omega
    have h1 := bitsN_num (l.take 8 ++ zeros (8 - l.length))
    rw [e] at h1
    simp only [bits8] at ih ⊢
    simp only [toBytesN, List.flatMap_cons]
    rw [h1, ih (l.drop 8) (by simp; omega)]
    by_cases h8 : 8 ≤ l.length
    · have e2 : 8 - l.length = 0 := by omega
      rw [e2, show zeros 0 = [] from rfl, List.append_nil, ← List.append_assoc, List.take_append_drop]
      congr 2; simp; omega
    · have e3 : l.drop 8 = [] := List.drop_eq_nil_of_le (by omega)
      rw [e3, List.take_of_length_le (by omega), List.nil_append, List.append_assoc]
      congr 1
      simp only [zeros, List.replicate_append_replicate, List.length_nil]
      congr 1; omega
theorem toBytes_length (l : List Bool) : (toBytes l).length = (l.length + 7) / 8 := toBytesN_length _ _
theorem toBytes_small (l : List Bool) : ∀ x ∈ toBytes l, x < 256 := toBytesN_small _ _
theorem toBytes_bits (l : List Bool) : bits8 (toBytes l) = l ++ zeros (8 * ((l.length + 7) / 8) - l.length) := toBytesN_bits _ _ (by omega)

theorem bitLen_le {x n : Nat} (h : x < 2 ^ n) (hn : n ≤ 64) : Lib.bitLen x ≤ n := by
  by_cases h0 : x = 0
  · subst h0; unfold Lib.bitLen; rw [Lib.bitLenAux_zero]; omega
  · have h64 : x < 2 ^ 64 := Nat.lt_of_lt_of_le h (Nat.pow_le_pow_right (by omega) hn)
    obtain ⟨h1, h2, h3⟩ := Lib.bitLenAux_bounds 64 x h64 h0
    unfold Lib.bitLen
    have h4 : 2 ^ (Lib.bitLenAux 64 x - 1) < 2 ^ n := Nat.lt_of_le_of_lt h2 h
    have h5 := (Nat.pow_lt_pow_iff_right (show 1 < 2 by omega)).1 h4
    omega

end Go.Proofs.Ytnffkefhajodmaa
