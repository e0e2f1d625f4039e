/- Plain laws: numbers as rows of bits; a byte of which some bits are set; no program in sight. -/
import Derived.Laws.BitsAllLaws
set_option linter.unusedVariables false
set_option linter.unusedSimpArgs false
namespace Go.Proofs.Ytnffkefhajodmaa

/-- The lowest n bits of v, the highest first. -/
def bitsN (v n : Nat) : List Bool := (List.range n).map fun k => v.testBit (n - 1 - k)
/-- The bits of bytes. -/
def bits8 (xs : List Nat) : List Bool := xs.flatMap fun x => bitsN x 8
/-- L, with M laid over it from place a on. -/
def splice (L : List Bool) (a : Nat) (M : List Bool) : List Bool := L.take a ++ (M ++ L.drop (a + M.length))

@[simp] theorem bitsN_length (v n : Nat) : (bitsN v n).length = n := by simp [bitsN]
@[simp] theorem bits8_length (xs : List Nat) : (bits8 xs).length = 8 * xs.length := by
  induction xs with
  | nil => rfl
  | cons x xs ih => simp only [bits8, List.flatMap_cons, List.length_append, bitsN_length, List.length_cons] at *; omega
theorem bitsN_get (v n j : Nat) : (bitsN v n)[j]? = if j < n then some (v.testBit (n - 1 - j)) else none := by
  unfold bitsN
  rw [List.getElem?_map]
  by_cases h : j < n
  · rw [List.getElem?_range h, if_pos h]; rfl
  · rw [List.getElem?_eq_none (by simpa using h), if_neg h]; rfl
theorem bits8_get (xs : List Nat) (j : Nat) : (bits8 xs)[j]? = if j < 8 * xs.length then some ((xs.getD (j / 8) 0).testBit (7 - j % 8)) else none := by
  induction xs generalizing j with
  | nil => simp [bits8]
  | cons x xs ih =>
    simp only [bits8, List.flatMap_cons, List.length_cons] at *
    rw [List.getElem?_append]
    simp only [bitsN_length]
    by_cases h : j < 8
    · rw [if_pos h, bitsN_get, if_pos h, if_pos (by omega)]
      have h0 : j / 8 = 0 := by omega
      have h1 : 8 - 1 - j = 7 - j % 8 := by omega
      rw [h0, h1]; rfl
    · rw [if_neg h, ih]
      by_cases h2 : j < 8 * (xs.length + 1)
      · rw [if_pos (by omega), if_pos h2]
        have h3 : j / 8 = (j - 8) / 8 + 1 := by omega
        have h4 : (j - 8) % 8 = j % 8 := by omega
        rw [h3, h4]; simp
      · rw [if_neg (by omega), if_neg h2]
theorem splice_get (L M : List Bool) (a j : Nat) (h : a + M.length ≤ L.length) : (splice L a M)[j]? = if j < a then L[j]? else if j < a + M.length then M[j - a]? else L[j]? := by
  unfold splice
  rw [List.getElem?_append, List.getElem?_append]
  simp only [List.length_take, List.getElem?_take, List.getElem?_drop]
  have h1 : min a L.length = a := by omega
  rw [h1]
  by_cases h2 : j < a
  · rw [if_pos h2, if_pos h2, if_pos h2]
  · rw [if_neg h2, if_neg h2]
    by_cases h3 : j - a < M.length
    · rw [if_pos h3, if_pos (by omega)]
    · rw [if_neg h3, if_neg (by omega)]
      congr 1; omega
theorem splice_length (L M : List Bool) (a : Nat) (h : a + M.length ≤ L.length) : (splice L a M).length = L.length := by
  unfold splice; simp only [List.length_append, List.length_take, List.length_drop]; omega
theorem splice_nil (L : List Bool) (a : Nat) : splice L a [] = L := by simp [splice]

theorem bitsN_split (v n t : Nat) (h : t ≤ n) : bitsN v n = bitsN (v / 2 ^ (n - t)) t ++ bitsN v (n - t) := by
  apply List.ext_getElem?
  intro j
  rw [List.getElem?_append, bitsN_length, bitsN_get, bitsN_get, bitsN_get]
  by_cases h1 : j < t
  · rw [if_pos h1, if_pos h1, if_pos (by omega), Nat.testBit_div_two_pow]
    congr 2; omega
  · rw [if_neg h1]
    by_cases h2 : j < n
    · rw [if_pos h2, if_pos (by omega)]; congr 2; omega
    · rw [if_neg h2, if_neg (by omega)]

theorem splice_splice (L M N : List Bool) (a : Nat) (h : a + (M.length + N.length) ≤ L.length) : splice (splice L a M) (a + M.length) N = splice L a (M ++ N) := by
  apply List.ext_getElem?
  intro j
  rw [splice_get _ _ _ _ (by rw [splice_length _ _ _ (by omega)]; omega), splice_get _ _ _ _ (by omega), splice_get _ _ _ _ (by simp only [List.length_append]; omega)]
  simp only [List.length_append, List.getElem?_append]
  repeat' split
  all_goals first | rfl | omega | (congr 1; omega)

theorem tb0 {x j : Nat} (hx : x < 256) (h : 8 ≤ j) : x.testBit j = false := by
  have := Nat.pow_le_pow_right (show 0 < 2 by omega) h
  exact Nat.testBit_lt_two_pow (by omega)

/-- A byte x, whose t bits above the lowest s are u's. -/
def mix (x u s t : Nat) : Nat := 2 ^ (s + t) * (x / 2 ^ (s + t)) + (2 ^ s * (u % 2 ^ t) + x % 2 ^ s)

theorem mix_bit (x u s t j : Nat) : (mix x u s t).testBit j = if j < s then x.testBit j else if j < s + t then u.testBit (j - s) else x.testBit j := by
  unfold mix
  have hs : x % 2 ^ s < 2 ^ s := Nat.mod_lt _ (Nat.two_pow_pos s)
  have ht : u % 2 ^ t < 2 ^ t := Nat.mod_lt _ (Nat.two_pow_pos t)
  have h1 : 2 ^ s * (u % 2 ^ t) + x % 2 ^ s < 2 ^ (s + t) := by
    rw [Nat.pow_add]
    exact Nat.lt_of_lt_of_le (Nat.add_lt_add_left hs _) (by rw [← Nat.mul_succ]; exact Nat.mul_le_mul_left _ ht)
  rw [Nat.testBit_two_pow_mul_add _ h1, Nat.testBit_two_pow_mul_add _ hs, Nat.testBit_div_two_pow, Nat.testBit_mod_two_pow, Nat.testBit_mod_two_pow]
  by_cases h2 : j < s
  · rw [if_pos (by omega), if_pos h2, if_pos h2]; simp [h2]
  · rw [if_neg h2]
    by_cases h3 : j < s + t
    · rw [if_pos h3, if_neg h2, if_pos h3]; simp [show j - s < t by omega]
    · rw [if_neg h3, if_neg h3, if_neg h2, Nat.sub_add_cancel (by omega)]

theorem mix_lt (x u s t : Nat) (hx : x < 256) (h : s + t ≤ 8) : mix x u s t < 256 := by
  apply Nat.lt_pow_two_of_testBit (n := 8)
  intro i hi
  rw [mix_bit, if_neg (by omega), if_neg (by omega)]
  exact tb0 hx hi

set_option maxRecDepth 10000 in
/-- What the code stores. -/
theorem store_nat (x u s t : Nat) (hx : x < 256) (h : s + t ≤ 8) :
    (x &&& (255 - (2 ^ t - 1) % 256 * 2 ^ s % 256)) ||| ((u % 256 * 2 ^ s % 256) &&& ((2 ^ t - 1) % 256 * 2 ^ s % 256)) = mix x u s t := by
  have hm : ∀ j, ((2 ^ t - 1) % 256 * 2 ^ s % 256).testBit j = (decide (s ≤ j) && decide (j < s + t)) := by
    intro j
    rw [show (256 : Nat) = 2 ^ 8 from rfl, Nat.testBit_mod_two_pow, Nat.testBit_mul_two_pow, Nat.testBit_mod_two_pow, Nat.testBit_two_pow_sub_one]
    by_cases h1 : s ≤ j
    · by_cases h2 : j < s + t
      · have : j - s < t := by omega
        have : j - s < 8 := by omega
        have : j < 8 := by omega
        simp [*]
      · have : ¬ j - s < t := by omega
        simp [*]
    · simp [h1]
  have hlt : (2 ^ t - 1) % 256 * 2 ^ s % 256 < 2 ^ 8 := Nat.mod_lt _ (by omega)
  apply Nat.eq_of_testBit_eq
  intro j
  rw [Nat.testBit_or, Nat.testBit_and, Nat.testBit_and, mix_bit, hm, show 255 - (2 ^ t - 1) % 256 * 2 ^ s % 256 = 2 ^ 8 - ((2 ^ t - 1) % 256 * 2 ^ s % 256 + 1) by omega, Nat.testBit_two_pow_sub_succ hlt, hm]
  rw [show (256 : Nat) = 2 ^ 8 from rfl, Nat.testBit_mod_two_pow, Nat.testBit_mul_two_pow, Nat.testBit_mod_two_pow]
  by_cases h0 : j < 8
  · by_cases h1 : j < s
    · have : ¬ s ≤ j := by omega
      simp [h0, h1, this]
    · have h1' : s ≤ j := by omega
      by_cases h2 : j < s + t
      · have : j - s < 8 := by omega
        simp [h0, h1, h1', h2, this]
      · simp [h0, h1, h1', h2]
  · have hx' : x.testBit j = false := tb0 hx (by omega)
    have h1 : ¬ j < s := by omega
    have h2 : ¬ j < s + t := by omega
    simp only [h0, h1, h2, hx', decide_false, Bool.false_and, Bool.and_false, Bool.or_self, if_false]

theorem store_int (x u s t : Nat) (hx : x < 256) (h : s + t ≤ 8) :
    bits .or .u8 (bits .andNot .u8 (x : Int) ((2 ^ t - 1) % 256 * 2 ^ s % 256)) (bits .and .u8 ((u : Int) % 256 * 2 ^ s % 256) ((2 ^ t - 1) % 256 * 2 ^ s % 256)) = ((mix x u s t : Nat) : Int) := by
  have e1 : ((2 : Int) ^ t - 1) % 256 * 2 ^ s % 256 = (((2 ^ t - 1) % 256 * 2 ^ s % 256 : Nat) : Int) := by
    have : 1 ≤ 2 ^ t := Nat.one_le_two_pow
    simp only [Int.natCast_emod, Int.natCast_mul, Int.natCast_pow, Int.ofNat_sub this]; rfl
  have e2 : (u : Int) % 256 * 2 ^ s % 256 = ((u % 256 * 2 ^ s % 256 : Nat) : Int) := by simp only [Int.natCast_emod, Int.natCast_mul, Int.natCast_pow]; rfl
  rw [e1, e2, u8_andNot_nat _ _ hx (Nat.mod_lt _ (by omega)), u8_and_nat _ _ (Nat.mod_lt _ (by omega)) (Nat.mod_lt _ (by omega)), u8_or_nat _ _ ?_ ?_, store_nat x u s t hx h]
  · exact Nat.lt_of_le_of_lt Nat.and_le_left hx
  · exact Nat.lt_of_le_of_lt Nat.and_le_left (Nat.mod_lt _ (by omega))

/-- A store into a row of bytes, as bits. -/
theorem bits8_store (ys : List Nat) (i f t u : Nat) (hi : i < ys.length) (h : f + t ≤ 8) :
    bits8 (ys.set i (mix (ys.getD i 0) u (8 - f - t) t)) = splice (bits8 ys) (8 * i + f) (bitsN u t) := by
  apply List.ext_getElem?
  intro j
  rw [splice_get _ _ _ _ (by simp; omega), bits8_get, bits8_get, bitsN_get, bitsN_length, List.length_set]
  by_cases h1 : j < 8 * ys.length
  · rw [if_pos h1, if_pos h1]
    by_cases h2 : j / 8 = i
    · have h3 : (ys.set i (mix (ys.getD i 0) u (8 - f - t) t)).getD (j / 8) 0 = mix (ys.getD i 0) u (8 - f - t) t := by
        rw [h2, List.getD_eq_getElem?_getD, List.getElem?_set_self hi]; rfl
      rw [h3, mix_bit, h2]
      repeat' split
      all_goals first | rfl | omega | (congr 2; omega)
    · have h3 : (ys.set i (mix (ys.getD i 0) u (8 - f - t) t)).getD (j / 8) 0 = ys.getD (j / 8) 0 := by
        rw [List.getD_eq_getElem?_getD, List.getElem?_set_ne (by omega), List.getD_eq_getElem?_getD]
      rw [h3]
      repeat' split
      all_goals first | rfl | omega
  · rw [if_neg h1, if_neg h1, if_neg (by omega), if_neg (by omega)]

end Go.Proofs.Ytnffkefhajodmaa
