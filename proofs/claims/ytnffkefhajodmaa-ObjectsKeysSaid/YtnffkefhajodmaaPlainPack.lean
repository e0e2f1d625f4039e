/- Plain laws: numbers packed one behind the other. -/
import Derived.Test.YtnffkefhajodmaaPlainBits
set_option linter.unusedVariables false
set_option linter.unusedSimpArgs false
namespace Go.Proofs.Ytnffkefhajodmaa

/-- Numbers of these widths, one behind the other. -/
def packBits : List Int → List Int → List Bool
  | n :: ws, v :: vs => bitsN v.toNat n.toNat ++ packBits ws vs
  | _, _ => []
def wsum : List Int → Int
  | [] => 0
  | n :: ws => n + wsum ws
def okW (ws : List Int) : Prop := ∀ n ∈ ws, 0 ≤ n ∧ n ≤ 64
def zeros (n : Nat) : List Bool := List.replicate n false

theorem okW_tail {n : Int} {ws : List Int} (h : okW (n :: ws)) : okW ws := fun x hx => h x (List.mem_cons_of_mem _ hx)
theorem wsum_nonneg {ws : List Int} (h : okW ws) : 0 ≤ wsum ws := by
  induction ws with
  | nil => simp [wsum]
  | cons n ws ih => have := h n (by simp); have := ih (okW_tail h); simp only [wsum]; omega
theorem wsum_le {ws : List Int} (h : okW ws) : wsum ws ≤ 64 * ws.length := by
  induction ws with
  | nil => simp [wsum]
  | cons n ws ih => have := h n (by simp); have := ih (okW_tail h); simp only [wsum, List.length_cons]; omega
theorem wsum_take_succ (ws : List Int) (k : Nat) (h : k < ws.length) : wsum (ws.take (k + 1)) = wsum (ws.take k) + ws[k] := by
  induction ws generalizing k with
  | nil => simp at h
  | cons n ws ih =>
    cases k with
    | zero => simp [wsum]
    | succ k =>
      have := ih k (by simpa using h)
      simp only [List.take_succ_cons, wsum, List.getElem_cons_succ, this]; omega
theorem wsum_take_le {ws : List Int} (h : okW ws) (k : Nat) : wsum (ws.take k) ≤ wsum ws := by
  induction ws generalizing k with
  | nil => simp [wsum]
  | cons n ws ih =>
    have h0 := h n (by simp)
    have h1 := wsum_nonneg (okW_tail h)
    cases k with
    | zero => simp only [List.take_zero, wsum]; omega
    | succ k => have := ih (okW_tail h) k; simp only [List.take_succ_cons, wsum]; omega
theorem okW_take {ws : List Int} (h : okW ws) (k : Nat) : okW (ws.take k) := fun x hx => h x (List.mem_of_mem_take hx)
theorem packBits_length {ws vs : List Int} (h : okW ws) (hl : ws.length = vs.length) : (packBits ws vs).length = (wsum ws).toNat := by
  induction ws generalizing vs with
  | nil => cases vs <;> simp_all [packBits, wsum]
  | cons n ws ih =>
    cases vs with
    | nil => simp at hl
    | cons v vs =>
      have h0 := h n (by simp)
      have h1 := wsum_nonneg (okW_tail h)
      simp only [packBits, wsum, List.length_append, bitsN_length, ih (okW_tail h) (by simpa using hl)]; omega
theorem packBits_take_succ (ws vs : List Int) (k : Nat) (h1 : k < ws.length) (h2 : k < vs.length) :
    packBits (ws.take (k + 1)) (vs.take (k + 1)) = packBits (ws.take k) (vs.take k) ++ bitsN vs[k].toNat ws[k].toNat := by
  induction ws generalizing vs k with
  | nil => simp at h1
  | cons n ws ih =>
    cases vs with
    | nil => simp at h2
    | cons v vs =>
      cases k with
      | zero => simp [packBits]
      | succ k =>
        have := ih vs k (by simpa using h1) (by simpa using h2)
        simp only [List.take_succ_cons, packBits, List.getElem_cons_succ, this, List.append_assoc]
theorem splice_zeros (P M : List Bool) (r : Nat) (h : M.length ≤ r) : splice (P ++ zeros r) P.length M = (P ++ M) ++ zeros (r - M.length) := by
  unfold splice zeros
  rw [List.take_left, List.append_assoc]
  congr 1; congr 1
  rw [← List.drop_drop, List.drop_left, List.drop_replicate]
theorem bits8_zeros (n : Nat) : bits8 (List.replicate n 0) = zeros (8 * n) := by
  apply List.ext_getElem?
  intro j
  rw [bits8_get, zeros, List.getElem?_replicate]
  simp only [List.length_replicate]
  by_cases h : j < 8 * n
  · rw [if_pos h, if_pos h]
    have : (List.replicate n 0).getD (j / 8) 0 = 0 := by
      rw [List.getD_eq_getElem?_getD, List.getElem?_replicate]; split <;> rfl
    rw [this]; simp
  · rw [if_neg h, if_neg h]

/-- What is packed: whole bytes. -/
theorem byte_of_bits {x y : Nat} (hx : x < 256) (hy : y < 256) (h : bitsN x 8 = bitsN y 8) : x = y := by
  apply Nat.eq_of_testBit_eq
  intro j
  by_cases hj : j < 8
  · have := congrArg (fun l => l[7 - j]?) h
    simp only [bitsN_get] at this
    rw [if_pos (by omega), if_pos (by omega)] at this
    have e : 8 - 1 - (7 - j) = j := by omega
    rw [e] at this
    exact Option.some.inj this
  · rw [tb0 hx (by omega), tb0 hy (by omega)]
theorem bits8_inj {xs ys : List Nat} (hx : ∀ x ∈ xs, x < 256) (hy : ∀ x ∈ ys, x < 256) (h : bits8 xs = bits8 ys) : xs = ys := by
  induction xs generalizing ys with
  | nil =>
    cases ys with
    | nil => rfl
    | cons y ys => have := congrArg List.length h; simp at this
  | cons x xs ih =>
    cases ys with
    | nil => have := congrArg List.length h; simp at this
    | cons y ys =>
      simp only [bits8, List.flatMap_cons] at h
      obtain ⟨h1, h2⟩ := List.append_inj h (by simp)
      rw [byte_of_bits (hx x (by simp)) (hy y (by simp)) h1, ih (fun z hz => hx z (by simp [hz])) (fun z hz => hy z (by simp [hz])) h2]

end Go.Proofs.Ytnffkefhajodmaa
