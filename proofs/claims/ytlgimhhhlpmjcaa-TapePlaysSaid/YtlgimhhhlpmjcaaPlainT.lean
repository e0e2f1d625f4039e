/- The plain tape: records, frames, what a half has. -/
import Derived.Test.YtlgimhhhlpmjcaaPlainD
set_option linter.unusedVariables false
set_option linter.unusedSimpArgs false
namespace Go.Proofs.Ytlgimhhhlpmjcaa
abbrev Bs := List Int
/-- Bytes. -/
def okB (b : Bs) : Prop := ∀ x ∈ b, 0 ≤ x ∧ x < 256
def numB (b : Bs) : Int := b.foldl (fun n c => n * 256 + c) 0
def long4 (n : Int) : Bs := [n / 16777216 % 256, n / 65536 % 256, n / 256 % 256, n % 256]
def frameB (b : Bs) : Bs := ((b.length : Int) / 256 % 256) :: ((b.length : Int) % 256) :: b
def framesB (L : List Bs) : Bs := L.flatMap frameB
def sizeB (L : List Bs) : Nat := (L.map fun b => b.length + 2).sum
def rightB (b : Bs) : Bool := decide (0 < b.length) && decide (b.length ≤ 300)

theorem okB_nil : okB [] := fun x h => by cases h
theorem okB_take {b : Bs} (h : okB b) (k : Nat) : okB (b.take k) := fun x hx => h x (List.mem_of_mem_take hx)
theorem okB_drop {b : Bs} (h : okB b) (k : Nat) : okB (b.drop k) := fun x hx => h x (List.mem_of_mem_drop hx)
theorem okB_append {a b : Bs} (h : okB a) (k : okB b) : okB (a ++ b) := fun x hx => by
  rcases List.mem_append.1 hx with hx | hx
  · exact h x hx
  · exact k x hx
theorem okB_cons {a : Int} {b : Bs} (h0 : 0 ≤ a) (h1 : a < 256) (k : okB b) : okB (a :: b) := fun x hx => by
  rcases List.mem_cons.1 hx with rfl | hx
  · exact ⟨h0, h1⟩
  · exact k x hx
theorem okB_replicate (n : Nat) : okB (List.replicate n 0) := fun x hx => by
  have := (List.mem_replicate.1 hx).2
  omega
theorem okB_long4 (n : Int) : okB (long4 n) := by
  unfold long4
  refine okB_cons ?_ ?_ (okB_cons ?_ ?_ (okB_cons ?_ ?_ (okB_cons ?_ ?_ okB_nil))) <;> omega
theorem okB_frame {b : Bs} (h : okB b) : okB (frameB b) := okB_cons (by omega) (by omega) (okB_cons (by omega) (by omega) h)
theorem okB_frames {L : List Bs} (h : ∀ x ∈ L, okB x) : okB (framesB L) := fun x hx => by
  obtain ⟨b, hb, hx⟩ := List.mem_flatMap.1 hx
  exact okB_frame (h b hb) x hx
theorem frameB_len (b : Bs) : (frameB b).length = b.length + 2 := by simp [frameB]
theorem framesB_len (L : List Bs) : (framesB L).length = sizeB L := by
  unfold framesB sizeB
  rw [List.length_flatMap]
  congr 1
theorem framesB_append (L M : List Bs) : framesB (L ++ M) = framesB L ++ framesB M := by simp [framesB]
theorem framesB_nil : framesB [] = [] := rfl
theorem sizeB_nil : sizeB [] = 0 := rfl
theorem sizeB_append (L M : List Bs) : sizeB (L ++ M) = sizeB L + sizeB M := by simp [sizeB]
theorem sizeB_one (b : Bs) : sizeB [b] = b.length + 2 := by simp [sizeB]
theorem sizeB_cons (b : Bs) (L : List Bs) : sizeB (b :: L) = b.length + 2 + sizeB L := by simp [sizeB]
theorem sizeB_take_succ (L : List Bs) (k : Nat) (h : k < L.length) : sizeB (L.take (k + 1)) = sizeB (L.take k) + (L[k].length + 2) := by
  rw [List.take_succ_eq_append_getElem h, sizeB_append, sizeB_one]
theorem sizeB_take_le (L : List Bs) (k : Nat) : sizeB (L.take k) ≤ sizeB L := by
  have : sizeB L = sizeB (L.take k ++ L.drop k) := by rw [List.take_append_drop]
  rw [this, sizeB_append]; omega
theorem sizeB_len (L : List Bs) : 2 * L.length ≤ sizeB L := by
  induction L with
  | nil => simp [sizeB]
  | cons b L ih => rw [sizeB_cons]; simp; omega
theorem sizeB_mem {L : List Bs} {b : Bs} (h : b ∈ L) : b.length + 2 ≤ sizeB L := by
  induction L with
  | nil => cases h
  | cons a L ih =>
    rw [sizeB_cons]
    rcases List.mem_cons.1 h with rfl | h
    · omega
    · have := ih h; omega
theorem framesB_take_succ (L : List Bs) (k : Nat) (h : k < L.length) : framesB (L.take (k + 1)) = framesB (L.take k) ++ frameB L[k] := by
  rw [List.take_succ_eq_append_getElem h, framesB_append]; simp [framesB]

theorem numB_take_succ (b : Bs) (k : Nat) (h : k < b.length) : numB (b.take (k + 1)) = numB (b.take k) * 256 + b[k] := by
  unfold numB
  rw [List.take_succ_eq_append_getElem h, List.foldl_append]; rfl
theorem numB_nonneg : ∀ {b : Bs} (h : okB b) , 0 ≤ numB b := by
  intro b h
  unfold numB
  suffices H : ∀ (b : Bs) (n : Int), okB b → 0 ≤ n → 0 ≤ b.foldl (fun n c => n * 256 + c) n from H b 0 h (by omega)
  intro b
  induction b with
  | nil => intro n _ hn; exact hn
  | cons a r ih =>
    intro n hb hn
    have := (hb a (by simp)).1
    have h0 : 0 ≤ n * 256 + a := by omega
    exact ih _ (fun x hx => hb x (by simp [hx])) h0
theorem numB_lt : ∀ (b : Bs), okB b → numB b < 256 ^ b.length := by
  intro b h
  suffices H : ∀ k, k ≤ b.length → numB (b.take k) < 256 ^ k by
    have := H b.length (Nat.le_refl _)
    rwa [List.take_length] at this
  intro k
  induction k with
  | zero => intro _; simp [numB]
  | succ k ih =>
    intro hk
    have h1 := ih (by omega)
    rw [numB_take_succ b k (by omega)]
    have h2 := h b[k] (List.getElem_mem (by omega))
    rw [Int.pow_succ]
    omega
theorem numB_two (a b : Int) (r : Bs) : numB ((a :: b :: r).take 2) = a * 256 + b := by simp [numB]

/-- The records of frames. -/
def splitB : Nat → Bs → Option (List Bs)
  | _, [] => some []
  | 0, _ :: _ => none
  | f + 1, a :: r =>
    if (a :: r).length < 2 then none
    else if (((a :: r).length : Int) - 2 < numB ((a :: r).take 2) ∨ rightB (((a :: r).drop 2).take (numB ((a :: r).take 2)).toNat) = false) then none
    else (splitB f ((a :: r).drop (2 + (numB ((a :: r).take 2)).toNat))).map ((((a :: r).drop 2).take (numB ((a :: r).take 2)).toNat) :: ·)
theorem splitB_frames : ∀ (L : List Bs) (f : Nat), (∀ x ∈ L, rightB x = true) → sizeB L ≤ f → splitB f (framesB L) = some L
  | [], f, _, _ => by cases f <;> rfl
  | b :: L, 0, _, h => by rw [sizeB_cons] at h; omega
  | b :: L, f + 1, hr, h => by
    rw [sizeB_cons] at h
    have hb := hr b (by simp)
    have hb' : 0 < b.length ∧ b.length ≤ 300 := by simpa [rightB] using hb
    have e : framesB (b :: L) = ((b.length : Int) / 256 % 256) :: ((b.length : Int) % 256) :: (b ++ framesB L) := by simp [framesB, frameB]
    have hnum : numB ((((b.length : Int) / 256 % 256) :: ((b.length : Int) % 256) :: (b ++ framesB L)).take 2) = b.length := by
      rw [numB_two]; omega
    rw [e, splitB, hnum]
    have h1 : ¬ (((b.length : Int) / 256 % 256) :: ((b.length : Int) % 256) :: (b ++ framesB L)).length < 2 := by simp
    rw [if_neg h1]
    have h2 : ((((b.length : Int) / 256 % 256) :: ((b.length : Int) % 256) :: (b ++ framesB L)).drop 2).take (b.length : Int).toNat = b := by simp
    have h3 : ((((b.length : Int) / 256 % 256) :: ((b.length : Int) % 256) :: (b ++ framesB L)).drop (2 + (b.length : Int).toNat)) = framesB L := by
      rw [Int.toNat_natCast, Nat.add_comm]; simp
    rw [h2, h3, if_neg, splitB_frames L f (fun x hx => hr x (by simp [hx])) (by omega)]
    · rfl
    · rw [hb]
      simp; omega
theorem splitB_sound : ∀ (f : Nat) (b : Bs) (L : List Bs), okB b → splitB f b = some L → framesB L = b ∧ ∀ x ∈ L, rightB x = true ∧ okB x
  | f, [], L, _, h => by
    have : splitB f [] = some [] := by cases f <;> rfl
    rw [this] at h; cases h
    exact ⟨rfl, fun x hx => by cases hx⟩
  | 0, a :: r, L, _, h => by simp [splitB] at h
  | f + 1, a :: r, L, hb, h => by
    rw [splitB] at h
    split at h
    · cases h
    split at h
    · cases h
    rename_i h1 h2
    obtain ⟨M, hM, rfl⟩ := Option.map_eq_some_iff.1 h
    obtain ⟨i1, i2⟩ := splitB_sound f _ M (okB_drop hb _) hM
    match r, h1 with
    | [], h1 => simp at h1
    | c :: r, h1 =>
      rw [numB_two] at *
      have ha := hb a (by simp); have hc := hb c (by simp)
      rw [not_or] at h2
      obtain ⟨h2, h3⟩ := h2
      have h3 : rightB (((a :: c :: r).drop 2).take (a * 256 + c).toNat) = true := by simpa using h3
      obtain ⟨m, hm⟩ : ∃ m : Nat, a * 256 + c = m := ⟨(a * 256 + c).toNat, by omega⟩
      rw [hm] at h2 h3 i1 ⊢
      simp only [Int.toNat_natCast, List.drop_succ_cons, List.drop_zero, List.length_cons] at h2 h3 i1 ⊢
      have hl : (r.take m).length = m := by simp; omega
      refine ⟨?_, fun x hx => ?_⟩
      · have e : framesB (r.take m :: M) = frameB (r.take m) ++ framesB M := by simp [framesB]
        rw [e, i1, frameB, hl]
        have e1 : (m : Int) / 256 % 256 = a := by omega
        have e2 : (m : Int) % 256 = c := by omega
        have e3 : (a :: c :: r).drop (2 + m) = r.drop m := by rw [Nat.add_comm]; simp
        rw [e1, e2, e3]
        simp
      · rcases List.mem_cons.1 hx with rfl | hx
        · exact ⟨h3, okB_take (fun y hy => hb y (by simp [hy])) _⟩
        · exact i2 x hx
end Go.Proofs.Ytlgimhhhlpmjcaa
