/- The plain law of a missing slot. -/
import Derived.Test.YtjalhcfphhdcbaaPlainB
set_option linter.unusedVariables false
set_option linter.unusedSimpArgs false
namespace Go.Proofs.Ytjalhcfphhdcbaa
open Go.RowKit

/-- A view, a slot of which has another state. -/
def setSt (vs : List Sl) (i : Nat) (t : Int) : List Sl := vs.set i { vs.getD i default with st := t }
theorem setSt_len (vs : List Sl) (i : Nat) (t : Int) : (setSt vs i t).length = vs.length := by simp [setSt]
theorem setSt_other (vs : List Sl) (i j : Nat) (t : Int) (h : j ≠ i) : (setSt vs i t).getD j default = vs.getD j default := by
  unfold setSt
  simp [List.getD_eq_getElem?_getD, List.getElem?_set, Ne.symm h]
theorem setSt_same (vs : List Sl) (i : Nat) (t : Int) (h : i < vs.length) : (setSt vs i t).getD i default = { vs.getD i default with st := t } := by
  unfold setSt
  simp [List.getD_eq_getElem?_getD, List.getElem?_set, h]
theorem getD_lt (vs : List Sl) (i : Nat) (h : i < vs.length) : vs.getD i default = vs[i] := by simp [List.getD_eq_getElem?_getD, h]

theorem linP_stepD (s : Int) (vs : List Sl) (k : Nat) (h : k < vs.length) : linP s vs k = if missE (vs.getD k default).st = 0 then cont (if (ofS s (vs.getD k default)).2 then [k] else []) (linP s vs (k + 1)) else ([], missE (vs.getD k default).st) := by
  rw [linP_step s vs k h, getD_lt vs k h]

section
variable {s : Int} {vs : List Sl} {i t : Nat} {m d : Nat → Bool}
theorem linP_before (s : Int) (vs : List Sl) (i : Nat) (t : Int) (f : Nat) (h : i < f) : linP s (setSt vs i t) f = linP s vs f := by
  unfold linP setSt
  rw [List.drop_set_of_lt h]
theorem linP_gone {s : Int} {vs : List Sl} {m d : Nat → Bool} (hF : Fits s vs m d) (i : Nat) (t : Int) (hi : i < vs.length) (ht : missE t ≠ 0) : ∀ q, q ≤ i → linP s (setSt vs i t) (i - q) = ([], missE t)
  | 0, _ => by
    rw [Nat.sub_zero, linP_stepD s _ i (by rw [setSt_len]; exact hi), setSt_same vs i t hi, if_neg ht]
  | q + 1, hq => by
    have hk : i - (q + 1) < vs.length := by omega
    rw [linP_stepD s _ _ (by rw [setSt_len]; exact hk), setSt_other vs i _ t (by omega), getD_lt vs _ hk, if_pos (hF.st _ hk), show i - (q + 1) + 1 = i - q by omega, linP_gone hF i t hi ht q (by omega)]
    unfold cont
    rw [if_neg ht]

theorem srch_miss (s f : Int) (vs : List Sl) (i : Nat) (t : Int) (hi : i < vs.length) (ht : missE t ≠ 0) : ∀ a, srch s f (setSt vs i t) a = srch s f vs a ∨ ((srch s f (setSt vs i t) a).1 = missE t ∧ f ≤ i)
  | 0 => .inl rfl
  | a + 1 => by
    unfold srch
    by_cases hf : f < (a : Int) + 1
    · rw [if_pos hf, if_pos hf]
      by_cases ha : a = i
      · subst ha
        rw [setSt_same vs a t hi]
        dsimp only
        rw [if_neg ht]
        exact .inr ⟨rfl, by omega⟩
      · rw [setSt_other vs i a t ha]
        split
        · split
          · exact .inl rfl
          · exact srch_miss s f vs i t hi ht a
        · exact .inl rfl
    · rw [if_neg hf, if_neg hf]
      exact .inl rfl
theorem stepP_miss (s f : Int) (vs : List Sl) (i : Nat) (t : Int) (hi : i < vs.length) (ht : missE t ≠ 0) (p : PS) (hf0 : 0 ≤ f) (hp : f ≤ p.p0) : stepP s f (setSt vs i t) p = stepP s f vs p ∨ ((stepP s f (setSt vs i t) p).1 = missE t ∧ f ≤ i) := by
  unfold stepP
  rw [setSt_len]
  by_cases h1 : (vs.length : Int) ≤ p.p0
  · rw [if_pos h1, if_pos h1]; exact .inl rfl
  · rw [if_neg h1, if_neg h1]
    by_cases ha : p.p0.toNat = i
    · rw [ha, setSt_same vs i t hi]
      dsimp only
      rw [if_neg ht]
      exact .inr ⟨rfl, by omega⟩
    · rw [setSt_other vs i _ t ha]
      rcases srch_miss s f vs i t hi ht p.p0.toNat with h2 | ⟨h2, h3⟩
      · rw [h2]; exact .inl rfl
      · split
        · split
          · split <;> exact .inl rfl
          · split
            · split <;> exact .inl rfl
            · exact .inr ⟨h2, h3⟩
        · exact .inl rfl
theorem walkF_miss (s f : Int) (vs : List Sl) (i : Nat) (t : Int) (hi : i < vs.length) (ht : missE t ≠ 0) (hf0 : 0 ≤ f) : ∀ (q : Nat) (p : PS) (acc : List Nat) (k : Nat), walkF s f (setSt vs i t) q p acc k = walkF s f vs q p acc k ∨ (walkF s f (setSt vs i t) q p acc k = (missE t, [], 0) ∧ f ≤ i)
  | 0, _, _, _ => .inl rfl
  | q + 1, p, acc, k => by
    unfold walkF
    by_cases h1 : p.p0 = NN ∨ p.p0 < f
    · rw [if_pos h1, if_pos h1]; exact .inl rfl
    · rw [if_neg h1, if_neg h1]
      rcases stepP_miss s f vs i t hi ht p hf0 (Int.not_lt.1 fun h => h1 (.inr h)) with h2 | ⟨h2, h3⟩
      · rw [h2]
        split
        · exact walkF_miss s f vs i t hi ht hf0 q _ _ _
        · exact .inl rfl
      · rw [h2, if_neg ht]
        exact .inr ⟨rfl, h3⟩
theorem walkP_miss (s f : Int) (vs : List Sl) (i : Nat) (t : Int) (hi : i < vs.length) (ht : missE t ≠ 0) (hf0 : 0 ≤ f) (p0 p1 : Int) : walkP s f (setSt vs i t) p0 p1 = walkP s f vs p0 p1 ∨ (walkP s f (setSt vs i t) p0 p1 = (missE t, [], 0) ∧ f ≤ i) := by
  unfold walkP
  rw [setSt_len]
  rcases walkF_miss s f vs i t hi ht hf0 (vs.length + 2) ⟨p0, p1, true⟩ [] 0 with h | ⟨h, h2⟩
  · rw [h]; exact .inl rfl
  · rw [h]; exact .inr ⟨rfl, h2⟩
end
theorem setSt_at (vs : List Sl) (i : Nat) (t : Int) (j : Nat) (hj : j < (setSt vs i t).length) (hi : i < vs.length) : (setSt vs i t)[j] = if j = i then { vs[i] with st := t } else vs[j]'(by rw [setSt_len] at hj; exact hj) := by
  have hj' : j < vs.length := by rw [setSt_len] at hj; exact hj
  rw [← getD_lt _ j hj]
  by_cases h : j = i
  · subst h
    rw [if_pos rfl, setSt_same vs j t hi, getD_lt vs j hi]
  · rw [if_neg h, setSt_other vs i j t h, getD_lt vs j hj']
theorem setSt_small (vs : List Sl) (i : Nat) (t : Int) (hi : i < vs.length) (h : SmallV vs) : SmallV (setSt vs i t) := ⟨by rw [setSt_len]; exact h.1, fun x hx => by
  obtain ⟨j, hj, rfl⟩ := List.getElem_of_mem hx
  rw [setSt_at vs i t j hj hi]
  split
  · exact h.2 vs[i] (List.getElem_mem hi)
  · exact h.2 _ (List.getElem_mem _)⟩
theorem setSt_nat (vs : List Sl) (i : Nat) (t : Int) (hi : i < vs.length) (h : NatV vs) : NatV (setSt vs i t) := fun x hx => by
  obtain ⟨j, hj, rfl⟩ := List.getElem_of_mem hx
  rw [setSt_at vs i t j hj hi]
  split
  · exact h vs[i] (List.getElem_mem hi)
  · exact h _ (List.getElem_mem _)

/-- In memory: a slot's state is written. -/
theorem slots_set {w : World} {lo n c g : Nat} {cs : List Value} {vs : List Sl} (ho : w.ownsRow lo 43 4 (.slice (some ⟨g, 0, none⟩) n c) n cs) (hs : Slots w lo cs vs) (hl : vs.length = n) (i : Nat) (hi : i < n) (t : Int) :
    RdV (w.setCell ⟨g, i * 4, none⟩ (.int .i64 t)) (some ⟨g, 0, none⟩) n (setSt vs i t) := by
  have hh := ho
  obtain ⟨_, h2⟩ := ho
  rcases h2 with ⟨h0, _⟩ | ⟨g', cap, cur, hv, hg, hb, hnc, _, hcs, _⟩
  · cases h0
  cases hv
  have hB : Blk w g cur 43 := hb
  have hB' := hB.set (i * 4) (.int .i64 t)
  refine ⟨by rw [setSt_len]; exact hl, fun _ => ⟨g, 0, rfl, fun j hj => ?_⟩⟩
  have hj' : j < vs.length := by rw [setSt_len] at hj; exact hj
  obtain ⟨dA, dc, v, h0, h1, h2, h3, hr⟩ := hs.2 j hj'
  have c0 := (World.ownsRow.cellAt hh (j * 4) (by omega)).trans h0
  have c1 := (World.ownsRow.cellAt hh (j * 4 + 1) (by omega)).trans h1
  have c2 := (World.ownsRow.cellAt hh (j * 4 + 2) (by omega)).trans h2
  have c3 := (World.ownsRow.cellAt hh (j * 4 + 3) (by omega)).trans h3
  rw [hB.cell] at c0 c1 c2 c3
  have hr' := hr.grown (grownBy_set w g (i * 4) (.int .i64 t)) (.inr (ownsRow_ne hr hB (by decide)).symm)
  obtain ⟨ra, rc, rfl⟩ := hr'.form
  rw [setSt_at vs i t j hj (by omega), Nat.zero_add]
  have e1 : (cur.setIfInBounds (i * 4) (.int .i64 t))[j * 4 + 1]? = cur[j * 4 + 1]? := by rw [Array.getElem?_setIfInBounds]; rw [if_neg (by omega)]
  have e2 : (cur.setIfInBounds (i * 4) (.int .i64 t))[j * 4 + 2]? = cur[j * 4 + 2]? := by rw [Array.getElem?_setIfInBounds]; rw [if_neg (by omega)]
  have e3 : (cur.setIfInBounds (i * 4) (.int .i64 t))[j * 4 + 3]? = cur[j * 4 + 3]? := by rw [Array.getElem?_setIfInBounds]; rw [if_neg (by omega)]
  by_cases hji : j = i
  · subst hji
    rw [if_pos rfl]
    refine ⟨dA, dc, ra, _, rc, ?_, ?_, ?_, ?_, hr'.rd⟩
    · rw [hB'.cell, Array.getElem?_setIfInBounds, if_pos rfl, if_pos (by omega)]
    · rw [hB'.cell, e1]; exact c1
    · rw [hB'.cell, e2]; exact c2
    · rw [hB'.cell, e3]; exact c3
  · rw [if_neg hji]
    refine ⟨dA, dc, ra, _, rc, ?_, ?_, ?_, ?_, hr'.rd⟩
    · rw [hB'.cell, Array.getElem?_setIfInBounds, if_neg (by omega)]; exact c0
    · rw [hB'.cell, e1]; exact c1
    · rw [hB'.cell, e2]; exact c2
    · rw [hB'.cell, e3]; exact c3
end Go.Proofs.Ytjalhcfphhdcbaa
