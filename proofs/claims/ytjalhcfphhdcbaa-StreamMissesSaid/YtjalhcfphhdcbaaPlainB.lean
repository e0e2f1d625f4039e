/- What Build makes, as a stream sees it. -/
import Derived.Test.YtjalhcfphhdcbaaStrU
set_option linter.unusedVariables false
set_option linter.unusedSimpArgs false
namespace Go.Proofs.Ytjalhcfphhdcbaa
open Go.RowKit

/-- The last ones ahead of a slot. -/
def lfAt (ms : List Md) : Nat → (Int → Option (Int × Int))
  | 0 => fun _ => none
  | i + 1 => lfOf i (lfAt ms i) (ms.getD i ⟨[], 0, false⟩)
theorem buildP_at (ms : List Md) : ∀ (q k : Nat), k + q = ms.length → ∀ (j : Nat) (h : j < (buildP k (lfAt ms k) (ms.drop k)).length) (h2 : k + j < ms.length), (buildP k (lfAt ms k) (ms.drop k))[j] = slotOf (k + j) (lfAt ms (k + j)) ms[k + j]
  | 0, k, hk, j, h, h2 => by omega
  | q + 1, k, hk, j, h, h2 => by
    have hkl : k < ms.length := by omega
    have e := buildP_drop ms k hkl (lfAt ms k)
    have el : lfOf k (lfAt ms k) ms[k] = lfAt ms (k + 1) := by
      show _ = lfOf k (lfAt ms k) (ms.getD k ⟨[], 0, false⟩)
      rw [show ms.getD k ⟨[], 0, false⟩ = ms[k] by simp [List.getD_eq_getElem?_getD, hkl]]
    rw [el] at e
    cases j with
    | zero =>
      have : (buildP k (lfAt ms k) (ms.drop k))[0]? = some (slotOf k (lfAt ms k) ms[k]) := by rw [e]; rfl
      rw [List.getElem?_eq_getElem h] at this
      exact Option.some.inj this
    | succ j =>
      have hl : j < (buildP (k + 1) (lfAt ms (k + 1)) (ms.drop (k + 1))).length := by rw [buildP_len]; simp; omega
      have ih := buildP_at ms q (k + 1) (by omega) j hl (by omega)
      have : (buildP k (lfAt ms k) (ms.drop k))[j + 1]? = some (slotOf (k + 1 + j) (lfAt ms (k + 1 + j)) ms[k + 1 + j]) := by
        rw [e, List.getElem?_cons_succ, List.getElem?_eq_getElem hl, ih]
      rw [List.getElem?_eq_getElem h] at this
      have := Option.some.inj this
      rw [this]
      simp only [show k + 1 + j = k + (j + 1) by omega]

theorem lastsOf_at (i : Nat) (s : Int) : ∀ (xs : List Int) (l : Int) (lf : Int → Option (Int × Int)), risB l xs = true → lastsOf i lf xs s = if s ∈ xs then some ((i : Int), (nn (lf s)).1) else lf s
  | [], _, lf, _ => by simp [lastsOf]
  | n :: ns, l, lf, h => by
    have h' : risB n ns = true := by unfold risB at h; simp at h; exact h.2
    have hb := risB_bound ns n h'
    show lastsOf i (putL lf n ((i : Int), (nn (lf n)).1)) ns s = _
    rw [lastsOf_at i s ns n _ h']
    by_cases hs : s = n
    · subst hs
      have hns : ¬ s ∈ ns := fun hm => by have := hb s hm; omega
      rw [if_neg hns, if_pos (by simp)]
      simp [putL]
    · have hp : putL lf n ((i : Int), (nn (lf n)).1) s = lf s := by unfold putL; rw [if_neg hs]
      rw [hp]
      by_cases hm : s ∈ ns
      · rw [if_pos hm, if_pos (by simp [hm])]
      · rw [if_neg hm, if_neg (by simp [hm, hs])]
theorem findB_bks (i : Nat) (s : Int) : ∀ (xs : List Int) (l : Int) (lf : Int → Option (Int × Int)), risB l xs = true → findB s (bksOf i lf xs) = if s ∈ xs then (nn (lf s), true) else ((NN, NN), false)
  | [], _, lf, _ => by simp [bksOf, findB]
  | n :: ns, l, lf, h => by
    have h' : risB n ns = true := by unfold risB at h; simp at h; exact h.2
    show (if n = s then (((nn (lf n)).1, (nn (lf n)).2), true) else findB s (bksOf i (putL lf n ((i : Int), (nn (lf n)).1)) ns)) = _
    by_cases hs : n = s
    · subst hs
      rw [if_pos rfl, if_pos (by simp)]
    · rw [if_neg hs, findB_bks i s ns n _ h']
      have hp : putL lf n ((i : Int), (nn (lf n)).1) s = lf s := by unfold putL; rw [if_neg (fun e => hs e.symm)]
      rw [hp]
      have hs' : ¬ s = n := fun e => hs e.symm
      by_cases hm : s ∈ ns
      · rw [if_pos hm, if_pos (by simp [hm])]
      · rw [if_neg hm, if_neg (by simp [hm, hs'])]
theorem okM_ris {x : Md} (h : okM x = true) : risB (-1) x.str = true := by unfold okM at h; simp at h; exact h.1
theorem lfAt_prev (ms : List Md) (s : Int) : ∀ i, i ≤ ms.length → nn (lfAt ms i s) = prev (mOf s ms) i
  | 0, _ => rfl
  | i + 1, hi => by
    have ih := lfAt_prev ms s i (by omega)
    have hil : i < ms.length := by omega
    rw [prev_succ, mOf_at s ms i hil]
    show nn (lfOf i (lfAt ms i) (ms.getD i ⟨[], 0, false⟩) s) = _
    rw [show ms.getD i ⟨[], 0, false⟩ = ms[i] by simp [List.getD_eq_getElem?_getD, hil]]
    unfold lfOf
    cases hok : okM ms[i] with
    | true =>
      rw [if_pos rfl, lastsOf_at i s _ _ _ (okM_ris hok), Bool.true_and]
      by_cases hm : s ∈ ms[i].str
      · rw [if_pos hm, decide_eq_true hm, if_pos rfl, ih]; rfl
      · rw [if_neg hm, decide_eq_false hm, if_neg (by simp), ih]
    | false => rw [if_neg (by simp), Bool.false_and, if_neg (by simp), ih]

theorem ofS_slot (i : Nat) (s : Int) (lf : Int → Option (Int × Int)) (x : Md) :
    (ofS s (slotOf i lf x)).2 = (decide (okM x = true ∧ x.junk = false ∧ rightC 1 x.nd (bksOf i lf x.str) = true) && decide (s ∈ x.str)) ∧ ((ofS s (slotOf i lf x)).2 = true → (ofS s (slotOf i lf x)).1 = nn (lf s)) := by
  unfold slotOf
  by_cases h : okM x = true ∧ x.junk = false ∧ rightC 1 x.nd (bksOf i lf x.str) = true
  · rw [if_pos h, decide_eq_true h, Bool.true_and]
    have e : ofS s ⟨1, 1, x.nd, bksOf i lf x.str⟩ = findB s (bksOf i lf x.str) := by unfold ofS; rw [if_pos ⟨rfl, h.2.2⟩]
    rw [e, findB_bks i s _ _ _ (okM_ris h.1)]
    by_cases hm : s ∈ x.str
    · rw [if_pos hm, decide_eq_true hm]; exact ⟨rfl, fun _ => rfl⟩
    · rw [if_neg hm, decide_eq_false hm]; exact ⟨rfl, fun h => by simp at h⟩
  · rw [if_neg h, decide_eq_false h, Bool.false_and]
    have e : ofS s ⟨1, 2, 0, []⟩ = ((0, 0), false) := by unfold ofS; rw [if_neg (by simp)]
    rw [e]
    exact ⟨rfl, fun h => by simp at h⟩

/-- A built view. -/
def view (ms : List Md) : List Sl := buildP 0 (fun _ => none) ms
theorem view_len (ms : List Md) : (view ms).length = ms.length := buildP_len ms 0 _
theorem view_at (ms : List Md) (i : Nat) (h : i < ms.length) : (view ms)[i]'(by rw [view_len]; exact h) = slotOf i (lfAt ms i) ms[i] := by
  have e := buildP_at ms ms.length 0 (by omega) i (by rw [buildP_len]; simpa using h) (by omega)
  simp only [Nat.zero_add] at e
  exact e
def dOf (s : Int) (ms : List Md) (i : Nat) : Bool := (ofS s ((view ms).getD i default)).2
theorem dOf_at (s : Int) (ms : List Md) (i : Nat) (h : i < (view ms).length) : dOf s ms i = (ofS s (view ms)[i]).2 := by
  unfold dOf
  rw [show (view ms).getD i default = (view ms)[i] by simp [List.getD_eq_getElem?_getD, h]]
theorem dOf_past (s : Int) (ms : List Md) (i : Nat) (h : ¬ i < (view ms).length) : dOf s ms i = false := by
  unfold dOf
  rw [show (view ms).getD i default = default by simp [List.getD_eq_getElem?_getD, h]]
  rfl

theorem view_fits (ms : List Md) (s : Int) (hl : ms.length ≤ 1000) : Fits s (view ms) (mOf s ms) (dOf s ms) where
  dm := fun i hd => by
    by_cases h : i < (view ms).length
    · have hi : i < ms.length := by rw [view_len] at h; exact h
      rw [dOf_at s ms i h, view_at ms i hi, (ofS_slot i s _ _).1] at hd
      rw [mOf_at s ms i hi]
      simp at hd ⊢
      exact ⟨hd.1.1, hd.2⟩
    · rw [dOf_past s ms i h] at hd; simp at hd
  st := fun i h => by
    have hi : i < ms.length := by rw [view_len] at h; exact h
    rw [view_at ms i hi]
    unfold slotOf
    split <;> rfl
  is := fun i h => (dOf_at s ms i h).symm
  ba := fun i h hd => by
    have hi : i < ms.length := by rw [view_len] at h; exact h
    rw [dOf_at s ms i h] at hd
    rw [view_at ms i hi] at hd ⊢
    rw [(ofS_slot i s _ _).2 hd, lfAt_prev ms s i (by omega)]
  small := by rw [view_len]; exact hl

theorem view_nojunk (ms : List Md) (s : Int) (h : ∀ i (hi : i < (view ms).length), (view ms)[i].kind ≠ 2) : ∀ i, mOf s ms i = true → dOf s ms i = true := fun i hm => by
  by_cases hi : i < (view ms).length
  · have hi' : i < ms.length := by rw [view_len] at hi; exact hi
    rw [dOf_at s ms i hi]
    have hk := h i hi
    rw [view_at ms i hi'] at hk ⊢
    rw [mOf_at s ms i hi'] at hm
    rw [(ofS_slot i s _ _).1]
    have hc : okM ms[i] = true ∧ ms[i].junk = false ∧ rightC 1 ms[i].nd (bksOf i (lfAt ms i) ms[i].str) = true := by
      by_cases hc : okM ms[i] = true ∧ ms[i].junk = false ∧ rightC 1 ms[i].nd (bksOf i (lfAt ms i) ms[i].str) = true
      · exact hc
      · exfalso
        apply hk
        unfold slotOf
        rw [if_neg hc]
    rw [decide_eq_true hc]
    simp at hm ⊢
    exact hm.2
  · exfalso
    have hi' : ¬ i < ms.length := by rw [view_len] at hi; exact hi
    unfold mOf at hm
    rw [show ms.getD i ⟨[], 0, false⟩ = ⟨[], 0, false⟩ by simp [List.getD_eq_getElem?_getD, hi']] at hm
    simp at hm

def PosL (lf : Int → Option (Int × Int)) : Prop := ∀ x, 0 ≤ (nn (lf x)).1 ∧ 0 ≤ (nn (lf x)).2
theorem PosL.put {lf : Int → Option (Int × Int)} (h : PosL lf) (i : Nat) (n : Int) : PosL (putL lf n ((i : Int), (nn (lf n)).1)) := fun x => by
  unfold putL
  split
  · exact ⟨by show (0 : Int) ≤ (i : Int); omega, (h n).1⟩
  · exact h x
theorem PosL.lasts (i : Nat) : ∀ (xs : List Int) (lf : Int → Option (Int × Int)), PosL lf → PosL (lastsOf i lf xs)
  | [], _, h => h
  | n :: ns, lf, h => PosL.lasts i ns _ (h.put i n)
theorem bks_pos (i : Nat) : ∀ (xs : List Int) (lf : Int → Option (Int × Int)), PosL lf → ∀ k ∈ bksOf i lf xs, 0 ≤ k.a ∧ 0 ≤ k.b
  | [], _, _, k, hk => by simp [bksOf] at hk
  | n :: ns, lf, h, k, hk => by
    simp only [bksOf, List.mem_cons] at hk
    rcases hk with rfl | hk
    · exact h n
    · exact bks_pos i ns _ (h.put i n) k hk
theorem lfAt_pos (ms : List Md) : ∀ i, PosL (lfAt ms i)
  | 0 => fun x => ⟨by show (0 : Int) ≤ NN; decide, by show (0 : Int) ≤ NN; decide⟩
  | i + 1 => by
    show PosL (lfOf i (lfAt ms i) _)
    unfold lfOf
    split
    · exact PosL.lasts i _ _ (lfAt_pos ms i)
    · exact lfAt_pos ms i
theorem view_nat (ms : List Md) : NatV (view ms) := fun x hx => by
  obtain ⟨i, hi, rfl⟩ := List.getElem_of_mem hx
  rw [view_at ms i (by rw [view_len] at hi; exact hi)]
  unfold slotOf
  split
  · exact bks_pos i _ _ (lfAt_pos ms i)
  · intro k hk; simp at hk
theorem view_small (ms : List Md) (h : SmallM ms) : SmallV (view ms) := ⟨by rw [view_len]; exact h.1, fun x hx => by
  obtain ⟨i, hi, rfl⟩ := List.getElem_of_mem hx
  have hi' : i < ms.length := by rw [view_len] at hi; exact hi
  rw [view_at ms i hi']
  unfold slotOf
  split
  · show (bksOf i (lfAt ms i) ms[i].str).length ≤ 100
    rw [bksOf_len]; exact (h.2 _ (List.getElem_mem hi')).1
  · simp⟩
end Go.Proofs.Ytjalhcfphhdcbaa
