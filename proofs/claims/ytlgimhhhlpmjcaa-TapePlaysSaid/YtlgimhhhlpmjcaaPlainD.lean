/- The plain disk. -/
import Derived.RowKit
set_option linter.unusedVariables false
namespace Go.Proofs.Ytlgimhhhlpmjcaa
/-- A sector's bytes. -/
abbrev Sec := List Int
def zsec : Sec := List.replicate 64 0
def putL (df : Int → Option Sec) (n : Int) (p : Sec) : Int → Option Sec := fun x => if x = n then some p else df x

/-- A sector, as it is now. -/
def curS (sf : List Sec) (df : Int → Option Sec) (i : Nat) : Sec := (df (i : Int)).getD (sf.getD i zsec)
def isD (df : Int → Option Sec) (i : Nat) : Bool := (df (i : Int)).isSome
/-- Those that are not safe. -/
def dirtyN (n : Nat) (df : Int → Option Sec) : List Nat := (List.range n).filter (isD df)
def rk (df : Int → Option Sec) (i : Nat) : Nat := (dirtyN i df).length
def keepAt (keep : List Bool) (k : Nat) : Bool := keep.getD k false
def crashAt (sf : List Sec) (df : Int → Option Sec) (keep : List Bool) (i : Nat) : Sec := if isD df i && keepAt keep (rk df i) then curS sf df i else sf.getD i zsec
def crashS (n : Nat) (sf : List Sec) (df : Int → Option Sec) (keep : List Bool) : List Sec := (List.range n).map (crashAt sf df keep)
def flushS (n : Nat) (sf : List Sec) (df : Int → Option Sec) : List Sec := (List.range n).map (curS sf df)

theorem dirtyN_succ (n : Nat) (df : Int → Option Sec) : dirtyN (n + 1) df = dirtyN n df ++ (if isD df n then [n] else []) := by
  unfold dirtyN
  rw [List.range_succ, List.filter_append]
  congr 1
  cases h : isD df n <;> simp [h]
theorem rk_succ (n : Nat) (df : Int → Option Sec) : rk df (n + 1) = rk df n + (if isD df n then 1 else 0) := by
  unfold rk
  rw [dirtyN_succ]
  cases h : isD df n <;> simp
theorem rk_mono (df : Int → Option Sec) {i j : Nat} (h : i ≤ j) : rk df i ≤ rk df j := by
  induction j with
  | zero => have : i = 0 := by omega
            subst this; exact Nat.le_refl _
  | succ j ih =>
    by_cases e : i = j + 1
    · subst e; exact Nat.le_refl _
    · have := ih (by omega)
      rw [rk_succ]; omega
theorem mem_dirtyN {n : Nat} {df : Int → Option Sec} {i : Nat} : i ∈ dirtyN n df ↔ i < n ∧ isD df i = true := by simp [dirtyN]
/-- The k-th dirty one has k ahead of it. -/
theorem dirtyN_get {n : Nat} {df : Int → Option Sec} {k i : Nat} (h : (dirtyN n df)[k]? = some i) : i < n ∧ isD df i = true ∧ rk df i = k := by
  induction n with
  | zero => simp [dirtyN] at h
  | succ n ih =>
    rw [dirtyN_succ] at h
    by_cases hk : k < (dirtyN n df).length
    · rw [List.getElem?_append_left hk] at h
      obtain ⟨h1, h2, h3⟩ := ih h
      exact ⟨by omega, h2, h3⟩
    · rw [List.getElem?_append_right (by omega)] at h
      cases hd : isD df n with
      | false => simp [hd] at h
      | true =>
        simp only [hd, if_true] at h
        obtain ⟨hk2, rfl⟩ : k - (dirtyN n df).length = 0 ∧ n = i := by
          cases hq : k - (dirtyN n df).length with
          | zero => rw [hq] at h; simp at h; exact ⟨rfl, h⟩
          | succ m => rw [hq] at h; simp at h
        refine ⟨by omega, hd, ?_⟩
        unfold rk; omega
theorem dirtyN_at {n : Nat} {df : Int → Option Sec} {i : Nat} (hi : i < n) (hd : isD df i = true) : (dirtyN n df)[rk df i]? = some i := by
  induction n with
  | zero => omega
  | succ n ih =>
    rw [dirtyN_succ]
    by_cases e : i = n
    · subst e
      rw [List.getElem?_append_right (by unfold rk; omega)]
      simp [hd, rk]
    · have h1 := ih (by omega)
      have : rk df i < (dirtyN n df).length := (List.getElem?_eq_some_iff.1 h1).1
      rw [List.getElem?_append_left this]; exact h1
theorem rk_inj {df : Int → Option Sec} {i j : Nat} (hi : isD df i = true) (hj : isD df j = true) (h : rk df i = rk df j) : i = j := by
  have h1 := dirtyN_at (n := i + j + 1) (by omega : i < _) hi
  have h2 := dirtyN_at (n := i + j + 1) (by omega : j < _) hj
  rw [h, h2] at h1
  exact (Option.some.inj h1).symm

/-- What is safe in a crash, behind the first k of the dirty ones. -/
def crashTo (n : Nat) (sf : List Sec) (df : Int → Option Sec) (keep : List Bool) (k : Nat) : List Sec :=
  (List.range n).map fun i => if isD df i && decide (rk df i < k) && keepAt keep (rk df i) then curS sf df i else sf.getD i zsec
theorem crashTo_zero {n : Nat} {sf : List Sec} (h : sf.length = n) (df : Int → Option Sec) (keep : List Bool) : crashTo n sf df keep 0 = sf := by
  apply List.ext_getElem
  · simp [crashTo, h]
  · intro i h1 h2
    simp [crashTo, List.getD_eq_getElem?_getD, h2]
theorem crashTo_all {n : Nat} (sf : List Sec) (df : Int → Option Sec) (keep : List Bool) : crashTo n sf df keep (dirtyN n df).length = crashS n sf df keep := by
  unfold crashTo crashS
  apply List.map_congr_left
  intro i hi
  have hi : i < n := by simpa using hi
  unfold crashAt
  cases hd : isD df i with
  | false => simp
  | true =>
    have := (List.getElem?_eq_some_iff.1 (dirtyN_at hi hd)).1
    simp [this]
theorem crashTo_succ {n : Nat} (sf : List Sec) (df : Int → Option Sec) (keep : List Bool) {k i : Nat} (h : (dirtyN n df)[k]? = some i) :
    crashTo n sf df keep (k + 1) = if keepAt keep k then (crashTo n sf df keep k).set i (curS sf df i) else crashTo n sf df keep k := by
  obtain ⟨h1, h2, h3⟩ := dirtyN_get h
  have key : ∀ j, j < n → (if isD df j && decide (rk df j < k + 1) && keepAt keep (rk df j) then curS sf df j else sf.getD j zsec) =
      if j = i then (if keepAt keep k then curS sf df i else sf.getD i zsec) else (if isD df j && decide (rk df j < k) && keepAt keep (rk df j) then curS sf df j else sf.getD j zsec) := by
    intro j hj
    by_cases e : j = i
    · subst e; simp [h2, h3]
    · rw [if_neg e]
      cases hd : isD df j with
      | false => simp
      | true =>
        have : rk df j ≠ k := fun e' => e (rk_inj hd h2 (by omega))
        have : decide (rk df j < k + 1) = decide (rk df j < k) := by
          rw [decide_eq_decide]; omega
        rw [this]
  apply List.ext_getElem
  · split <;> simp [crashTo]
  · intro j hj1 hj2
    have hj : j < n := by simpa [crashTo] using hj1
    have e1 : (crashTo n sf df keep (k + 1))[j]'hj1 = (if j = i then (if keepAt keep k then curS sf df i else sf.getD i zsec) else (if isD df j && decide (rk df j < k) && keepAt keep (rk df j) then curS sf df j else sf.getD j zsec)) := by
      rw [← key j hj]; simp [crashTo]
    rw [e1]
    have e2 : ∀ hh, (crashTo n sf df keep k)[j]'hh = if isD df j && decide (rk df j < k) && keepAt keep (rk df j) then curS sf df j else sf.getD j zsec := by
      intro hh; simp [crashTo]
    by_cases hk : keepAt keep k = true
    · simp only [hk, if_true, List.getElem_set]
      by_cases e : j = i
      · subst e; simp
      · have e' : ¬ i = j := fun h => e h.symm
        rw [e2]; simp only [e, e', if_false]
    · simp only [hk, Bool.false_eq_true, if_false]
      rw [e2]
      by_cases e : j = i
      · subst e
        simp [h3]
      · rw [if_neg e]
theorem flushS_len (n : Nat) (sf : List Sec) (df : Int → Option Sec) : (flushS n sf df).length = n := by simp [flushS]
theorem crashS_len (n : Nat) (sf : List Sec) (df : Int → Option Sec) (keep : List Bool) : (crashS n sf df keep).length = n := by simp [crashS]
theorem curS_len {n : Nat} {sf : List Sec} {df : Int → Option Sec} (hl : sf.length = n) (he : ∀ x ∈ sf, x.length = 64) (hs : ∀ i s, df i = some s → 0 ≤ i ∧ i < (n : Int) ∧ s.length = 64) {i : Nat} (hi : i < n) : (curS sf df i).length = 64 := by
  unfold curS
  cases h : df (i : Int) with
  | some s => exact (hs _ s h).2.2
  | none =>
    have hi' : i < sf.length := by omega
    have := he sf[i] (List.getElem_mem hi')
    simpa [List.getD_eq_getElem?_getD, hi'] using this
theorem curS_none (sf : List Sec) (i : Nat) : curS sf (fun _ => none) i = sf.getD i zsec := rfl
theorem dirtyN_none (n : Nat) : dirtyN n (fun _ => none) = [] := by
  unfold dirtyN
  rw [List.filter_eq_nil_iff]
  intro a _
  simp [isD]
theorem flushS_get {n : Nat} (sf : List Sec) (df : Int → Option Sec) {i : Nat} (h : i < n) : (flushS n sf df).getD i zsec = curS sf df i := by
  simp [flushS, List.getD_eq_getElem?_getD, h]
theorem crashS_get {n : Nat} (sf : List Sec) (df : Int → Option Sec) (keep : List Bool) {i : Nat} (h : i < n) : (crashS n sf df keep).getD i zsec = crashAt sf df keep i := by
  simp [crashS, List.getD_eq_getElem?_getD, h]
theorem curS_put (sf : List Sec) (df : Int → Option Sec) (j : Nat) (s : Sec) (i : Nat) : curS sf (putL df (j : Int) s) i = if i = j then s else curS sf df i := by
  unfold curS putL
  by_cases h : i = j
  · subst h; simp
  · have : ¬ (i : Int) = (j : Int) := by omega
    rw [if_neg h, if_neg this]
theorem isD_put (df : Int → Option Sec) (j : Nat) (s : Sec) (i : Nat) : isD (putL df (j : Int) s) i = (decide (i = j) || isD df i) := by
  unfold isD putL
  by_cases h : i = j
  · subst h; simp
  · have : ¬ (i : Int) = (j : Int) := by omega
    rw [if_neg this]; simp [h]
theorem crash_all {n : Nat} (sf : List Sec) (df : Int → Option Sec) (m : Nat) (hm : n ≤ m) {i : Nat} (hi : i < n) : crashAt sf df (List.replicate m true) i = curS sf df i := by
  unfold crashAt
  cases hd : isD df i with
  | true =>
    have h1 := (List.getElem?_eq_some_iff.1 (dirtyN_at hi hd)).1
    have h2 : (dirtyN n df).length ≤ n := by
      have := List.length_filter_le (isD df) (List.range n)
      simpa [dirtyN] using this
    have h3 : rk df i < m := by omega
    have : keepAt (List.replicate m true) (rk df i) = true := by
      simp [keepAt, List.getD_eq_getElem?_getD, h3]
    simp [this]
  | false =>
    have : df (i : Int) = none := by simpa [isD] using hd
    simp [curS, this]
theorem crash_none (sf : List Sec) (df : Int → Option Sec) (i : Nat) : crashAt sf df [] i = sf.getD i zsec := by simp [crashAt, keepAt]
theorem crashAt_or (sf : List Sec) (df : Int → Option Sec) (keep : List Bool) (i : Nat) : crashAt sf df keep i = curS sf df i ∨ crashAt sf df keep i = sf.getD i zsec := by
  unfold crashAt; split <;> simp
theorem crashAt_clean (sf : List Sec) (df : Int → Option Sec) (keep : List Bool) (i : Nat) (h : isD df i = false) : crashAt sf df keep i = sf.getD i zsec := by simp [crashAt, h]

end Go.Proofs.Ytlgimhhhlpmjcaa
