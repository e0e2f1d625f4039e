/- objects: Right. -/
import Derived.Test.YtnffkefhajodmaaObjA
set_option linter.unusedVariables false
set_option linter.unusedSimpArgs false
namespace Go.Proofs.Ytnffkefhajodmaa
open Go.RowKit

/-- What Right says. -/
def rightB (k : Int) (key val : ByteArray) (n : Int) : Bool :=
  decide (1 ≤ k ∧ k ≤ 8 ∧ key.size ≤ 16 ∧ val.size ≤ 60) &&
  (decide (k = 1 ∧ n = 0 ∧ key.size ≠ 0) || decide ((k = 2 ∨ k = 3) ∧ n = 0 ∧ key.size ≠ 0 ∧ val.size = 0) || decide (k = 4 ∧ key.size = 0 ∧ val.size = 0) || decide (k = 6 ∧ key.size = 0 ∧ n = 0) || decide ((k = 5 ∨ k = 7 ∨ k = 8) ∧ key.size = 0 ∧ val.size = 0 ∧ n = 0))



set_option maxHeartbeats 4000000 in
theorem right_any (k n : Int) (key val : ByteArray) (w : World) :
    Calls Try.prog 27 #[.agg #[.int .i64 k, .string key, .string val, .int .i64 n]] w fun e w' => e = .returned (.bool (rightB k key val n)) ∧ Below w.heap.size w w' := by
  by_cases hall : (1 ≤ k ∧ k ≤ 8) ∧ key.size ≤ 16 ∧ val.size ≤ 60
  · obtain ⟨⟨h1, h2⟩, h3, h4⟩ := hall
    have h5 : (key.size : Int) ≤ 16 := by omega
    have h6 : (val.size : Int) ≤ 60 := by omega
    have hkk : k = 1 ∨ k = 2 ∨ k = 3 ∨ k = 4 ∨ k = 5 ∨ k = 6 ∨ k = 7 ∨ k = 8 := by omega
    rcases hkk with rfl | rfl | rfl | rfl | rfl | rfl | rfl | rfl
    all_goals
      go_enter Try.func27, Try.ntmps27
      go_wp2
      all_goals
        go_returns
        refine ⟨ret_bool ?_, by go_grown⟩
        simp only [rightB]
        simp [*, toList_nil_iff_emptyBytes] at *
        try simp [*, toList_nil_iff_emptyBytes] at *
        try simp only [decide_eq_emptyBytes]
  · have e : rightB k key val n = false := by
      simp only [rightB, Bool.and_eq_false_iff, decide_eq_false_iff_not]
      exact .inl (by omega)
    rw [e]
    go_enter Try.func27, Try.ntmps27
    by_cases c1 : k < 1
    · go_wp2
      go_returns
      exact ⟨rfl, by go_grown⟩
    · by_cases c2 : 8 < k
      · go_wp2
        go_returns
        exact ⟨rfl, by go_grown⟩
      · by_cases c3 : 16 < (key.size : Int)
        · go_wp2
          go_returns
          exact ⟨rfl, by go_grown⟩
        · have c4 : 60 < (val.size : Int) := by omega
          go_wp2
          go_returns
          exact ⟨rfl, by go_grown⟩
end Go.Proofs.Ytnffkefhajodmaa
