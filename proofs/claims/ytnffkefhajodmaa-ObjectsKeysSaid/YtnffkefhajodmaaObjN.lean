/- ObjectsNil: the walks. -/
import Derived.Test.YtnffkefhajodmaaObjF
import Derived.Test.YtnffkefhajodmaaRd
set_option linter.unusedVariables false
set_option linter.unusedSimpArgs false
namespace Go.Proofs.Ytnffkefhajodmaa
open Go.RowKit

theorem total_nil (w : World) : Calls Try.prog 11 #[.pointer none] w fun e w' => e = .returned (.int .i64 0) ∧ w' = w := by
  go_enter Try.func11, Try.ntmps11
  go_wp2
  go_ret
  exact ⟨rfl, rfl⟩
theorem queue_nil (w : World) : Calls Try.prog 14 #[.pointer none] w fun e w' => e = .returned (.slice none 0 0) ∧ w' = w := by
  go_enter Try.func14, Try.ntmps14
  go_wp2
  go_ret
  exact ⟨rfl, rfl⟩
theorem keys_nil (w : World) : Calls Try.prog 16 #[.pointer none] w fun e w' => e = .returned (.slice none 0 0) ∧ w' = w := by
  go_enter Try.func16, Try.ntmps16
  go_wp2
  go_ret
  exact ⟨rfl, rfl⟩
theorem copy_nil (w : World) : Calls Try.prog 17 #[.pointer none] w fun e w' => e = .returned (.pointer none) ∧ w' = w := by
  go_enter Try.func17, Try.ntmps17
  go_wp2
  go_ret
  exact ⟨rfl, rfl⟩
theorem bytes_nil (w : World) : Calls Try.prog 21 #[.pointer none] w fun e w' => e = .returned (.slice none 0 0) ∧ w' = w := by
  go_enter Try.func21, Try.ntmps21
  go_wp2
  go_ret
  exact ⟨rfl, rfl⟩

theorem do_nil (k n : Int) (key val : ByteArray) (w : World) :
    Calls Try.prog 12 #[.pointer none, .agg #[.int .i64 k, .string key, .string val, .int .i64 n]] w fun e w' => e = .returned (.agg #[.bool false, .string ⟨#[]⟩, .int .i64 0, .int .i64 1]) ∧ Below w.heap.size w w' := by
  go_enter Try.func12, Try.ntmps12
  go_wp2
  go_returns
  exact ⟨rfl, by go_grown⟩

/-- Whether an update is asked about. -/
def fitsU (key val : ByteArray) : Bool := decide (key.size ≤ 100 ∧ val.size ≤ 100)

theorem fits_any (k n : Int) (key val : ByteArray) (w : World) :
    Calls Try.prog 15 #[.agg #[.int .i64 k, .string key, .string val, .int .i64 n]] w fun e w' => e = .returned (.bool (fitsU key val)) ∧ Below w.heap.size w w' := by
  by_cases h1 : (key.size : Int) ≤ 100
  · by_cases h2 : (val.size : Int) ≤ 100
    · have e : fitsU key val = true := by simp [fitsU]; omega
      rw [e]
      go_enter Try.func15, Try.ntmps15
      go_wp2
      go_returns
      exact ⟨rfl, by go_grown⟩
    · have e : fitsU key val = false := by simp [fitsU]; omega
      rw [e]
      go_enter Try.func15, Try.ntmps15
      go_wp2
      go_returns
      exact ⟨rfl, by go_grown⟩
  · have e : fitsU key val = false := by simp [fitsU]; omega
    rw [e]
    go_enter Try.func15, Try.ntmps15
    go_wp2
    go_returns
    exact ⟨rfl, by go_grown⟩

set_option maxRecDepth 100000 in
set_option maxHeartbeats 1000000 in
theorem nil_any (k n : Int) (key val : ByteArray) (w : World) :
    Calls Try.prog 7 #[.agg #[.int .i64 k, .string key, .string val, .int .i64 n]] w fun e w' => e = .returned (.bool true) ∧ Below w.heap.size w w' := by
  have B0 := Lib.hid ((Below.refl w.heap.size w).alloc (Nat.le_refl _) (.cells #[.int .i64 k, .string key, .string val, .int .i64 n] 32))
  have K0 := Lib.hid (Blk.new w #[.int .i64 k, .string key, .string val, .int .i64 n] 32)
  go_enter Try.func7, Try.ntmps7
  go_wp2_with fail
  refine (fits_any k n key val _).mono ?_
  rintro e w1 ⟨rfl, hb1⟩
  have B1 := Lib.hid (below_trans B0.out hb1 (by simp))
  have K1 := Lib.hid (K0.out.below hb1)
  have hz1 : w.heap.size ≤ w1.heap.size := B1.out.size
  clear hb1
  cases hf : fitsU key val with
  | false =>
    go_wp2_with fail
    refine (alive_any _).mono ?_
    rintro e w2 ⟨rfl, hb2⟩
    have HB2 := Lib.hid hb2; clear hb2
    go_wp2
    go_ret
    exact ⟨rfl, below_trans B1.out HB2.out hz1⟩
  | true =>
    go_wp2_with fail
    refine (alive_any _).mono ?_
    rintro e w2 ⟨rfl, hb2⟩
    have B2 := Lib.hid (below_trans B1.out hb2 hz1)
    have K2 := Lib.hid (K1.out.below hb2)
    have k20 := K2.out.cell 0; have k21 := K2.out.cell 1; have k22 := K2.out.cell 2; have k23 := K2.out.cell 3
    simp at k20 k21 k22 k23
    have hz2 : w.heap.size ≤ w2.heap.size := B2.out.size
    clear hb2
    go_wp2_with (first
      | (go_at_call 12; refine (do_nil _ _ _ _ _).mono ?_; rintro e w3 ⟨rfl, hb3⟩; have HB3 := Lib.hid hb3; clear hb3)
      | (go_at_call 16; refine (keys_nil _).mono ?_; rintro e w4 ⟨rfl, rfl⟩)
      | (go_at_call 11; refine (total_nil _).mono ?_; rintro e w4 ⟨rfl, rfl⟩)
      | (go_at_call 14; refine (queue_nil _).mono ?_; rintro e w4 ⟨rfl, rfl⟩)
      | (go_at_call 17; refine (copy_nil _).mono ?_; rintro e w4 ⟨rfl, rfl⟩)
      | (go_at_call 21; refine (bytes_nil _).mono ?_; rintro e w4 ⟨rfl, rfl⟩))
    go_ret
    exact ⟨rfl, below_trans B2.out HB3.out hz2⟩

set_option maxRecDepth 100000 in
/-- An update that came in. -/
theorem open_upd {H : Type} {enc : TypeId × Value → H} {w : World} {base : Nat} {spare : Nat → Bool} {held : Bool} {r : Reach} {b0 : Nat} {v : Value} {d : DataW H} {ps : List MemPlace}
    (hv : Value.okWide Try.prog w r b0 32 v) (h : DataW.Trod enc Try.prog w base spare held 32 v d ps) :
    ∃ k key val n, v = .agg #[.int .i64 k, .string key, .string val, .int .i64 n] ∧ (Lit.int .i64 k).wf = true ∧ (Lit.int .i64 n).wf = true ∧ key.size ≤ maxLen ∧ val.size ≤ maxLen := by
  obtain ⟨v0, v1, v2, v3, y0, y1, y2, y3, m, rfl, _, _, h0, h1, h2, h3⟩ := Go.Joins.open_agg4 Try.underlying32 (by kernel_rfl) (by kernel_rfl) hv h
  obtain ⟨k, e0, _, w0⟩ := DataW.trod_int Try.underlying3 h0
  obtain ⟨key, e1, _, w1⟩ := DataW.trod_string Try.underlying9 h1
  obtain ⟨val, e2, _, w2⟩ := DataW.trod_string Try.underlying9 h2
  obtain ⟨n, e3, _, w3⟩ := DataW.trod_int Try.underlying2 h3
  simp at e0 e1 e2 e3
  subst e0 e1 e2 e3
  exact ⟨k, key, val, n, rfl, w0, w3, w1, w2⟩

end Go.Proofs.Ytnffkefhajodmaa
