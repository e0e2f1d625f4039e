/- The law's and the document's small functions over makings: Streams, small, made, Ahead. -/
import Derived.Test.YtjalhcfphhdcbaaStrO
import Derived.Test.YtjalhcfphhdcbaaPlainW
set_option linter.unusedVariables false
set_option linter.unusedSimpArgs false
namespace Go.Proofs.Ytjalhcfphhdcbaa
open Go.RowKit

set_option maxRecDepth 100000 in
set_option maxHeartbeats 1000000 in
theorem streams_any (A : Option Addr) (n c : Nat) (xs : List Int) (w : World) (h : RdJ .i64 w A n xs) (hn : n ≤ 100) :
    Calls Try.prog 30 #[.slice A n c] w fun e w' => e = .returned (.bool (risB (-1) xs && decide (n ≤ 4))) ∧ Below w.heap.size w w' := by
  have hlen := h.len
  have HH := Lib.hid h; clear h
  go_enter Try.func30, Try.ntmps30
  go_wp2
  go_loopw [3] (fun i wr => ∃ k : Nat, k ≤ n ∧ i = .int .i64 k ∧ Below w.heap.size w wr ∧ (0 < k → 0 ≤ lastI (-1) xs k) ∧ Hid (risB (-1) xs = risB (lastI (-1) xs k) (xs.drop k))) (fun i _ => n - (intOf i).toNat)
  case atStart => exact ⟨0, Nat.zero_le _, rfl, Below.refl _ _, fun h => absurd h (by omega), Lib.hid rfl⟩
  case round =>
    obtain ⟨k, hk, rfl, hb, hpos, hr⟩ := hrel
    by_cases hlt : k < n
    · obtain ⟨b, off, rfl, hc⟩ := HH.out.at' (by omega)
      have hk1 : k < xs.length := by omega
      have d0 := hc k hk1
      have hbw : b < w.heap.size := World.block_lt_of_cell? w _ d0
      have c0 := (hb.cell (p := ⟨b, off + k, none⟩) hbw).trans d0
      have hrd := risB_drop (-1) xs k hk1
      have hS : lastI (-1) xs (k + 1) = xs[k] := by simp [lastI, List.getD_eq_getElem?_getD, hk1]
      have HB := Lib.hid hb; clear hb d0
      cases k with
      | zero =>
        have HRD := Lib.hid hrd; have HS := Lib.hid hS; clear hrd hS hc hpos
        simp only [Nat.add_zero] at c0
        generalize xs[0] = x at *
        have hl0 : lastI (-1) xs 0 = -1 := rfl
        have hn0 : (0 : Int) < n := by omega
        cases h1 : decide (x < 0) with
        | true =>
          have hx := of_decide_eq_true h1
          have E := Lib.hid (hr.out.trans (HRD.out.trans (by rw [hl0]; simp; omega : _ = false)))
          clear hx
          go_wp2
          go_quiet (fail)
          go_wp2
          go_ret
          exact ⟨by rw [E.out]; rfl, below_drewN HB.out _⟩
        | false =>
          have hx := of_decide_eq_false h1
          cases h2 : decide (16 ≤ x) with
          | true =>
            have hx2 := of_decide_eq_true h2
            have E := Lib.hid (hr.out.trans (HRD.out.trans (by rw [hl0]; simp; omega : _ = false)))
            clear hx hx2
            go_wp2
            go_quiet (fail)
            go_wp2
            go_ret
            exact ⟨by rw [E.out]; rfl, below_drewN HB.out _⟩
          | false =>
            have hx2 := of_decide_eq_false h2
            have E := Lib.hid (hr.out.trans (HRD.out.trans (by rw [hl0]; simp; omega : _ = risB (lastI (-1) xs (0 + 1)) (xs.drop (0 + 1)))))
            have hx0 : 0 ≤ x := by omega
            clear hx hx2
            go_wp2
            go_quiet (fail)
            go_wp2
            go_roundw
            case rel => exact ⟨0 + 1, by omega, by go_num, below_drewN HB.out _, fun _ => by rw [HS.out]; exact hx0, E⟩
            case measure => first | (simp [intOf]; done) | (simp [intOf]; omega)
      | succ j =>
        have hj1 : j < xs.length := by omega
        have f0 := hc j hj1
        have c1 := (HB.out.cell (p := ⟨b, off + j, none⟩) hbw).trans f0
        have hl0 : lastI (-1) xs (j + 1) = xs[j] := by simp [lastI, List.getD_eq_getElem?_getD, hj1]
        have hpp := hpos (by omega)
        rw [hl0] at hpp
        have HRD := Lib.hid hrd; have HS := Lib.hid hS; have HL0 := Lib.hid hl0; clear hrd hS hc hpos hl0 f0
        generalize xs[j + 1] = x at *
        generalize xs[j] = pv at *
        have hd : 0 < j + 1 := by omega
        have hn0 : (0 : Int) ≤ (j : Int) + 1 := by omega
        have hn1 : ((j : Int) + 1).toNat = j + 1 := by omega
        have hn2 : (0 : Int) < (j : Int) + 1 := by omega
        have hwj : IntKind.i64.wrap (j : Int) = (j : Int) := by rw [IntKind.wrap_i64]; omega
        have hjn : (j : Int) < n := by omega
        have hjn1 : (j : Int) + 1 < n := by omega
        have hj100 : (j : Int) < 100 := by omega
        cases h1 : decide (x < 0) with
        | true =>
          have hx := of_decide_eq_true h1
          have E := Lib.hid (hr.out.trans (HRD.out.trans (by rw [HL0.out]; simp; omega : _ = false)))
          clear hx
          go_wp2
          go_quiet (fail)
          go_wp2
          go_ret
          exact ⟨by rw [E.out]; rfl, below_drewN HB.out _⟩
        | false =>
          have hx := of_decide_eq_false h1
          cases h2 : decide (16 ≤ x) with
          | true =>
            have hx2 := of_decide_eq_true h2
            have E := Lib.hid (hr.out.trans (HRD.out.trans (by rw [HL0.out]; simp; omega : _ = false)))
            clear hx hx2
            go_wp2
            go_quiet (fail)
            go_wp2
            go_ret
            exact ⟨by rw [E.out]; rfl, below_drewN HB.out _⟩
          | false =>
            have hx2 := of_decide_eq_false h2
            cases h3 : decide (x ≤ pv) with
            | true =>
              have hx3 := of_decide_eq_true h3
              have E := Lib.hid (hr.out.trans (HRD.out.trans (by rw [HL0.out]; simp; omega : _ = false)))
              clear hx hx2 hx3
              go_wp2
              go_quiet (fail)
              go_wp2
              go_ret
              exact ⟨by rw [E.out]; rfl, below_drewN HB.out _⟩
            | false =>
              have hx3 := of_decide_eq_false h3
              have E := Lib.hid (hr.out.trans (HRD.out.trans (by rw [HL0.out]; simp; omega : _ = risB (lastI (-1) xs (j + 1 + 1)) (xs.drop (j + 1 + 1)))))
              have hx0 : 0 ≤ x := by omega
              clear hx hx2 hx3
              go_wp2
              go_quiet (fail)
              go_wp2
              go_roundw
              case rel => exact ⟨j + 1 + 1, by omega, by go_num, below_drewN HB.out _, fun _ => by rw [HS.out]; exact hx0, E⟩
              case measure => first | (simp [intOf]; done) | (simp [intOf]; omega)
    · have hkk : k = n := by omega
      subst hkk
      have E : risB (-1) xs = true := by rw [hr.out, List.drop_of_length_le (by omega)]; rfl
      have E' := Lib.hid E; have HB := Lib.hid hb; clear E hb
      go_wp2
      go_ret
      exact ⟨by rw [E'.out]; simp; omega, HB.out⟩
end Go.Proofs.Ytjalhcfphhdcbaa
