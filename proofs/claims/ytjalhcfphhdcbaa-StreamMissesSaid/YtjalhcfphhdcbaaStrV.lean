/- StreamWalks: the walk. -/
import Derived.Test.YtjalhcfphhdcbaaPlainB
import Derived.Test.YtjalhcfphhdcbaaStrP
set_option linter.unusedVariables false
set_option linter.unusedSimpArgs false
namespace Go.Proofs.Ytjalhcfphhdcbaa
open Go.RowKit

theorem FF_len (d : Nat → Bool) (n f lo : Nat) : (FF d n f lo).length ≤ n := by
  unfold FF
  have := List.length_filter_le (fun i => decide (f ≤ i) && d i) (List.range' lo (n - lo))
  simp at this
  omega
theorem prev_pos (m : Nat → Bool) : ∀ i, 0 ≤ (prev m i).1 ∧ 0 ≤ (prev m i).2
  | 0 => ⟨by show (0 : Int) ≤ NN; decide, by show (0 : Int) ≤ NN; decide⟩
  | i + 1 => by
    rw [prev_succ]
    split
    · exact ⟨by show (0 : Int) ≤ (i : Int); omega, (prev_pos m i).1⟩
    · exact prev_pos m i

set_option maxRecDepth 100000 in
set_option maxHeartbeats 4000000 in
theorem walks_law (A : Option Addr) (n c : Nat) (ms : List Md) (s f : Int) (w : World) (h : RdM w A n ms) (hf : 0 ≤ f) :
    Calls Try.prog 5 #[.slice A n c, .int .i64 s, .int .u64 f] w fun e w' => e = .returned (.bool true) ∧ Below w.heap.size w w' := by
  have hlen := h.len
  have hsm := small_any A n c ms w h
  have HSM := Lib.hid hsm; have HH := Lib.hid h; clear hsm h
  go_enter Try.func5, Try.ntmps5
  go_wp2_with fail
  refine HSM.out.mono ?_
  rintro e w1 ⟨r, rfl, hr, rfl⟩
  cases r with
  | false =>
    clear hr
    go_wp2_with fail
    refine (alive_any _).mono ?_
    rintro e w3 ⟨rfl, hb3⟩
    have B3 := Lib.hid hb3; clear hb3
    go_wp2
    go_ret
    exact ⟨rfl, B3.out⟩
  | true =>
    have hS := hr rfl
    have hn100 : n ≤ 100 := by have := hS.1; omega
    have hvl : (view ms).length = n := by rw [view_len]; exact hlen
    have hft := view_fits ms s (by have := hS.1; omega)
    have hwk := walkP_fits hft f.toNat
    rw [show ((f.toNat : Nat) : Int) = f by omega] at hwk
    have hli := linP_fits hft f.toNat
    rw [hvl] at hwk hli
    have hnj := view_nojunk ms s
    have hffl := FF_len (dOf s ms) n f.toNat f.toNat
    rw [FF_all] at hwk
    generalize FF (dOf s ms) n f.toNat f.toNat = F at *
    have hpp := prev_pos (mOf s ms) n
    have HWK := Lib.hid hwk; have HLI := Lib.hid hli; have HNJ := Lib.hid hnj; have HS := Lib.hid hS; have HVL := Lib.hid hvl; have HPP := Lib.hid hpp; clear hwk hli hnj hr hvl hft hpp
    have hbd := build_any A n c ms w1 HH.out HS.out
    have HBD := Lib.hid hbd; clear hbd
    go_wp2_with fail
    refine HBD.out.mono ?_
    rintro e w2 ⟨va, vc, cs, rfl, ho, hsl, hb2⟩
    have hrd : RdV w2 va n (view ms) := slots_rd ho hsl HVL.out
    have HRD := Lib.hid hrd; have B2 := Lib.hid hb2; clear hrd ho hsl hb2
    have hz2 := B2.out.size
    have hmd := made_any A n c ms w2 (HH.out.below B2.out) hn100
    have HMD := Lib.hid hmd; clear hmd
    go_wp2_with fail
    refine HMD.out.mono ?_
    rintro e w3 ⟨mA, mc, rfl, hrm, hb3⟩
    have B3 := Lib.hid (B2.out.trans (hb3.mono hz2)); have HRD3 := Lib.hid (HRD.out.below hb3)
    have hah := ahead_any mA n mc ms s w3 hrm HS.out
    have HAH := Lib.hid hah; clear hah hb3 hrm
    have hz3 := B3.out.size
    go_wp2_with fail
    refine HAH.out.mono ?_
    rintro e w4 ⟨rfl, hb4⟩
    have B4 := Lib.hid (B3.out.trans (hb4.mono hz3)); have HRD4 := Lib.hid (HRD3.out.below hb4)
    clear hb4
    generalize hpv : prev (mOf s ms) n = pv at *
    obtain ⟨p0, p1⟩ := pv
    have hz4 := B4.out.size
    have B5 := Lib.hid (B4.out.alloc hz4 (.cells #[.int .u64 p0, .int .u64 p1] 29))
    have L5 := Lib.hid (Blk.new w4 #[.int .u64 p0, .int .u64 p1] 29)
    have HRD5 := Lib.hid (HRD4.out.below ((Below.refl _ _).alloc (Nat.le_refl _) (.cells #[.int .u64 p0, .int .u64 p1] 29)))
    have hln := linear_any va n vc (view ms) s f _ HRD5.out (view_small ms HS.out) hf
    rw [HLI.out] at hln
    have HLN := Lib.hid hln; clear hln
    go_wp2_with fail
    refine HLN.out.mono ?_
    rintro e w6 ⟨v1, rfl, hr1, hb6⟩
    have B6 := Lib.hid (B5.out.trans (hb6.mono B5.out.size)); have L6 := Lib.hid (L5.out.below hb6); have HRD6 := Lib.hid (HRD5.out.below hb6); have R6 := Lib.hid hr1
    clear hb6 hr1
    have l0 := L6.out.cell 0; have l1 := L6.out.cell 1
    simp at l0 l1
    have hll := L6.out.lt
    have hz6 := B6.out.size
    have hwk := Walk_any va n vc (view ms) s f p0 p1 w6 HRD6.out (view_small ms HS.out) (view_nat ms) hf HPP.out.1 HPP.out.2
    have hw1 : (walkP s f (view ms) p0 p1).1 = 0 := HWK.out.1
    have hw2 : (walkP s f (view ms) p0 p1).2.1 = F := HWK.out.2.1
    rw [if_pos hw1, hw1, hw2] at hwk
    clear hw1 hw2
    have HW := Lib.hid hwk; clear hwk
    go_wp2_with fail
    refine HW.out.mono ?_
    rintro e w7 ⟨v2, rfl, hr2, hb7⟩
    have B7 := Lib.hid (B6.out.trans (hb7.mono hz6)); have L7 := Lib.hid (L6.out.below hb7); have HRD7 := Lib.hid (HRD6.out.below hb7); have RA7 := Lib.hid (R6.out.below hb7); have RB7 := Lib.hid hr2
    clear hb7 hr2 l0 l1 hll
    obtain ⟨oa, oc, rfl⟩ := RA7.out.form
    have hK : ∃ K : Nat, K = (walkP s f (view ms) p0 p1).2.2 := ⟨_, rfl⟩
    obtain ⟨K, hK⟩ := hK
    have hK1 : K ≤ n := by rw [hK]; exact HWK.out.2.2.1
    have hK2 : (∀ i, mOf s ms i = true → dOf s ms i = true) → F.length = K := by rw [hK]; exact HWK.out.2.2.2
    have hst : ∀ W, Below w7.heap.size w7 W → Calls Try.prog 21 #[.slice va n vc, .int .i64 s, .agg #[.int .u64 p0, .int .u64 p1], .int .u64 f] W fun e w' => e = .returned (.int .i64 (K : Int)) ∧ Below W.heap.size W w' := fun W hW =>
      (Steps_any va n vc (view ms) s f p0 p1 W (HRD7.out.below hW) (view_small ms HS.out) (view_nat ms) hf HPP.out.1 HPP.out.2).mono fun e w' h => ⟨by rw [h.1, if_pos (show (walkP s f (view ms) p0 p1).1 = 0 from HWK.out.1), hK], h.2⟩
    have hsa : ∀ W, Below w7.heap.size w7 W → Calls Try.prog 16 #[.slice oa F.length oc, v2] W fun e w' => e = .returned (.bool true) ∧ Below W.heap.size W w' := fun W hW =>
      (same_any _ v2 _ _ F F W (RA7.out.below hW) (RB7.out.below hW) (by omega)).mono fun e w' h => ⟨by rw [h.1]; simp, h.2⟩
    have HK2 := Lib.hid hK2; have HST := Lib.hid hst; have HSA := Lib.hid hsa; clear hK hK2 hst hsa
    have l0 := L7.out.cell 0; have l1 := L7.out.cell 1
    simp at l0 l1
    have hll := L7.out.lt
    have hz7 := B7.out.size
    go_wp2
    go_loopw [14, 15] (fun jv iv wq => ∃ k : Nat, k ≤ n ∧ jv = .bool (((view ms).take k).any fun y => decide (y.kind = 2)) ∧ iv = .int .i64 k ∧ wq = w7) (fun _ iv _ => n - (intOf iv).toNat)
    case atStart => exact ⟨0, Nat.zero_le _, rfl, rfl, rfl⟩
    case round =>
      obtain ⟨k, hk, rfl, rfl, rfl⟩ := hrel
      by_cases hkn : k < n
      · obtain ⟨g, off, rfl, hvc⟩ := HRD7.out.at' (by omega)
        have hkv : k < (view ms).length := by rw [HVL.out]; exact hkn
        obtain ⟨dA, dc, bA, bn, bc, -, d1, -, -, -⟩ := hvc k hkv
        have ht : ((view ms).take (k + 1)).any (fun y => decide (y.kind = 2)) = (((view ms).take k).any (fun y => decide (y.kind = 2)) || decide ((view ms)[k].kind = 2)) := by
          rw [List.take_succ_eq_append_getElem hkv, List.any_append]; simp
        have HT := Lib.hid ht; clear ht hvc
        generalize (view ms)[k].kind = kk at *
        have hkn' : (k : Int) < n := by omega
        have hk0 : (0 : Int) ≤ (k : Int) := by omega
        have hk100 : (k : Int) < 100 := by omega
        cases hj : ((view ms).take k).any (fun y => decide (y.kind = 2)) with
        | true =>
          have HT' := Lib.hid (HT.out.trans (by rw [hj, Bool.true_or] : _ = true))
          go_wp2
          go_roundw
          case rel => exact ⟨k + 1, by omega, by rw [HT'.out], by go_num, by first | rfl | trivial⟩
          case measure => simp [intOf]; omega
        | false =>
          have HT' := Lib.hid (HT.out.trans (by rw [hj, Bool.false_or] : _ = decide (kk = 2)))
          go_wp2
          go_roundw
          case rel => exact ⟨k + 1, by omega, by rw [HT'.out]; first | rfl | (congr 1; rw [Bool.eq_iff_iff]; simp), by go_num, by first | rfl | trivial⟩
          case measure => simp [intOf]; omega
      · have hkk : k = n := by omega
        subst hkk
        have htk : (view ms).take k = view ms := List.take_of_length_le (by rw [HVL.out]; exact Nat.le_refl _)
        rw [htk]
        have hJ : ((view ms).any fun y => decide (y.kind = 2)) = false → F.length = K := fun hj => HK2.out (HNJ.out fun i hi => by
          have := List.any_eq_false.1 hj (view ms)[i] (List.getElem_mem hi)
          simpa using this)
        have HJ := Lib.hid hJ; clear hJ htk
        generalize ((view ms).any fun y => decide (y.kind = 2)) = J at *
        have hK100 : (K : Int) ≤ k := by omega
        have hk100 : (k : Int) ≤ 100 := by omega
        go_wp2_with fail
        refine (HST.out _ (Below.refl _ _)).mono ?_
        rintro e w8 ⟨rfl, hb8⟩
        have B8 := Lib.hid (B7.out.trans (hb8.mono hz7)); have X8 := Lib.hid hb8
        clear hb8
        go_wp2_with fail
        refine (alive_any _).mono ?_
        rintro e w9 ⟨rfl, hb9⟩
        have B9 := Lib.hid (B8.out.trans (hb9.mono B8.out.size)); have X9 := Lib.hid (X8.out.trans (hb9.mono X8.out.size))
        clear hb9
        go_wp2_with fail
        refine (HSA.out _ X9.out).mono ?_
        rintro e w10 ⟨rfl, hb10⟩
        have B10 := Lib.hid (B9.out.trans (hb10.mono B9.out.size))
        clear hb10
        have hmul : (K : Int) ≤ 2 * (k : Int) := by omega
        cases J with
        | true =>
          go_wp2
          go_ret
          exact ⟨rfl, B10.out⟩
        | false =>
          have hKF := HJ.out rfl
          subst hKF
          go_wp2
          go_ret
          exact ⟨rfl, B10.out⟩
end Go.Proofs.Ytjalhcfphhdcbaa
