/- StreamReads: the walk. -/
import Derived.Test.YtjalhcfphhdcbaaStrP
import Derived.Test.YtjalhcfphhdcbaaStrK
set_option linter.unusedVariables false
set_option linter.unusedSimpArgs false
namespace Go.Proofs.Ytjalhcfphhdcbaa
open Go.RowKit

theorem walkP_list (s f : Int) (vs : List Sl) (p0 p1 : Int) : (if (walkP s f vs p0 p1).1 = 0 then (walkP s f vs p0 p1).2.1 else []) = (walkP s f vs p0 p1).2.1 := by
  by_cases h : (walkP s f vs p0 p1).1 = 0
  · rw [if_pos h]
  · rw [if_neg h, walkP_err s f vs p0 p1 h]
theorem walkP_steps (s f : Int) (vs : List Sl) (p0 p1 : Int) : (if (walkP s f vs p0 p1).1 = 0 then ((walkP s f vs p0 p1).2.2 : Int) else 0) = ((walkP s f vs p0 p1).2.2 : Int) := by
  by_cases h : (walkP s f vs p0 p1).1 = 0
  · rw [if_pos h]
  · rw [if_neg h, walkP_err s f vs p0 p1 h]; rfl
theorem linR_len (s : Int) : ∀ (xs : List Sl) (a : Nat), (linR s a xs).1.length ≤ xs.length
  | [], _ => Nat.le_refl _
  | x :: xs, a => by
    unfold linR
    split
    · unfold cont
      have := linR_len s xs (a + 1)
      split
      · split <;> simp <;> omega
      · simp
    · simp
theorem linP_len (s : Int) (vs : List Sl) (f : Nat) : (linP s vs f).1.length ≤ vs.length := by
  have := linR_len s (vs.drop f) f
  simp at this
  unfold linP
  omega
theorem walkF_len (s f : Int) (vs : List Sl) : ∀ (m : Nat) (p : PS) (acc : List Nat) (k : Nat), (walkF s f vs m p acc k).2.1.length ≤ acc.length + m
  | 0, p, acc, k => Nat.le_refl _
  | m + 1, p, acc, k => by
    unfold walkF
    split
    · simp
    · split
      · have := walkF_len s f vs m (stepP s f vs p).2.1 (addIf (stepP s f vs p).2.2 acc p.p0.toNat) (k + 1)
        have := addIf_le (stepP s f vs p).2.2 acc p.p0.toNat acc.length (Nat.le_refl _)
        omega
      · simp
theorem walkP_len (s f : Int) (vs : List Sl) (p0 p1 : Int) : (walkP s f vs p0 p1).2.1.length ≤ vs.length + 2 := by
  have := walkF_len s f vs (vs.length + 2) ⟨p0, p1, true⟩ [] 0
  unfold walkP
  simp at this ⊢
  omega

set_option maxRecDepth 100000 in
set_option maxHeartbeats 4000000 in
theorem reads_law (A : Option Addr) (n c : Nat) (vs : List Sl) (s f0 f1 f2 : Int) (w : World) (hv : RdV w A n vs) (hN : NatV vs) (h0 : 0 ≤ f0) (h1 : 0 ≤ f1) (h2 : 0 ≤ f2) :
    Calls Try.prog 4 #[.slice A n c, .int .i64 s, .agg #[.int .u64 f0, .int .u64 f1, .int .u64 f2]] w fun e w' => e = .returned (.bool true) ∧ Below w.heap.size w w' := by
  have b1 : Below w.heap.size w (w.alloc (.cells #[.int .u64 f0, .int .u64 f1, .int .u64 f2] 24)) := (Below.refl _ _).alloc (Nat.le_refl _) _
  have t1 := Blk.new w #[.int .u64 f0, .int .u64 f1, .int .u64 f2] 24
  have hft := fits_any A n c vs _ (hv.below b1)
  have HFT := Lib.hid hft; have B1 := Lib.hid b1; have T1 := Lib.hid t1; have HV := Lib.hid hv; have HN := Lib.hid hN; clear hft b1 t1 hv hN
  go_enter Try.func4, Try.ntmps4
  go_wp2_with fail
  refine HFT.out.mono ?_
  rintro e w2 ⟨r, rfl, hr, hb2⟩
  have B2 := Lib.hid (B1.out.trans (hb2.mono B1.out.size))
  have T2 := Lib.hid (T1.out.below hb2)
  have hz2 := B2.out.size
  clear hb2
  cases r with
  | false =>
    clear hr
    go_wp2_with fail
    refine (alive_any _).mono ?_
    rintro e w3 ⟨rfl, hb3⟩
    have B3 := Lib.hid (B2.out.trans (hb3.mono hz2)); clear hb3
    go_wp2
    go_ret
    exact ⟨rfl, B3.out⟩
  | true =>
    obtain ⟨hl100, hb30⟩ := hr rfl
    have hsm : SmallV vs := ⟨hl100, fun x hx => Nat.le_trans (hb30 x hx) (by decide)⟩
    have hlen := HV.out.len
    have hn100 : n ≤ 100 := by omega
    have HSM := Lib.hid hsm; clear hr hsm hb30
    have q0 := T2.out.cell 0; have q1 := T2.out.cell 1; have q2 := T2.out.cell 2
    simp at q0 q1 q2
    have htl := T2.out.lt
    -- last
    have B3 := Lib.hid (B2.out.alloc hz2 (.cells #[.int .u64 f0, .int .u64 f1] 29))
    have T3 := Lib.hid (T2.out.alloc (.cells #[.int .u64 f0, .int .u64 f1] 29))
    have L3 := Lib.hid (Blk.new w2 #[.int .u64 f0, .int .u64 f1] 29)
    have hln := linear_any A n c vs s f2 _ (HV.out.below B3.out) HSM.out h2
    have HLN := Lib.hid hln; clear hln
    go_wp2_with fail
    refine HLN.out.mono ?_
    rintro e w4 ⟨v1, rfl, hr1, hb4⟩
    have B4 := Lib.hid (B3.out.trans (hb4.mono B3.out.size))
    have T4 := Lib.hid (T3.out.below hb4); have L4 := Lib.hid (L3.out.below hb4); have R4 := Lib.hid hr1
    clear hb4 hr1 q0 q1 q2
    have q2 := T4.out.cell 2
    have l0 := L4.out.cell 0; have l1 := L4.out.cell 1
    simp at q2 l0 l1
    have htl4 := T4.out.lt; have hll4 := L4.out.lt
    have htd : ∀ W, Below w.heap.size w W → Calls Try.prog 19 #[.slice A n c] W fun e w' => ∃ A' c', e = .returned (.slice A' n c') ∧ RdV w' A' n vs ∧ Below W.heap.size W w' := fun W hW => told_any A n c vs W (HV.out.below hW) hn100
    have HTD := Lib.hid htd; clear htd
    have X4 := Lib.hid (B4.out.drew)
    go_wp2_with fail
    go_region_held3 (fun W => W.cell? ⟨w.heap.size, 2, none⟩ = some (.int .u64 f2)) (first | exact r2 | go_keep)
      (first
        | (go_at_call 19; refine (HTD.out _ X4.out).mono ?_; rintro e w5 ⟨A5, c5, rfl, hrd5, hb5⟩
           have r2 := (hb5.cell (p := ⟨w.heap.size, 2, none⟩) htl4).trans q2
           have HRD5 := Lib.hid hrd5; have HB5 := Lib.hid hb5; clear hrd5 hb5)
        | (go_at_call 18; refine (refLinear_any A5 n c5 vs s f2 w5 HRD5.out HSM.out h2).mono ?_; rintro e w6 ⟨v2, rfl, hr2, hb6⟩
           have r2' := r2
           have r2 := (hb6.cell (p := ⟨w.heap.size, 2, none⟩) (World.block_lt_of_cell? w5 _ r2')).trans r2'
           have HR2 := Lib.hid hr2; have HB6 := Lib.hid hb6; clear hr2 hb6))
    have B5 := Lib.hid (X4.out.trans (HB5.out.mono X4.out.size))
    have B6 := Lib.hid (B5.out.trans (HB6.out.mono B5.out.size))
    have T6 := Lib.hid ((T4.out.drew.below HB5.out).below HB6.out)
    have L6 := Lib.hid ((L4.out.drew.below HB5.out).below HB6.out)
    have RA6 : Hid (RowU w6 _ v1 (linP s vs f2.toNat).1) := Lib.hid (((show RowU w4.drew _ v1 (linP s vs f2.toNat).1 from R4.out).below HB5.out).below HB6.out)
    have hll := linP_len s vs f2.toNat
    clear HB5 HB6 HRD5 R4 T4 L4 q2 l0 l1 r2 htl4 hll4
    have hz6 := B6.out.size
    have q2 := T6.out.cell 2
    have l0 := L6.out.cell 0; have l1 := L6.out.cell 1
    simp at q2 l0 l1
    have htl6 := T6.out.lt; have hll6 := L6.out.lt
    have hwk := Walk_any A n c vs s f2 f0 f1 w6 (HV.out.below B6.out) HSM.out HN.out h2 h0 h1
    rw [walkP_list] at hwk
    have HWK := Lib.hid hwk; clear hwk
    go_wp2_with fail
    refine HWK.out.mono ?_
    rintro e w7 ⟨v3, rfl, hr3, hb7⟩
    have B7 := Lib.hid (B6.out.trans (hb7.mono hz6))
    have T7 := Lib.hid (T6.out.below hb7); have L7 := Lib.hid (L6.out.below hb7); have RA7 := Lib.hid (RA6.out.below hb7); have RB7 := Lib.hid (HR2.out.below hb7); have RC7 := Lib.hid hr3
    clear hb7 hr3 q2 l0 l1 RA6 HR2 T6 L6 htl6 hll6
    have q2 := T7.out.cell 2
    have l0 := L7.out.cell 0; have l1 := L7.out.cell 1
    simp at q2 l0 l1
    have htl7 := T7.out.lt; have hll7 := L7.out.lt
    have X7 := Lib.hid (B7.out.drew)
    go_wp2_with fail
    go_region_held3 (fun W => W.cell? ⟨w.heap.size, 2, none⟩ = some (.int .u64 f2) ∧ W.cell? ⟨w2.heap.size, 0, none⟩ = some (.int .u64 f0) ∧ W.cell? ⟨w2.heap.size, 1, none⟩ = some (.int .u64 f1)) (first | exact ⟨r2, r3, r4⟩ | go_keep)
      (first
        | (go_at_call 19; refine (HTD.out _ X7.out).mono ?_; rintro e w8 ⟨A8, c8, rfl, hrd8, hb8⟩
           have r2 := (hb8.cell (p := ⟨w.heap.size, 2, none⟩) htl7).trans q2
           have r3 := (hb8.cell (p := ⟨w2.heap.size, 0, none⟩) hll7).trans l0
           have r4 := (hb8.cell (p := ⟨w2.heap.size, 1, none⟩) hll7).trans l1
           have HRD8 := Lib.hid hrd8; have HB8 := Lib.hid hb8; clear hrd8 hb8)
        | (go_at_call 20; refine (refWalk_any A8 n c8 vs s f2 f0 f1 w8 HRD8.out HSM.out HN.out h2 h0 h1).mono ?_; rintro e w9 ⟨v4, rfl, hr9, hb9⟩
           have r2' := r2; have r3' := r3; have r4' := r4
           have r2 := (hb9.cell (p := ⟨w.heap.size, 2, none⟩) (World.block_lt_of_cell? w8 _ r2')).trans r2'
           have r3 := (hb9.cell (p := ⟨w2.heap.size, 0, none⟩) (World.block_lt_of_cell? w8 _ r3')).trans r3'
           have r4 := (hb9.cell (p := ⟨w2.heap.size, 1, none⟩) (World.block_lt_of_cell? w8 _ r4')).trans r4'
           have HR9 := Lib.hid hr9; have HB9 := Lib.hid hb9; clear hr9 hb9))
    have B8 := Lib.hid (X7.out.trans (HB8.out.mono X7.out.size))
    have B9 := Lib.hid (B8.out.trans (HB9.out.mono B8.out.size))
    have T9 := Lib.hid ((T7.out.drew.below HB8.out).below HB9.out)
    have L9 := Lib.hid ((L7.out.drew.below HB8.out).below HB9.out)
    have RA9 : Hid (RowU w9 _ v1 (linP s vs f2.toNat).1) := Lib.hid (((show RowU w7.drew _ v1 (linP s vs f2.toNat).1 from RA7.out).below HB8.out).below HB9.out)
    have RB9 : Hid (RowU w9 _ v2 (linP s vs f2.toNat).1) := Lib.hid (((show RowU w7.drew _ v2 (linP s vs f2.toNat).1 from RB7.out).below HB8.out).below HB9.out)
    have RC9 : Hid (RowU w9 _ v3 (walkP s f2 vs f0 f1).2.1) := Lib.hid (((show RowU w7.drew _ v3 (walkP s f2 vs f0 f1).2.1 from RC7.out).below HB8.out).below HB9.out)
    have hwl := walkP_len s f2 vs f0 f1
    clear HB8 HB9 HRD8 RA7 RB7 RC7 T7 L7 q2 l0 l1 r2 r3 r4 htl7 hll7
    have hz9 := B9.out.size
    have q2 := T9.out.cell 2
    have l0 := L9.out.cell 0; have l1 := L9.out.cell 1
    simp at q2 l0 l1
    have htl9 := T9.out.lt; have hll9 := L9.out.lt
    have hs1 : ∀ W, Below w9.heap.size w9 W → Calls Try.prog 16 #[v1, v2] W fun e w' => e = .returned (.bool true) ∧ Below W.heap.size W w' := fun W hW =>
      (same_any v1 v2 _ _ _ _ W (RA9.out.below hW) (RB9.out.below hW) (by omega)).mono fun e w' h => ⟨by rw [h.1]; simp, h.2⟩
    have hs2 : ∀ W, Below w9.heap.size w9 W → Calls Try.prog 16 #[v3, v4] W fun e w' => e = .returned (.bool true) ∧ Below W.heap.size W w' := fun W hW =>
      (same_any v3 v4 _ _ _ _ W (RC9.out.below hW) (HR9.out.below hW) (by omega)).mono fun e w' h => ⟨by rw [h.1]; simp, h.2⟩
    have hst : ∀ W, Below w9.heap.size w9 W → Calls Try.prog 21 #[.slice A n c, .int .i64 s, .agg #[.int .u64 f0, .int .u64 f1], .int .u64 f2] W fun e w' => e = .returned (.int .i64 ((walkP s f2 vs f0 f1).2.2 : Int)) ∧ Below W.heap.size W w' := fun W hW =>
      (Steps_any A n c vs s f2 f0 f1 W ((HV.out.below B9.out).below hW) HSM.out HN.out h2 h0 h1).mono fun e w' h => ⟨by rw [h.1, walkP_steps], h.2⟩
    have HS1 := Lib.hid hs1; have HS2 := Lib.hid hs2; have HST := Lib.hid hst; clear hs1 hs2 hst
    have X9 := Lib.hid ((Below.refl w9.heap.size w9).drew)
    generalize (linP s vs f2.toNat).2 = le at *
    generalize (walkP s f2 vs f0 f1).1 = we at *
    go_wp2_with fail
    have m2 := q2; have m3 := l0; have m4 := l1
    go_region_held3 (fun W => W.cell? ⟨w.heap.size, 2, none⟩ = some (.int .u64 f2) ∧ W.cell? ⟨w2.heap.size, 0, none⟩ = some (.int .u64 f0) ∧ W.cell? ⟨w2.heap.size, 1, none⟩ = some (.int .u64 f1)) (first | exact ⟨r2, r3, r4⟩ | go_keep)
      (first
        | (go_at_call 10; refine (alive_any _).mono ?_; rintro e wA ⟨rfl, hbA⟩; have r2 := (hbA.cell (p := ⟨w.heap.size, 2, none⟩) htl9).trans q2; have r3 := (hbA.cell (p := ⟨w2.heap.size, 0, none⟩) hll9).trans l0; have r4 := (hbA.cell (p := ⟨w2.heap.size, 1, none⟩) hll9).trans l1; have HA := Lib.hid (X9.out.trans (hbA.mono X9.out.size)); clear hbA)
        | (go_at_call 16; (with_reducible refine (HS1.out wA HA.out).mono ?_); rintro e wB ⟨rfl, hbB⟩; have HB := Lib.hid (HA.out.trans (hbB.mono HA.out.size)); have r2 := (HB.out.cell (p := ⟨w.heap.size, 2, none⟩) htl9).trans q2; have r3 := (HB.out.cell (p := ⟨w2.heap.size, 0, none⟩) hll9).trans l0; have r4 := (HB.out.cell (p := ⟨w2.heap.size, 1, none⟩) hll9).trans l1; clear hbB)
        | (go_at_call 16; (with_reducible refine (HS2.out wB HB.out).mono ?_); rintro e wC ⟨rfl, hbC⟩; have HC := Lib.hid (HB.out.trans (hbC.mono HB.out.size)); have r2 := (HC.out.cell (p := ⟨w.heap.size, 2, none⟩) htl9).trans q2; have r3 := (HC.out.cell (p := ⟨w2.heap.size, 0, none⟩) hll9).trans l0; have r4 := (HC.out.cell (p := ⟨w2.heap.size, 1, none⟩) hll9).trans l1; clear hbC)
        | (go_at_call 21; refine (HST.out _ HC.out).mono ?_; rintro e wD ⟨rfl, hbD⟩; have HD := Lib.hid (HC.out.trans (hbD.mono HC.out.size)); have r2 := (HD.out.cell (p := ⟨w.heap.size, 2, none⟩) htl9).trans q2; have r3 := (HD.out.cell (p := ⟨w2.heap.size, 0, none⟩) hll9).trans l0; have r4 := (HD.out.cell (p := ⟨w2.heap.size, 1, none⟩) hll9).trans l1; clear hbD)
        | (go_at_call 19; refine (HTD.out _ (B9.out.trans (HD.out.mono hz9))).mono ?_; rintro e wE ⟨AE, cE, rfl, hrdE, hbE⟩; have HE := Lib.hid (HD.out.trans (hbE.mono HD.out.size)); have HRDE := Lib.hid hrdE; have r2 := (HE.out.cell (p := ⟨w.heap.size, 2, none⟩) htl9).trans q2; have r3 := (HE.out.cell (p := ⟨w2.heap.size, 0, none⟩) hll9).trans l0; have r4 := (HE.out.cell (p := ⟨w2.heap.size, 1, none⟩) hll9).trans l1; clear hbE hrdE)
        | (go_at_call 22; refine (refSteps_any AE n cE vs s f2 f0 f1 wE HRDE.out HSM.out HN.out h2 h0 h1).mono ?_; rintro e wF ⟨rfl, hbF⟩; have HF := Lib.hid (HE.out.trans (hbF.mono HE.out.size)); have r2 := (HF.out.cell (p := ⟨w.heap.size, 2, none⟩) htl9).trans q2; have r3 := (HF.out.cell (p := ⟨w2.heap.size, 0, none⟩) hll9).trans l0; have r4 := (HF.out.cell (p := ⟨w2.heap.size, 1, none⟩) hll9).trans l1; clear hbF))
    go_wp2
    go_ret
    exact ⟨rfl, B9.out.trans (HF.out.mono hz9)⟩
end Go.Proofs.Ytjalhcfphhdcbaa
