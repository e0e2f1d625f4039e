/- StreamMisses: the walk. -/
import Derived.Test.YtjalhcfphhdcbaaPlainM
import Derived.Test.YtjalhcfphhdcbaaStrV
set_option linter.unusedVariables false
set_option linter.unusedSimpArgs false
namespace Go.Proofs.Ytjalhcfphhdcbaa
open Go.RowKit

theorem own_fr {w : World} {base e size n c g : Nat} {xs : List Value} (h : w.ownsRow base e size (.slice (some ⟨g, 0, none⟩) n c) n xs) (o : Nat) : w.frozen? ⟨g, o, none⟩ = false := by
  rcases h.2 with ⟨h0, _⟩ | ⟨g', cap, cur, hv, _, hb, _⟩
  · cases h0
  · cases hv
    simp [World.frozen?, hb]

set_option maxRecDepth 100000 in
set_option maxHeartbeats 4000000 in
theorem misses_law (A : Option Addr) (n c : Nat) (ms : List Md) (s f0 f1 f2 : Int) (w : World) (h : RdM w A n ms) (h0 : 0 ≤ f0) (h1 : 0 ≤ f1) (h2 : 0 ≤ f2) :
    Calls Try.prog 3 #[.slice A n c, .int .i64 s, .agg #[.int .u64 f0, .int .u64 f1, .int .u64 f2]] w fun e w' => e = .returned (.bool true) ∧ Below w.heap.size w w' := by
  have hlen := h.len
  have b1 : Below w.heap.size w (w.alloc (.cells #[.int .u64 f0, .int .u64 f1, .int .u64 f2] 24)) := (Below.refl _ _).alloc (Nat.le_refl _) _
  have t1 := Blk.new w #[.int .u64 f0, .int .u64 f1, .int .u64 f2] 24
  have hsm := small_any A n c ms _ (h.below b1)
  have HSM := Lib.hid hsm; have HH := Lib.hid h; have B1 := Lib.hid b1; have T1 := Lib.hid t1; clear hsm h b1 t1
  go_enter Try.func3, Try.ntmps3
  go_wp2_with fail
  refine HSM.out.mono ?_
  rintro e w1 ⟨r, rfl, hr, hw1⟩
  have B1' : Hid (Below w.heap.size w w1) := Lib.hid (by rw [hw1]; exact B1.out)
  have T1' : Hid (Blk w1 w.heap.size #[.int .u64 f0, .int .u64 f1, .int .u64 f2] 24) := Lib.hid (by rw [hw1]; exact T1.out)
  clear hw1 HSM B1 T1
  have hz1 := B1'.out.size
  cases r with
  | false =>
    clear hr
    go_wp2_with fail
    refine (alive_any _).mono ?_
    rintro e w3 ⟨rfl, hb3⟩
    have B3 := Lib.hid (B1'.out.trans (hb3.mono hz1)); clear hb3
    go_wp2
    go_ret
    exact ⟨rfl, B3.out⟩
  | true =>
    have hS := hr rfl
    clear hr
    by_cases hn0 : n = 0
    · subst hn0
      go_wp2_with fail
      refine (alive_any _).mono ?_
      rintro e w3 ⟨rfl, hb3⟩
      have B3 := Lib.hid (B1'.out.trans (hb3.mono hz1)); clear hb3
      go_wp2
      go_ret
      exact ⟨rfl, B3.out⟩
    · have hn100 : n ≤ 100 := by have := hS.1; omega
      have hn0' : ¬ ((n : Int) = 0) := by omega
      have hnb : ((n : Int) == 0) = false := by simp only [beq_eq_false_iff_ne, ne_eq]; exact hn0'
      have hvl : (view ms).length = n := by rw [view_len]; exact hlen
      have hwn : IntKind.u64.wrap (n : Int) = n := by rw [IntKind.wrap_u64]; omega
      obtain ⟨f, hfe, hfn⟩ : ∃ f : Nat, f0 % (n : Int) = f ∧ f < n := ⟨(f0 % (n : Int)).toNat, by have := Int.emod_nonneg f0 hn0'; omega, by have := Int.emod_lt_of_pos f0 (show (0 : Int) < n by omega); have := Int.emod_nonneg f0 hn0'; omega⟩
      obtain ⟨i, hie, hin⟩ : ∃ i : Nat, f1 % (n : Int) = i ∧ i < n := ⟨(f1 % (n : Int)).toNat, by have := Int.emod_nonneg f1 hn0'; omega, by have := Int.emod_lt_of_pos f1 (show (0 : Int) < n by omega); have := Int.emod_nonneg f1 hn0'; omega⟩
      have htf : f0.tmod (n : Int) = f := by rw [Int.tmod_eq_emod_of_nonneg h0, hfe]
      have hti : f1.tmod (n : Int) = i := by rw [Int.tmod_eq_emod_of_nonneg h1, hie]
      have ht2 : f2.tmod 2 = f2 % 2 := Int.tmod_eq_emod_of_nonneg h2
      have hq01 : f2 % 2 = 0 ∨ f2 % 2 = 1 := by omega
      have hft := view_fits ms s (by omega)
      have hwk := walkP_fits hft f
      have hli := linP_fits hft f
      rw [hvl] at hwk hli
      rw [FF_all] at hwk
      have hffl := FF_len (dOf s ms) n f f
      have hpp := prev_pos (mOf s ms) n
      have hgone : ∀ t : Int, missE t ≠ 0 → f ≤ i → linP s (setSt (view ms) i t) f = ([], missE t) := fun t ht hfi => by
        have := linP_gone hft i t (by omega) ht (i - f) (by omega)
        rwa [show i - (i - f) = f by omega] at this
      generalize FF (dOf s ms) n f f = F at *
      have HWK := Lib.hid hwk; have HLI := Lib.hid hli; have HS := Lib.hid hS; have HVL := Lib.hid hvl; have HPP := Lib.hid hpp; have HGO := Lib.hid hgone; clear hwk hli hS hvl hft hpp hgone hfe hie
      have q0 := T1'.out.cell 0; have q1 := T1'.out.cell 1; have q2 := T1'.out.cell 2
      simp at q0 q1 q2
      have htl := T1'.out.lt
      have hbd := build_any A n c ms w1 (HH.out.below B1'.out) HS.out
      have HBD := Lib.hid hbd; clear hbd
      go_wp2_with fail
      refine HBD.out.mono ?_
      rintro e w2 ⟨va, vc, cs, rfl, ho, hsl, hb2⟩
      have ho0 := ho
      obtain ⟨_, hv2⟩ := ho
      rcases hv2 with ⟨hv0, hv00⟩ | ⟨g, cap, cur, hv, hg, hgb, _, _, _, _⟩
      · exact absurd hv00 hn0
      cases hv
      clear hgb
      have B2 := Lib.hid (B1'.out.trans (hb2.mono hz1)); have T2 := Lib.hid (T1'.out.below hb2)
      have HO2 := Lib.hid ho0
      have HSL2 : Hid (Slots w2 w1.heap.size cs (view ms)) := Lib.hid hsl
      clear hb2 ho0 hsl q0 q1 q2 htl
      have hz2 := B2.out.size
      have q0 := T2.out.cell 0; have q1 := T2.out.cell 1; have q2 := T2.out.cell 2
      simp at q0 q1 q2
      have htl := T2.out.lt
      have hmd := made_any A n c ms w2 (HH.out.below B2.out) hn100
      have HMD := Lib.hid hmd; clear hmd
      go_wp2_with fail
      refine HMD.out.mono ?_
      rintro e w3 ⟨mA, mc, rfl, hrm, hb3⟩
      have B3 := Lib.hid (B2.out.trans (hb3.mono hz2)); have T3 := Lib.hid (T2.out.below hb3); have HO3 := Lib.hid (ownsRow_below HO2.out hb3); have HSL3 := Lib.hid (HSL2.out.below hb3)
      have hah := ahead_any mA n mc ms s w3 hrm HS.out
      have HAH := Lib.hid hah; clear hah hb3 hrm
      have hz3 := B3.out.size
      go_wp2_with fail
      refine HAH.out.mono ?_
      rintro e w4 ⟨rfl, hb4⟩
      have B4 := Lib.hid (B3.out.trans (hb4.mono hz3)); have T4 := Lib.hid (T3.out.below hb4); have HO4 := Lib.hid (ownsRow_below HO3.out hb4); have HSL4 := Lib.hid (HSL3.out.below hb4)
      clear hb4 q0 q1 q2 htl
      generalize hpv : prev (mOf s ms) n = pv at *
      obtain ⟨p0, p1⟩ := pv
      have hz4 := B4.out.size
      have hA5 : Below w4.heap.size w4 (w4.alloc (.cells #[.int .u64 p0, .int .u64 p1] 29)) := (Below.refl _ _).alloc (Nat.le_refl _) _
      have B5 := Lib.hid (B4.out.trans (hA5.mono hz4))
      have L5 := Lib.hid (Blk.new w4 #[.int .u64 p0, .int .u64 p1] 29)
      have T5 := Lib.hid (T4.out.below hA5); have HO5 := Lib.hid (ownsRow_below HO4.out hA5); have HSL5 := Lib.hid (HSL4.out.below hA5)
      clear hA5
      have hln := linear_any _ n vc (view ms) s (f : Int) _ (slots_rd HO5.out HSL5.out HVL.out) (view_small ms HS.out) (by omega)
      rw [Int.toNat_natCast, HLI.out] at hln
      have HLN := Lib.hid hln; clear hln
      go_wp2_with fail
      refine HLN.out.mono ?_
      rintro e w6 ⟨v1, rfl, hr1, hb6⟩
      have B6 := Lib.hid (B5.out.trans (hb6.mono B5.out.size)); have L6 := Lib.hid (L5.out.below hb6); have T6 := Lib.hid (T5.out.below hb6); have HO6 := Lib.hid (ownsRow_below HO5.out hb6); have HSL6 := Lib.hid (HSL5.out.below hb6); have R6 := Lib.hid hr1
      clear hb6 hr1
      have hz6 := B6.out.size
      have q2 := T6.out.cell 2
      simp at q2
      have htl := T6.out.lt
      have hgz : g < w2.heap.size := (HO2.out.lt g rfl).2
      have hwg : w.heap.size ≤ g := by omega
      have hg6 : g < w6.heap.size := (HO6.out.lt g rfl).2
      have hg4 : g < w4.heap.size := (HO4.out.lt g rfl).2
      have hwl1 : w.heap.size < w1.heap.size := T1'.out.lt
      rcases hq01 with hq | hq
      · have htq : f2.tmod 2 = 0 := by rw [ht2, hq]
        clear ht2 hq
        have hB6 : w6.heap[g]? = w6.heap[g]? := rfl
        obtain ⟨dA0, dc0, vb0, hs0, -, -, -, -⟩ := HSL6.out.2 i (by rw [HVL.out]; exact hin)
        have hcell := (World.ownsRow.cellAt HO6.out (i * 4) (by omega)).trans hs0
        have hfrz : w6.frozen? ⟨g, i * 4, none⟩ = false := own_fr HO6.out (i * 4)
        have hin' : (i : Int) < n := by omega
        have hi0 : (0 : Int) ≤ (i : Int) := by omega
        have hi100 : (i : Int) < 100 := by omega
        go_wp2_with fail
        have rdS := slots_set HO6.out HSL6.out HVL.out i hin 0
        have bS := below_far B6.out (p := ⟨g, i * 4, none⟩) hwg (.int .i64 0)
        have tS := T6.out.setOther (g' := g) (by omega) (i * 4) (.int .i64 0)
        have lS := L6.out.setOther (g' := g) (by omega) (i * 4) (.int .i64 0)
        have rS := World.ownsRow.kept R6.out (grownBy_set w6 g (i * 4) (.int .i64 0)) (by have := row_ne2 R6.out HO6.out (by decide); simpa [Value.ownBlock] using this)
        have hzS : w6.heap.size = (w6.setCell ⟨g, i * 4, none⟩ (.int .i64 0)).heap.size := by simp [World.setCell]
        have RD8 := Lib.hid rdS; have B8 := Lib.hid bS; have L8 := Lib.hid lS; have R8 := Lib.hid rS
        clear rdS bS tS lS rS hzS hcell hfrz hs0
        generalize w6.setCell ⟨g, i * 4, none⟩ (.int .i64 0) = w8 at *
        have hi' : i < (view ms).length := by rw [HVL.out]; exact hin
        have hz8 := B8.out.size
        have l0 := L8.out.cell 0; have l1 := L8.out.cell 1
        simp at l0 l1
        have hll := L8.out.lt
        have hln := linear_any _ n vc _ s (f : Int) w8 RD8.out (setSt_small _ i 0 hi' (view_small ms HS.out)) (by omega)
        rw [Int.toNat_natCast] at hln
        have hms := walkP_miss s (f : Int) (view ms) i 0 hi' (by decide) (by omega) p0 p1
        have hnat := setSt_nat (view ms) i 0 hi' (view_nat ms)
        have HNAT := Lib.hid hnat; clear hnat
        have hw1 : (walkP s f (view ms) p0 p1).1 = 0 := HWK.out.1
        have hw2 : (walkP s f (view ms) p0 p1).2.1 = F := HWK.out.2.1
        have hwk : ∀ W, Below w8.heap.size w8 W → Calls Try.prog 15 #[.slice (some ⟨g, 0, none⟩) n vc, .int .i64 s, .agg #[.int .u64 p0, .int .u64 p1], .int .u64 f] W fun e w' => ∃ v, e = .returned (.tuple #[v, .int .i64 (walkP s f (setSt (view ms) i 0) p0 p1).1]) ∧ RowU w' W.heap.size v (if (walkP s f (setSt (view ms) i 0) p0 p1).1 = 0 then (walkP s f (setSt (view ms) i 0) p0 p1).2.1 else []) ∧ Below W.heap.size W w' := fun W hW =>
          Walk_any _ n vc _ s f p0 p1 W (RD8.out.below hW) (setSt_small _ i 0 hi' (view_small ms HS.out)) HNAT.out (by omega) HPP.out.1 HPP.out.2
        by_cases hif : i < f
        · have hif' : (i : Int) < f := by omega
          rw [linP_before s _ i 0 f hif, HLI.out] at hln
          have hwe : walkP s f (setSt (view ms) i 0) p0 p1 = walkP s f (view ms) p0 p1 := by
            rcases hms with h | ⟨_, h⟩
            · exact h
            · omega
          rw [hwe, if_pos hw1, hw1, hw2] at hwk
          have HLN := Lib.hid hln; have HWK2 := Lib.hid hwk; clear hln hwk hms hw1 hw2 hwe HWK HGO
          go_wp2_with fail
          refine HLN.out.mono ?_
          rintro e w9 ⟨v2, rfl, hr2, hb9⟩
          have B9 := Lib.hid (B8.out.trans (hb9.mono hz8)); have L9 := Lib.hid (L8.out.below hb9); have R9 := Lib.hid ((show RowU w8 _ v1 F from R8.out).below hb9); have X9 := Lib.hid hb9
          clear hb9 hr2 l0 l1 hll
          have l0 := L9.out.cell 0; have l1 := L9.out.cell 1
          simp at l0 l1
          have hll := L9.out.lt
          go_wp2_with fail
          refine (HWK2.out _ X9.out).mono ?_
          rintro e w10 ⟨v3, rfl, hr3, hb10⟩
          have B10 := Lib.hid (B9.out.trans (hb10.mono B9.out.size)); have R10 := Lib.hid (R9.out.below hb10); have RC10 := Lib.hid hr3
          clear hb10 hr3
          go_wp2_with fail
          refine (alive_any _).mono ?_
          rintro e w11 ⟨rfl, hb11⟩
          have B11 := Lib.hid (B10.out.trans (hb11.mono B10.out.size))
          have hsa := same_any v3 v1 _ _ F F w11 (RC10.out.below hb11) (R10.out.below hb11) (by omega)
          rw [decide_eq_true rfl] at hsa
          have HSA := Lib.hid hsa; clear hsa hb11
          go_wp2_with fail
          refine HSA.out.mono ?_
          rintro e w12 ⟨rfl, hb12⟩
          have B12 := Lib.hid (B11.out.trans (hb12.mono B11.out.size)); clear hb12
          go_wp2
          go_ret
          exact ⟨rfl, B12.out⟩
        · have hif' : ¬ (i : Int) < f := by omega
          rw [HGO.out 0 (by decide) (by omega)] at hln
          have HLN := Lib.hid hln; clear hln
          have hmt : missE 0 = 82 := by decide
          rcases hms with hwe | ⟨hwe, _⟩
          · rw [hwe, if_pos hw1, hw1, hw2] at hwk
            have HWK2 := Lib.hid hwk; clear hwk hw1 hw2 hwe HWK HGO
            go_wp2_with fail
            refine HLN.out.mono ?_
            rintro e w9 ⟨v2, rfl, hr2, hb9⟩
            have B9 := Lib.hid (B8.out.trans (hb9.mono hz8)); have L9 := Lib.hid (L8.out.below hb9); have R9 := Lib.hid ((show RowU w8 _ v1 F from R8.out).below hb9); have X9 := Lib.hid hb9
            clear hb9 hr2 l0 l1 hll
            rw [hmt]
            have l0 := L9.out.cell 0; have l1 := L9.out.cell 1
            simp at l0 l1
            have hll := L9.out.lt
            go_wp2_with fail
            refine (HWK2.out _ X9.out).mono ?_
            rintro e w10 ⟨v3, rfl, hr3, hb10⟩
            have B10 := Lib.hid (B9.out.trans (hb10.mono B9.out.size)); have R10 := Lib.hid (R9.out.below hb10); have RC10 := Lib.hid hr3
            clear hb10 hr3
            go_wp2_with fail
            refine (alive_any _).mono ?_
            rintro e w11 ⟨rfl, hb11⟩
            have B11 := Lib.hid (B10.out.trans (hb11.mono B10.out.size))
            have hsa := same_any v3 v1 _ _ F F w11 (RC10.out.below hb11) (R10.out.below hb11) (by omega)
            rw [decide_eq_true rfl] at hsa
            have HSA := Lib.hid hsa; clear hsa hb11
            go_wp2_with fail
            refine HSA.out.mono ?_
            rintro e w12 ⟨rfl, hb12⟩
            have B12 := Lib.hid (B11.out.trans (hb12.mono B11.out.size)); clear hb12
            go_wp2
            go_ret
            exact ⟨rfl, B12.out⟩
          · rw [hwe] at hwk
            dsimp only at hwk
            rw [hmt, if_neg (by decide)] at hwk
            have HWK2 := Lib.hid hwk; clear hwk hw1 hw2 hwe HWK HGO
            go_wp2_with fail
            refine HLN.out.mono ?_
            rintro e w9 ⟨v2, rfl, hr2, hb9⟩
            have B9 := Lib.hid (B8.out.trans (hb9.mono hz8)); have L9 := Lib.hid (L8.out.below hb9); have X9 := Lib.hid hb9
            clear hb9 hr2 l0 l1 hll
            rw [hmt]
            have l0 := L9.out.cell 0; have l1 := L9.out.cell 1
            simp at l0 l1
            have hll := L9.out.lt
            go_wp2_with fail
            refine (HWK2.out _ X9.out).mono ?_
            rintro e w10 ⟨v3, rfl, hr3, hb10⟩
            obtain ⟨oa, oc, hof⟩ := hr3.form
            simp only [List.length_nil] at hof
            subst hof
            have B10 := Lib.hid (B9.out.trans (hb10.mono B9.out.size))
            clear hb10 hr3
            go_wp2_with fail
            refine (alive_any _).mono ?_
            rintro e w11 ⟨rfl, hb11⟩
            have B11 := Lib.hid (B10.out.trans (hb11.mono B10.out.size)); clear hb11
            go_wp2
            go_ret
            exact ⟨rfl, B11.out⟩
      · have htq : f2.tmod 2 = 1 := by rw [ht2, hq]
        clear ht2 hq
        have hB6 : w6.heap[g]? = w6.heap[g]? := rfl
        obtain ⟨dA0, dc0, vb0, hs0, -, -, -, -⟩ := HSL6.out.2 i (by rw [HVL.out]; exact hin)
        have hcell := (World.ownsRow.cellAt HO6.out (i * 4) (by omega)).trans hs0
        have hfrz : w6.frozen? ⟨g, i * 4, none⟩ = false := own_fr HO6.out (i * 4)
        have hin' : (i : Int) < n := by omega
        have hi0 : (0 : Int) ≤ (i : Int) := by omega
        have hi100 : (i : Int) < 100 := by omega
        go_wp2_with fail
        have rdS := slots_set HO6.out HSL6.out HVL.out i hin 2
        have bS := below_far B6.out (p := ⟨g, i * 4, none⟩) hwg (.int .i64 2)
        have tS := T6.out.setOther (g' := g) (by omega) (i * 4) (.int .i64 2)
        have lS := L6.out.setOther (g' := g) (by omega) (i * 4) (.int .i64 2)
        have rS := World.ownsRow.kept R6.out (grownBy_set w6 g (i * 4) (.int .i64 2)) (by have := row_ne2 R6.out HO6.out (by decide); simpa [Value.ownBlock] using this)
        have hzS : w6.heap.size = (w6.setCell ⟨g, i * 4, none⟩ (.int .i64 2)).heap.size := by simp [World.setCell]
        have RD8 := Lib.hid rdS; have B8 := Lib.hid bS; have L8 := Lib.hid lS; have R8 := Lib.hid rS
        clear rdS bS tS lS rS hzS hcell hfrz hs0
        generalize w6.setCell ⟨g, i * 4, none⟩ (.int .i64 2) = w8 at *
        have hi' : i < (view ms).length := by rw [HVL.out]; exact hin
        have hz8 := B8.out.size
        have l0 := L8.out.cell 0; have l1 := L8.out.cell 1
        simp at l0 l1
        have hll := L8.out.lt
        have hln := linear_any _ n vc _ s (f : Int) w8 RD8.out (setSt_small _ i 2 hi' (view_small ms HS.out)) (by omega)
        rw [Int.toNat_natCast] at hln
        have hms := walkP_miss s (f : Int) (view ms) i 2 hi' (by decide) (by omega) p0 p1
        have hnat := setSt_nat (view ms) i 2 hi' (view_nat ms)
        have HNAT := Lib.hid hnat; clear hnat
        have hw1 : (walkP s f (view ms) p0 p1).1 = 0 := HWK.out.1
        have hw2 : (walkP s f (view ms) p0 p1).2.1 = F := HWK.out.2.1
        have hwk : ∀ W, Below w8.heap.size w8 W → Calls Try.prog 15 #[.slice (some ⟨g, 0, none⟩) n vc, .int .i64 s, .agg #[.int .u64 p0, .int .u64 p1], .int .u64 f] W fun e w' => ∃ v, e = .returned (.tuple #[v, .int .i64 (walkP s f (setSt (view ms) i 2) p0 p1).1]) ∧ RowU w' W.heap.size v (if (walkP s f (setSt (view ms) i 2) p0 p1).1 = 0 then (walkP s f (setSt (view ms) i 2) p0 p1).2.1 else []) ∧ Below W.heap.size W w' := fun W hW =>
          Walk_any _ n vc _ s f p0 p1 W (RD8.out.below hW) (setSt_small _ i 2 hi' (view_small ms HS.out)) HNAT.out (by omega) HPP.out.1 HPP.out.2
        by_cases hif : i < f
        · have hif' : (i : Int) < f := by omega
          rw [linP_before s _ i 2 f hif, HLI.out] at hln
          have hwe : walkP s f (setSt (view ms) i 2) p0 p1 = walkP s f (view ms) p0 p1 := by
            rcases hms with h | ⟨_, h⟩
            · exact h
            · omega
          rw [hwe, if_pos hw1, hw1, hw2] at hwk
          have HLN := Lib.hid hln; have HWK2 := Lib.hid hwk; clear hln hwk hms hw1 hw2 hwe HWK HGO
          go_wp2_with fail
          refine HLN.out.mono ?_
          rintro e w9 ⟨v2, rfl, hr2, hb9⟩
          have B9 := Lib.hid (B8.out.trans (hb9.mono hz8)); have L9 := Lib.hid (L8.out.below hb9); have R9 := Lib.hid ((show RowU w8 _ v1 F from R8.out).below hb9); have X9 := Lib.hid hb9
          clear hb9 hr2 l0 l1 hll
          have l0 := L9.out.cell 0; have l1 := L9.out.cell 1
          simp at l0 l1
          have hll := L9.out.lt
          go_wp2_with fail
          refine (HWK2.out _ X9.out).mono ?_
          rintro e w10 ⟨v3, rfl, hr3, hb10⟩
          have B10 := Lib.hid (B9.out.trans (hb10.mono B9.out.size)); have R10 := Lib.hid (R9.out.below hb10); have RC10 := Lib.hid hr3
          clear hb10 hr3
          go_wp2_with fail
          refine (alive_any _).mono ?_
          rintro e w11 ⟨rfl, hb11⟩
          have B11 := Lib.hid (B10.out.trans (hb11.mono B10.out.size))
          have hsa := same_any v3 v1 _ _ F F w11 (RC10.out.below hb11) (R10.out.below hb11) (by omega)
          rw [decide_eq_true rfl] at hsa
          have HSA := Lib.hid hsa; clear hsa hb11
          go_wp2_with fail
          refine HSA.out.mono ?_
          rintro e w12 ⟨rfl, hb12⟩
          have B12 := Lib.hid (B11.out.trans (hb12.mono B11.out.size)); clear hb12
          go_wp2
          go_ret
          exact ⟨rfl, B12.out⟩
        · have hif' : ¬ (i : Int) < f := by omega
          rw [HGO.out 2 (by decide) (by omega)] at hln
          have HLN := Lib.hid hln; clear hln
          have hmt : missE 2 = 83 := by decide
          rcases hms with hwe | ⟨hwe, _⟩
          · rw [hwe, if_pos hw1, hw1, hw2] at hwk
            have HWK2 := Lib.hid hwk; clear hwk hw1 hw2 hwe HWK HGO
            go_wp2_with fail
            refine HLN.out.mono ?_
            rintro e w9 ⟨v2, rfl, hr2, hb9⟩
            have B9 := Lib.hid (B8.out.trans (hb9.mono hz8)); have L9 := Lib.hid (L8.out.below hb9); have R9 := Lib.hid ((show RowU w8 _ v1 F from R8.out).below hb9); have X9 := Lib.hid hb9
            clear hb9 hr2 l0 l1 hll
            rw [hmt]
            have l0 := L9.out.cell 0; have l1 := L9.out.cell 1
            simp at l0 l1
            have hll := L9.out.lt
            go_wp2_with fail
            refine (HWK2.out _ X9.out).mono ?_
            rintro e w10 ⟨v3, rfl, hr3, hb10⟩
            have B10 := Lib.hid (B9.out.trans (hb10.mono B9.out.size)); have R10 := Lib.hid (R9.out.below hb10); have RC10 := Lib.hid hr3
            clear hb10 hr3
            go_wp2_with fail
            refine (alive_any _).mono ?_
            rintro e w11 ⟨rfl, hb11⟩
            have B11 := Lib.hid (B10.out.trans (hb11.mono B10.out.size))
            have hsa := same_any v3 v1 _ _ F F w11 (RC10.out.below hb11) (R10.out.below hb11) (by omega)
            rw [decide_eq_true rfl] at hsa
            have HSA := Lib.hid hsa; clear hsa hb11
            go_wp2_with fail
            refine HSA.out.mono ?_
            rintro e w12 ⟨rfl, hb12⟩
            have B12 := Lib.hid (B11.out.trans (hb12.mono B11.out.size)); clear hb12
            go_wp2
            go_ret
            exact ⟨rfl, B12.out⟩
          · rw [hwe] at hwk
            dsimp only at hwk
            rw [hmt, if_neg (by decide)] at hwk
            have HWK2 := Lib.hid hwk; clear hwk hw1 hw2 hwe HWK HGO
            go_wp2_with fail
            refine HLN.out.mono ?_
            rintro e w9 ⟨v2, rfl, hr2, hb9⟩
            have B9 := Lib.hid (B8.out.trans (hb9.mono hz8)); have L9 := Lib.hid (L8.out.below hb9); have X9 := Lib.hid hb9
            clear hb9 hr2 l0 l1 hll
            rw [hmt]
            have l0 := L9.out.cell 0; have l1 := L9.out.cell 1
            simp at l0 l1
            have hll := L9.out.lt
            go_wp2_with fail
            refine (HWK2.out _ X9.out).mono ?_
            rintro e w10 ⟨v3, rfl, hr3, hb10⟩
            obtain ⟨oa, oc, hof⟩ := hr3.form
            simp only [List.length_nil] at hof
            subst hof
            have B10 := Lib.hid (B9.out.trans (hb10.mono B9.out.size))
            clear hb10 hr3
            go_wp2_with fail
            refine (alive_any _).mono ?_
            rintro e w11 ⟨rfl, hb11⟩
            have B11 := Lib.hid (B10.out.trans (hb11.mono B10.out.size)); clear hb11
            go_wp2
            go_ret
            exact ⟨rfl, B11.out⟩
end Go.Proofs.Ytjalhcfphhdcbaa
