/- The document's side: whether a cell is right, a stream's Back of a slot. -/
import Derived.Test.YtjalhcfphhdcbaaStrC
set_option linter.unusedVariables false
set_option linter.unusedSimpArgs false
namespace Go.Proofs.Ytjalhcfphhdcbaa
open Go.RowKit

def okAddr (x : Int) : Bool := decide (x < 1048576) || decide (x = NN)
theorem address_any (x : Int) (w : World) : Calls Try.prog 68 #[.int .u64 x] w fun e w' => e = .returned (.bool (okAddr x)) ∧ w' = w := by
  unfold okAddr
  by_cases h : x < 1048576
  · go_enter Try.func68, Try.ntmps68
    go_wp2
    go_ret
    exact ⟨ret_bool (by simp [h]), rfl⟩
  · have hd : decide (x < 1048576) = false := decide_eq_false h
    rw [hd, Bool.false_or]
    go_enter Try.func68, Try.ntmps68
    go_wp2
    go_ret
    exact ⟨ret_bool (by rw [Bool.eq_iff_iff]; simp), rfl⟩

theorem lastB_eq (a b : Int) : lastB a b = (okAddr a && (okAddr b && decide (b = NN ∨ (a ≠ NN ∧ b < a)))) := by
  unfold lastB okAddr
  rw [Bool.eq_iff_iff]
  simp only [decide_eq_true_eq, Bool.and_eq_true, Bool.or_eq_true]
  omega

set_option maxRecDepth 100000 in
set_option maxHeartbeats 2000000 in
theorem last_any (a b : Int) (w : World) : Calls Try.prog 56 #[.agg #[.int .u64 a, .int .u64 b]] w fun e w' => e = .returned (.bool (lastB a b)) ∧ Below w.heap.size w w' := by
  have b1 : Below w.heap.size w (w.alloc (.cells #[.int .u64 a, .int .u64 b] 29)) := (Below.refl _ _).alloc (Nat.le_refl _) _
  rw [lastB_eq]
  cases hA : okAddr a with
  | false =>
    rw [Bool.false_and]
    go_enter Try.func56, Try.ntmps56
    go_wp2
    refine wp_loop_rounds 3 ?_
    rw [rounds_succ]
    go_wp2_with (go_at_call 68; refine (address_any _ _).mono ?_; rintro e w2 ⟨rfl, rfl⟩; rw [hA])
    go_quiet (fail)
    go_wp2
    go_ret
    first | exact ⟨rfl, below_drewN b1 _⟩ | exact ⟨rfl, below_drewN (below_drewN b1 _) _⟩
  | true =>
    rw [Bool.true_and]
    cases hB : okAddr b with
    | false =>
      rw [Bool.false_and]
      go_enter Try.func56, Try.ntmps56
      go_wp2
      refine wp_loop_rounds 3 ?_
      rw [rounds_succ]
      go_wp2_with (go_at_call 68; refine (address_any _ _).mono ?_; rintro e w2 ⟨rfl, rfl⟩; rw [hA])
      go_quiet (fail)
      go_wp2
      rw [rounds_succ]
      go_wp2_with (go_at_call 68; refine (address_any _ _).mono ?_; rintro e w2 ⟨rfl, rfl⟩; rw [hB])
      go_quiet (fail)
      go_wp2
      go_ret
      first | exact ⟨rfl, below_drewN b1 _⟩ | exact ⟨rfl, below_drewN (below_drewN b1 _) _⟩
    | true =>
      rw [Bool.true_and]
      by_cases hb : b = NN
      · have hb' : (b != 18446744073709551615) = false := by simp only [bne_eq_false_iff_eq]; exact hb
        rw [decide_eq_true (Or.inl hb)]
        clear hb
        cases ha' : (a == 18446744073709551615) with
        | true =>
          go_enter Try.func56, Try.ntmps56
          go_wp2
          refine wp_loop_rounds 3 ?_
          rw [rounds_succ]
          go_wp2_with (go_at_call 68; refine (address_any _ _).mono ?_; rintro e w2 ⟨rfl, rfl⟩; rw [hA])
          go_quiet (fail)
          go_wp2
          rw [rounds_succ]
          go_wp2_with (go_at_call 68; refine (address_any _ _).mono ?_; rintro e w2 ⟨rfl, rfl⟩; rw [hB])
          go_quiet (fail)
          go_wp2
          rw [rounds_succ]
          go_wp2
          go_ret
          first | exact ⟨rfl, below_drewN b1 _⟩ | exact ⟨rfl, below_drewN (below_drewN b1 _) _⟩
        | false =>
          go_enter Try.func56, Try.ntmps56
          go_wp2
          refine wp_loop_rounds 3 ?_
          rw [rounds_succ]
          go_wp2_with (go_at_call 68; refine (address_any _ _).mono ?_; rintro e w2 ⟨rfl, rfl⟩; rw [hA])
          go_quiet (fail)
          go_wp2
          rw [rounds_succ]
          go_wp2_with (go_at_call 68; refine (address_any _ _).mono ?_; rintro e w2 ⟨rfl, rfl⟩; rw [hB])
          go_quiet (fail)
          go_wp2
          rw [rounds_succ]
          go_wp2
          go_ret
          first | exact ⟨rfl, below_drewN b1 _⟩ | exact ⟨rfl, below_drewN (below_drewN b1 _) _⟩
      · have hb' : (b != 18446744073709551615) = true := by simp only [bne_iff_ne, ne_eq]; exact hb
        by_cases ha : a = NN
        · have ha' : (a == 18446744073709551615) = true := by simp only [beq_iff_eq]; exact ha
          rw [decide_eq_false (by rintro (h | ⟨h, _⟩); exact hb h; exact h ha)]
          clear hb ha
          cases hd : decide (a ≤ b) with
          | true =>
            go_enter Try.func56, Try.ntmps56
            go_wp2
            refine wp_loop_rounds 3 ?_
            rw [rounds_succ]
            go_wp2_with (go_at_call 68; refine (address_any _ _).mono ?_; rintro e w2 ⟨rfl, rfl⟩; rw [hA])
            go_quiet (fail)
            go_wp2
            rw [rounds_succ]
            go_wp2_with (go_at_call 68; refine (address_any _ _).mono ?_; rintro e w2 ⟨rfl, rfl⟩; rw [hB])
            go_quiet (fail)
            go_wp2
            go_ret
            first | exact ⟨rfl, below_drewN b1 _⟩ | exact ⟨rfl, below_drewN (below_drewN b1 _) _⟩
          | false =>
            go_enter Try.func56, Try.ntmps56
            go_wp2
            refine wp_loop_rounds 3 ?_
            rw [rounds_succ]
            go_wp2_with (go_at_call 68; refine (address_any _ _).mono ?_; rintro e w2 ⟨rfl, rfl⟩; rw [hA])
            go_quiet (fail)
            go_wp2
            rw [rounds_succ]
            go_wp2_with (go_at_call 68; refine (address_any _ _).mono ?_; rintro e w2 ⟨rfl, rfl⟩; rw [hB])
            go_quiet (fail)
            go_wp2
            go_ret
            first | exact ⟨rfl, below_drewN b1 _⟩ | exact ⟨rfl, below_drewN (below_drewN b1 _) _⟩
        · have ha' : (a == 18446744073709551615) = false := by simp only [beq_eq_false_iff_ne, ne_eq]; exact ha
          by_cases hlt : b < a
          · have hd : decide (a ≤ b) = false := decide_eq_false (by omega)
            rw [decide_eq_true (Or.inr ⟨ha, hlt⟩)]
            clear hb ha hlt
            go_enter Try.func56, Try.ntmps56
            go_wp2
            refine wp_loop_rounds 3 ?_
            rw [rounds_succ]
            go_wp2_with (go_at_call 68; refine (address_any _ _).mono ?_; rintro e w2 ⟨rfl, rfl⟩; rw [hA])
            go_quiet (fail)
            go_wp2
            rw [rounds_succ]
            go_wp2_with (go_at_call 68; refine (address_any _ _).mono ?_; rintro e w2 ⟨rfl, rfl⟩; rw [hB])
            go_quiet (fail)
            go_wp2
            rw [rounds_succ]
            go_wp2
            go_ret
            first | exact ⟨rfl, below_drewN b1 _⟩ | exact ⟨rfl, below_drewN (below_drewN b1 _) _⟩
          · have hd : decide (a ≤ b) = true := decide_eq_true (by omega)
            rw [decide_eq_false (by rintro (h | ⟨_, h⟩); exact hb h; exact hlt h)]
            clear hb ha hlt
            go_enter Try.func56, Try.ntmps56
            go_wp2
            refine wp_loop_rounds 3 ?_
            rw [rounds_succ]
            go_wp2_with (go_at_call 68; refine (address_any _ _).mono ?_; rintro e w2 ⟨rfl, rfl⟩; rw [hA])
            go_quiet (fail)
            go_wp2
            rw [rounds_succ]
            go_wp2_with (go_at_call 68; refine (address_any _ _).mono ?_; rintro e w2 ⟨rfl, rfl⟩; rw [hB])
            go_quiet (fail)
            go_wp2
            go_ret
            first | exact ⟨rfl, below_drewN b1 _⟩ | exact ⟨rfl, below_drewN (below_drewN b1 _) _⟩

theorem wrongB_ref (l : Int) (k : Bk) (h : 0 ≤ l ∨ l = -1) : wrongB l k = (!lastB k.a k.b || (decide (k.s < 0) || (decide (16 ≤ k.s) || decide (0 ≤ l ∧ k.s ≤ l)))) := by
  unfold wrongB
  cases lastB k.a k.b
  · simp
  · rw [Bool.eq_iff_iff]; simp; omega

set_option maxRecDepth 100000 in
set_option maxHeartbeats 1000000 in
theorem backs_any (A : Option Addr) (n c : Nat) (bs : List Bk) (w : World) (h : RdB w A n bs) (hn : n ≤ 100) :
    Calls Try.prog 49 #[.slice A n c] w fun e w' => e = .returned (.bool (!badB (-1) bs && decide (n ≤ 4))) ∧ Below w.heap.size w w' := by
  have hlen := h.len
  have HH := Lib.hid h; clear h
  go_enter Try.func49, Try.ntmps49
  go_wp2
  go_loopw [3] (fun i wr => ∃ k : Nat, k ≤ n ∧ i = .int .i64 k ∧ Below w.heap.size w wr ∧ (0 < k → 0 ≤ lastS (-1) bs k) ∧ Hid (badB (-1) bs = badB (lastS (-1) bs k) (bs.drop k))) (fun i _ => n - (intOf i).toNat)
  case atStart => exact ⟨0, Nat.zero_le _, rfl, Below.refl _ _, fun h => absurd h (by omega), Lib.hid rfl⟩
  case round =>
    obtain ⟨k, hk, rfl, hb, hpos, hbad⟩ := hrel
    by_cases hlt : k < n
    · obtain ⟨b, off, rfl, hc⟩ := (HH.out.below hb).at' (by omega)
      have hk1 : k < bs.length := by omega
      obtain ⟨d0, d1, d2⟩ := hc k hk1
      have hbd := badB_drop (-1) bs k hk1
      have hS : lastS (-1) bs (k + 1) = bs[k].s := by simp [lastS, List.getD_eq_getElem?_getD, hk1]
      have hwr := wrongB_ref (lastS (-1) bs k) bs[k] (by cases k with | zero => exact .inr rfl | succ k => exact .inl (hpos (by omega)))
      have hzr := hb.size
      have HB := Lib.hid hb; clear hb
      cases k with
      | zero =>
        simp only [Nat.zero_mul, Nat.add_zero] at d0 d1 d2
        have HS := Lib.hid hS; have HBD := Lib.hid hbd; have HWR := Lib.hid hwr; clear hS hbd hwr hc hpos
        generalize bs[0] = bk at *
        obtain ⟨s, a, b'⟩ := bk
        dsimp only at d0 d1 d2
        have hl0 : lastS (-1) bs 0 = -1 := rfl
        have hn0 : (0 : Int) < n := by omega
        go_wp2_with fail
        refine (last_any a b' _).mono ?_
        rintro e w2 ⟨rfl, hb2⟩
        have B2 := Lib.hid (HB.out.trans (hb2.mono hzr))
        have hbr := World.block_lt_of_cell? wr _ d0
        have c0 := (hb2.cell (p := ⟨b, off, none⟩) hbr).trans d0
        clear hb2 d0 d1 d2
        cases hl : lastB a b' with
        | false =>
          have E := Lib.hid (hbad.out.trans (HBD.out.trans (by rw [HWR.out]; simp [hl] : _ = true)))
          go_wp2
          go_quiet (fail)
          go_wp2
          go_ret
          exact ⟨by rw [E.out]; rfl, below_drewN B2.out _⟩
        | true =>
          cases h1 : decide (s < 0) with
          | true =>
            have E := Lib.hid (hbad.out.trans (HBD.out.trans (by rw [HWR.out]; simp [h1] : _ = true)))
            go_wp2
            go_quiet (fail)
            go_wp2
            go_ret
            exact ⟨by rw [E.out]; rfl, below_drewN B2.out _⟩
          | false =>
            cases h2 : decide (16 ≤ s) with
            | true =>
              have E := Lib.hid (hbad.out.trans (HBD.out.trans (by rw [HWR.out]; simp [h2] : _ = true)))
              go_wp2
              go_quiet (fail)
              go_wp2
              go_ret
              exact ⟨by rw [E.out]; rfl, below_drewN B2.out _⟩
            | false =>
              have hs0 : 0 ≤ s := by have := of_decide_eq_false h1; omega
              have E := Lib.hid (hbad.out.trans (HBD.out.trans (by rw [HWR.out]; simp [hl, h1, h2, hl0] : _ = badB (lastS (-1) bs (0 + 1)) (bs.drop (0 + 1)))))
              go_wp2
              go_quiet (fail)
              go_wp2
              go_roundw
              case rel => exact ⟨0 + 1, by omega, by go_num, below_drewN B2.out _, fun _ => by rw [HS.out]; exact hs0, E⟩
              case measure => first | (simp [intOf]; done) | (simp [intOf]; omega)
      | succ j =>
        have hj1 : j < bs.length := by omega
        obtain ⟨f0, f1, f2⟩ := hc j hj1
        have hl0 : lastS (-1) bs (j + 1) = bs[j].s := by simp [lastS, List.getD_eq_getElem?_getD, hj1]
        have hpp := hpos (by omega)
        rw [hl0] at hpp hwr
        have HS := Lib.hid hS; have HBD := Lib.hid hbd; have HWR := Lib.hid hwr; have HL0 := Lib.hid hl0; clear hS hbd hwr hc hpos hl0
        generalize bs[j + 1] = bk at *
        generalize bs[j].s = pv at *
        obtain ⟨s, a, b'⟩ := bk
        dsimp only at d0 d1 d2
        have hd : 0 < j + 1 := by omega
        have hn0 : (0 : Int) ≤ (j : Int) + 1 := by omega
        have hn1 : ((j : Int) + 1).toNat = j + 1 := by omega
        have hn2 : (0 : Int) < (j : Int) + 1 := by omega
        have hwj : IntKind.i64.wrap (j : Int) = (j : Int) := by rw [IntKind.wrap_i64]; omega
        have hjn : (j : Int) < n := by omega
        have hjn1 : (j : Int) + 1 < n := by omega
        have hj100 : (j : Int) < 100 := by omega
        go_wp2_with fail
        refine (last_any a b' _).mono ?_
        rintro e w2 ⟨rfl, hb2⟩
        have B2 := Lib.hid (HB.out.trans (hb2.mono hzr))
        have hbr := World.block_lt_of_cell? wr _ d0
        have c0 := (hb2.cell (p := ⟨b, off + (j + 1) * 3, none⟩) hbr).trans d0
        have c1 := (hb2.cell (p := ⟨b, off + j * 3, none⟩) hbr).trans f0
        clear hb2 d0 d1 d2 f0 f1 f2
        cases hl : lastB a b' with
        | false =>
          have E := Lib.hid (hbad.out.trans (HBD.out.trans (by rw [HL0.out, HWR.out]; simp [hl] : _ = true)))
          go_wp2
          go_quiet (fail)
          go_wp2
          go_ret
          exact ⟨by rw [E.out]; rfl, below_drewN B2.out _⟩
        | true =>
          cases h1 : decide (s < 0) with
          | true =>
            have E := Lib.hid (hbad.out.trans (HBD.out.trans (by rw [HL0.out, HWR.out]; simp [h1] : _ = true)))
            go_wp2
            go_quiet (fail)
            go_wp2
            go_ret
            exact ⟨by rw [E.out]; rfl, below_drewN B2.out _⟩
          | false =>
            cases h2 : decide (16 ≤ s) with
            | true =>
              have E := Lib.hid (hbad.out.trans (HBD.out.trans (by rw [HL0.out, HWR.out]; simp [h2] : _ = true)))
              go_wp2
              go_quiet (fail)
              go_wp2
              go_ret
              exact ⟨by rw [E.out]; rfl, below_drewN B2.out _⟩
            | false =>
              cases h3 : decide (s ≤ pv) with
              | true =>
                have h3' := of_decide_eq_true h3
                have E := Lib.hid (hbad.out.trans (HBD.out.trans (by rw [HL0.out, HWR.out]; simp [hpp, h3'] : _ = true)))
                go_wp2
                go_quiet (fail)
                go_wp2
                go_ret
                exact ⟨by rw [E.out]; rfl, below_drewN B2.out _⟩
              | false =>
                have hs0 : 0 ≤ s := by have := of_decide_eq_false h1; omega
                have h3' := of_decide_eq_false h3
                have E := Lib.hid (hbad.out.trans (HBD.out.trans (by rw [HL0.out, HWR.out]; simp [hl, h1, h2, h3'] : _ = badB (lastS (-1) bs (j + 1 + 1)) (bs.drop (j + 1 + 1)))))
                clear h3'
                go_wp2
                go_quiet (fail)
                go_wp2
                go_roundw
                case rel => exact ⟨j + 1 + 1, by omega, by go_num, below_drewN B2.out _, fun _ => by rw [HS.out]; exact hs0, E⟩
                case measure => first | (simp [intOf]; done) | (simp [intOf]; omega)
    · have hkn : k = n := by omega
      subst hkn
      have E : badB (-1) bs = false := by rw [hbad.out, List.drop_of_length_le (by omega)]; rfl
      have E' := Lib.hid E; clear E
      have HB := Lib.hid hb; clear hb
      go_wp2
      go_ret
      exact ⟨by rw [E'.out]; simp; omega, HB.out⟩

end Go.Proofs.Ytjalhcfphhdcbaa
