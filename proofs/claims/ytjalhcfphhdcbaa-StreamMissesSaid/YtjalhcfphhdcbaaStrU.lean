/- The document's Ahead: a stream's last two. -/
import Derived.Test.YtjalhcfphhdcbaaStrT
set_option linter.unusedVariables false
set_option linter.unusedSimpArgs false
namespace Go.Proofs.Ytjalhcfphhdcbaa
open Go.RowKit

/-- Whether a slot is made with a stream. -/
def mOf (s : Int) (ms : List Md) (i : Nat) : Bool := okM (ms.getD i ⟨[], 0, false⟩) && decide (s ∈ (ms.getD i ⟨[], 0, false⟩).str)
theorem mOf_at (s : Int) (ms : List Md) (i : Nat) (h : i < ms.length) : mOf s ms i = (okM ms[i] && decide (s ∈ ms[i].str)) := by
  unfold mOf
  rw [show ms.getD i ⟨[], 0, false⟩ = ms[i] by simp [List.getD_eq_getElem?_getD, h]]
/-- What the two are, while they are looked for. -/
def AInv (P : Nat → Int × Int) (n c k : Nat) (x y : Int) : Prop := (k = 0 ∧ x = NN ∧ y = NN ∧ P n = P c) ∨ (k = 1 ∧ y = NN ∧ P n = (x, (P c).1)) ∨ (k = 2 ∧ P n = (x, y))

set_option maxRecDepth 100000 in
set_option maxHeartbeats 4000000 in
theorem ahead_any (A : Option Addr) (n c : Nat) (ms : List Md) (s : Int) (w : World) (h : RdM w A n ms) (hs : SmallM ms) :
    Calls Try.prog 12 #[.slice A n c, .int .i64 n, .int .i64 s] w fun e w' =>
      e = .returned (.agg #[.int .u64 (prev (mOf s ms) n).1, .int .u64 (prev (mOf s ms) n).2]) ∧ Below w.heap.size w w' := by
  have hlen := h.len
  have hn100 : n ≤ 100 := by have := hs.1; omega
  have hP0 : prev (mOf s ms) 0 = (NN, NN) := rfl
  have hPs : ∀ i, prev (mOf s ms) (i + 1) = if mOf s ms i = true then ((i : Int), (prev (mOf s ms) i).1) else prev (mOf s ms) i := fun i => rfl
  have hMs := mOf_at s ms
  generalize prev (mOf s ms) = P at *
  have HH := Lib.hid h; have HS := Lib.hid hs; have HP0 := Lib.hid hP0; have HPS := Lib.hid hPs; have HMS := Lib.hid hMs; clear h hs hP0 hPs hMs
  have b2 : Below w.heap.size w ((w.alloc (.cells #[.int .u64 0, .int .u64 0] 29)).alloc (.cells #[.int .u64 NN, .int .u64 NN] 29)) := ((Below.refl _ _).alloc (Nat.le_refl _) _).alloc (by simp) _
  have r2 : Blk ((w.alloc (.cells #[.int .u64 0, .int .u64 0] 29)).alloc (.cells #[.int .u64 NN, .int .u64 NN] 29)) w.heap.size #[.int .u64 0, .int .u64 0] 29 := (Blk.new w _ _).alloc _
  have l2 : Blk ((w.alloc (.cells #[.int .u64 0, .int .u64 0] 29)).alloc (.cells #[.int .u64 NN, .int .u64 NN] 29)) (w.heap.size + 1) #[.int .u64 NN, .int .u64 NN] 29 := Blk.newAt (w.alloc _) _ _ _ (by simp)
  have B2 := Lib.hid b2; have R2 := Lib.hid r2; have L2 := Lib.hid l2; clear b2 r2 l2
  have hw1 : IntKind.i64.wrap ((n : Int) - 1) = n - 1 := by rw [IntKind.wrap_i64]; omega
  go_enter Try.func12, Try.ntmps12
  go_wp2
  go_loopw [8, 9] (fun kv av wr => ∃ (cc k : Nat) (z x y : Int), cc ≤ n ∧ kv = .int .i64 k ∧ av = .int .i64 z ∧ z = (cc : Int) - 1 ∧ Below w.heap.size w wr ∧ Hid (Blk wr (w.heap.size + 1) #[.int .u64 x, .int .u64 y] 29) ∧ Hid (Blk wr w.heap.size #[.int .u64 0, .int .u64 0] 29) ∧ Hid (AInv P n cc k x y)) (fun _ av _ => (intOf av + 1).toNat)
  case atStart => exact ⟨n, 0, _, NN, NN, Nat.le_refl _, rfl, rfl, by first | rfl | omega, B2.out, L2, R2, Lib.hid (.inl ⟨rfl, rfl, rfl, rfl⟩)⟩
  case round =>
    obtain ⟨cc, k, z, x, y, hc, rfl, rfl, hz, hb, hl, hr, hi⟩ := hrel
    have l0 := hl.out.cell 0; have l1 := hl.out.cell 1; have lf0 := hl.out.fr 0; have lf1 := hl.out.fr 1
    have r0 := hr.out.cell 0; have r1 := hr.out.cell 1; have rf0 := hr.out.fr 0; have rf1 := hr.out.fr 1
    simp at l0 l1 r0 r1
    have hll := hl.out.lt; have hrl := hr.out.lt
    have HB := Lib.hid hb; have HI := Lib.hid hi.out; clear hb hi
    have hend : ∀ (R : P n = (x, y)), True := fun _ => trivial
    clear hend
    cases cc with
    | zero =>
      have hz' : z = -1 := by omega
      clear hz
      subst hz'
      have E : P n = (x, y) := by
        rcases HI.out with ⟨_, rfl, rfl, h⟩ | ⟨_, rfl, h⟩ | ⟨_, h⟩
        · rw [h, HP0.out]
        · rw [h, HP0.out]
        · exact h
      have E' := Lib.hid E; clear E
      go_wp2
      refine bodyPost_ret (results_cell_row rfl _ _ w.heap.size 29 _ (0, 0) _ rfl ((hr.out.set 0 _).set 1 _) Try.underlying29 rfl (by kernel_rfl)) rfl ?_
      exact ⟨by rw [E'.out]; rfl, below_far (below_far HB.out (Nat.le_refl _) _) (Nat.le_refl _) _⟩
    | succ i =>
      have hz' : z = (i : Int) := by omega
      clear hz
      subst hz'
      have hin : i < ms.length := by omega
      have hin' : (i : Int) < n := by omega
      have hi0 : (0 : Int) ≤ (i : Int) := by omega
      have hwi : IntKind.u64.wrap (i : Int) = i := by rw [IntKind.wrap_u64]; omega
      have hwi1 : IntKind.i64.wrap ((i : Int) - 1) = i - 1 := by rw [IntKind.wrap_i64]; omega
      have hi100 : (i : Int) < 100 := by omega
      rcases Nat.lt_or_ge k 2 with hk2 | hk2
      · obtain ⟨b, off, rfl, hc0⟩ := HH.out.at' (by omega)
        obtain ⟨sA, sc, dA, dc, ds, e0, e1, e2, hstr, _⟩ := hc0 i hin
        have hsm := (HS.out.2 ms[i] (List.getElem_mem hin)).1
        have hms := HMS.out i hin
        have hps := HPS.out i
        generalize mOf s ms i = mi at *
        have hbw : b < w.heap.size := World.block_lt_of_cell? w _ e0
        have d0 := (HB.out.cell (p := ⟨b, off + i * 3, none⟩) hbw).trans e0
        have HPI := Lib.hid hps; clear hps e0 e1 e2 hc0
        unfold okM at hms
        generalize ms[i] = m at *
        obtain ⟨str, nd, junk⟩ := m
        dsimp only at d0 hstr hsm hms
        have HSTR := Lib.hid hstr; have HMI := Lib.hid hms; clear hstr hms
        have hzr := HB.out.size
        have hst := streams_any sA str.length sc str wr (HSTR.out.below HB.out) hsm
        have HST := Lib.hid hst; clear hst
        have hk01 : k = 0 ∨ k = 1 := by omega
        rcases hk01 with rfl | rfl
        · go_wp2_with fail
          refine HST.out.mono ?_
          rintro e w4 ⟨rfl, hb4⟩
          have B4 := Lib.hid (HB.out.trans (hb4.mono hzr)); have L4 := Lib.hid (hl.out.below hb4); have R4 := Lib.hid (hr.out.below hb4)
          have d4 := (B4.out.cell (p := ⟨b, off + i * 3, none⟩) hbw).trans ((HB.out.cell (p := ⟨b, off + i * 3, none⟩) hbw).symm.trans d0)
          clear hb4 l0 l1 lf0 lf1 r0 r1 rf0 rf1 hll hrl d0
          have l0 := L4.out.cell 0; have l1 := L4.out.cell 1; have lf0 := L4.out.fr 0; have lf1 := L4.out.fr 1
          simp at l0 l1
          have hll := L4.out.lt
          have hz4 := B4.out.size
          have HSB : Hid (∀ j (hj : j < str.length), ∃ sb so, sA = some ⟨sb, so, none⟩ ∧ w4.cell? ⟨sb, so + j, none⟩ = some (.int .i64 str[j])) := Lib.hid fun j hj => by
            obtain ⟨sb, so, e, hc⟩ := HSTR.out.at' (by omega)
            exact ⟨sb, so, e, (B4.out.cell (p := ⟨sb, so + j, none⟩) (World.block_lt_of_cell? w _ (hc j hj))).trans (hc j hj)⟩
          cases hok : (risB (-1) str && decide (str.length ≤ 4)) with
          | false =>
            have hmi : mi = false := by rw [HMI.out, hok, Bool.false_and]
            have HI' : Hid (AInv P n i 0 x y) := Lib.hid (by rcases HI.out with ⟨h1, h2, h3, h4⟩ | ⟨h1, h2, h3⟩ | ⟨h1, h2⟩ <;> rw [HPI.out, if_neg (by rw [hmi]; simp)] at * <;> first | exact .inl ⟨h1, h2, h3, h4⟩ | exact .inr (.inl ⟨h1, h2, h3⟩) | exact .inr (.inr ⟨h1, h2⟩))
            go_wp2
            go_loopw [8, 11] (fun kv jv wq => ∃ j : Nat, j ≤ str.length ∧ kv = .int .i64 0 ∧ jv = .int .i64 j ∧ wq = w4) (fun _ jv _ => str.length - (intOf jv).toNat)
            case atStart => exact ⟨0, Nat.zero_le _, rfl, rfl, rfl⟩
            case round =>
              obtain ⟨j, hj, rfl, rfl, rfl⟩ := hrel
              by_cases hjl : j < str.length
              · have hjl' : (j : Int) < str.length := by omega
                have hj100 : (j : Int) < 100 := by omega
                go_wp2
                go_roundw
                case rel => exact ⟨j + 1, by omega, by first | rfl | go_num, by go_num, by first | rfl | trivial⟩
                case measure => first | (simp [intOf]; done) | (simp [intOf]; omega)
              · have hjj : j = str.length := by omega
                subst hjj
                go_wp2
                go_roundw
                case rel => exact ⟨i, 0, _, x, y, by omega, rfl, rfl, by first | rfl | omega, B4.out, L4, R4, HI'⟩
                case measure => first | (simp [intOf]; done) | (simp [intOf]; omega)
          | true =>
            go_wp2
            go_loopw [8, 11] (fun kv jv wq => ∃ j : Nat, j ≤ str.length ∧ kv = .int .i64 0 ∧ jv = .int .i64 j ∧ wq = w4 ∧ Hid (∀ t (ht : t < str.length), t < j → str[t] ≠ s)) (fun _ jv _ => str.length - (intOf jv).toNat)
            case atStart => exact ⟨0, Nat.zero_le _, rfl, rfl, rfl, Lib.hid (fun t _ h => by omega)⟩
            case round =>
              obtain ⟨j, hj, rfl, rfl, rfl, hno⟩ := hrel
              by_cases hjl : j < str.length
              · have hjl' : (j : Int) < str.length := by omega
                have hj0 : (0 : Int) ≤ (j : Int) := by omega
                have hj100 : (j : Int) < 100 := by omega
                obtain ⟨sb, so, rfl, hcj⟩ := HSB.out j hjl
                by_cases hjs : str[j] = s
                · have hmi : mi = true := by rw [HMI.out, hok, Bool.true_and]; exact decide_eq_true (by rw [← hjs]; exact List.getElem_mem hjl)
                  rw [hjs] at hcj
                  have HI' : Hid (AInv P n i 1 (i : Int) y) := Lib.hid (by
                    have hp := HPI.out
                    rw [if_pos hmi] at hp
                    rcases HI.out with ⟨h1, h2, h3, h4⟩ | ⟨h1, h2, h3⟩ | ⟨h1, h2⟩
                    · exact .inr (.inl ⟨rfl, h3, by rw [h4, hp]⟩)
                    · omega
                    · omega)
                  clear hjs
                  go_wp2
                  go_roundw
                  case rel => exact ⟨i, 1, _, (i : Int), y, by omega, rfl, rfl, by first | rfl | omega, below_far B4.out (by simp) _, Lib.hid (L4.out.set 0 _), Lib.hid (R4.out.setOther (by omega) _ _), HI'⟩
                  case measure => first | (simp [intOf]; done) | (simp [intOf]; omega)
                · have HN : Hid (∀ t (ht : t < str.length), t < j + 1 → str[t] ≠ s) := Lib.hid (fun t ht h => by
                    by_cases htj : t < j
                    · exact hno.out t ht htj
                    · have : t = j := by omega
                      subst this; exact hjs)
                  generalize str[j] = xj at *
                  go_wp2
                  go_roundw
                  case rel => exact ⟨j + 1, by omega, by first | rfl | go_num, by go_num, by first | rfl | trivial, HN⟩
                  case measure => first | (simp [intOf]; done) | (simp [intOf]; omega)
              · have hjj : j = str.length := by omega
                subst hjj
                have hmi : mi = false := by
                  rw [HMI.out, hok, Bool.true_and]
                  refine decide_eq_false fun hm => ?_
                  obtain ⟨t, ht, e⟩ := List.getElem_of_mem hm
                  exact hno.out t ht ht e
                have HI' : Hid (AInv P n i 0 x y) := Lib.hid (by rcases HI.out with ⟨h1, h2, h3, h4⟩ | ⟨h1, h2, h3⟩ | ⟨h1, h2⟩ <;> rw [HPI.out, if_neg (by rw [hmi]; simp)] at * <;> first | exact .inl ⟨h1, h2, h3, h4⟩ | exact .inr (.inl ⟨h1, h2, h3⟩) | exact .inr (.inr ⟨h1, h2⟩))
                go_wp2
                go_roundw
                case rel => exact ⟨i, 0, _, x, y, by omega, rfl, rfl, by first | rfl | omega, B4.out, L4, R4, HI'⟩
                case measure => first | (simp [intOf]; done) | (simp [intOf]; omega)
        · go_wp2_with fail
          refine HST.out.mono ?_
          rintro e w4 ⟨rfl, hb4⟩
          have B4 := Lib.hid (HB.out.trans (hb4.mono hzr)); have L4 := Lib.hid (hl.out.below hb4); have R4 := Lib.hid (hr.out.below hb4)
          have d4 := (B4.out.cell (p := ⟨b, off + i * 3, none⟩) hbw).trans ((HB.out.cell (p := ⟨b, off + i * 3, none⟩) hbw).symm.trans d0)
          clear hb4 l0 l1 lf0 lf1 r0 r1 rf0 rf1 hll hrl d0
          have l0 := L4.out.cell 0; have l1 := L4.out.cell 1; have lf0 := L4.out.fr 0; have lf1 := L4.out.fr 1
          simp at l0 l1
          have hll := L4.out.lt
          have hz4 := B4.out.size
          have HSB : Hid (∀ j (hj : j < str.length), ∃ sb so, sA = some ⟨sb, so, none⟩ ∧ w4.cell? ⟨sb, so + j, none⟩ = some (.int .i64 str[j])) := Lib.hid fun j hj => by
            obtain ⟨sb, so, e, hc⟩ := HSTR.out.at' (by omega)
            exact ⟨sb, so, e, (B4.out.cell (p := ⟨sb, so + j, none⟩) (World.block_lt_of_cell? w _ (hc j hj))).trans (hc j hj)⟩
          cases hok : (risB (-1) str && decide (str.length ≤ 4)) with
          | false =>
            have hmi : mi = false := by rw [HMI.out, hok, Bool.false_and]
            have HI' : Hid (AInv P n i 1 x y) := Lib.hid (by rcases HI.out with ⟨h1, h2, h3, h4⟩ | ⟨h1, h2, h3⟩ | ⟨h1, h2⟩ <;> rw [HPI.out, if_neg (by rw [hmi]; simp)] at * <;> first | exact .inl ⟨h1, h2, h3, h4⟩ | exact .inr (.inl ⟨h1, h2, h3⟩) | exact .inr (.inr ⟨h1, h2⟩))
            go_wp2
            go_loopw [8, 11] (fun kv jv wq => ∃ j : Nat, j ≤ str.length ∧ kv = .int .i64 1 ∧ jv = .int .i64 j ∧ wq = w4) (fun _ jv _ => str.length - (intOf jv).toNat)
            case atStart => exact ⟨0, Nat.zero_le _, rfl, rfl, rfl⟩
            case round =>
              obtain ⟨j, hj, rfl, rfl, rfl⟩ := hrel
              by_cases hjl : j < str.length
              · have hjl' : (j : Int) < str.length := by omega
                have hj100 : (j : Int) < 100 := by omega
                go_wp2
                go_roundw
                case rel => exact ⟨j + 1, by omega, by first | rfl | go_num, by go_num, by first | rfl | trivial⟩
                case measure => first | (simp [intOf]; done) | (simp [intOf]; omega)
              · have hjj : j = str.length := by omega
                subst hjj
                go_wp2
                go_roundw
                case rel => exact ⟨i, 1, _, x, y, by omega, rfl, rfl, by first | rfl | omega, B4.out, L4, R4, HI'⟩
                case measure => first | (simp [intOf]; done) | (simp [intOf]; omega)
          | true =>
            go_wp2
            go_loopw [8, 11] (fun kv jv wq => ∃ j : Nat, j ≤ str.length ∧ kv = .int .i64 1 ∧ jv = .int .i64 j ∧ wq = w4 ∧ Hid (∀ t (ht : t < str.length), t < j → str[t] ≠ s)) (fun _ jv _ => str.length - (intOf jv).toNat)
            case atStart => exact ⟨0, Nat.zero_le _, rfl, rfl, rfl, Lib.hid (fun t _ h => by omega)⟩
            case round =>
              obtain ⟨j, hj, rfl, rfl, rfl, hno⟩ := hrel
              by_cases hjl : j < str.length
              · have hjl' : (j : Int) < str.length := by omega
                have hj0 : (0 : Int) ≤ (j : Int) := by omega
                have hj100 : (j : Int) < 100 := by omega
                obtain ⟨sb, so, rfl, hcj⟩ := HSB.out j hjl
                by_cases hjs : str[j] = s
                · have hmi : mi = true := by rw [HMI.out, hok, Bool.true_and]; exact decide_eq_true (by rw [← hjs]; exact List.getElem_mem hjl)
                  rw [hjs] at hcj
                  have HI' : Hid (AInv P n i 2 x (i : Int)) := Lib.hid (by
                    have hp := HPI.out
                    rw [if_pos hmi] at hp
                    rcases HI.out with ⟨h1, h2, h3, h4⟩ | ⟨h1, h2, h3⟩ | ⟨h1, h2⟩
                    · omega
                    · exact .inr (.inr ⟨rfl, by rw [h3, hp]⟩)
                    · omega)
                  clear hjs
                  go_wp2
                  go_roundw
                  case rel => exact ⟨i, 2, _, x, (i : Int), by omega, rfl, rfl, by first | rfl | omega, below_far B4.out (by simp) _, Lib.hid (L4.out.set 1 _), Lib.hid (R4.out.setOther (by omega) _ _), HI'⟩
                  case measure => first | (simp [intOf]; done) | (simp [intOf]; omega)
                · have HN : Hid (∀ t (ht : t < str.length), t < j + 1 → str[t] ≠ s) := Lib.hid (fun t ht h => by
                    by_cases htj : t < j
                    · exact hno.out t ht htj
                    · have : t = j := by omega
                      subst this; exact hjs)
                  generalize str[j] = xj at *
                  go_wp2
                  go_roundw
                  case rel => exact ⟨j + 1, by omega, by first | rfl | go_num, by go_num, by first | rfl | trivial, HN⟩
                  case measure => first | (simp [intOf]; done) | (simp [intOf]; omega)
              · have hjj : j = str.length := by omega
                subst hjj
                have hmi : mi = false := by
                  rw [HMI.out, hok, Bool.true_and]
                  refine decide_eq_false fun hm => ?_
                  obtain ⟨t, ht, e⟩ := List.getElem_of_mem hm
                  exact hno.out t ht ht e
                have HI' : Hid (AInv P n i 1 x y) := Lib.hid (by rcases HI.out with ⟨h1, h2, h3, h4⟩ | ⟨h1, h2, h3⟩ | ⟨h1, h2⟩ <;> rw [HPI.out, if_neg (by rw [hmi]; simp)] at * <;> first | exact .inl ⟨h1, h2, h3, h4⟩ | exact .inr (.inl ⟨h1, h2, h3⟩) | exact .inr (.inr ⟨h1, h2⟩))
                go_wp2
                go_roundw
                case rel => exact ⟨i, 1, _, x, y, by omega, rfl, rfl, by first | rfl | omega, B4.out, L4, R4, HI'⟩
                case measure => first | (simp [intOf]; done) | (simp [intOf]; omega)
      · have hk : k = 2 := by
          rcases HI.out with ⟨h, _⟩ | ⟨h, _⟩ | ⟨h, _⟩ <;> omega
        subst hk
        have E : P n = (x, y) := by
          rcases HI.out with ⟨h, _⟩ | ⟨h, _⟩ | ⟨_, h⟩
          · omega
          · omega
          · exact h
        have E' := Lib.hid E; clear E
        go_wp2
        refine bodyPost_ret (results_cell_row rfl _ _ w.heap.size 29 _ (0, 0) _ rfl ((hr.out.set 0 _).set 1 _) Try.underlying29 rfl (by kernel_rfl)) rfl ?_
        exact ⟨by rw [E'.out]; rfl, below_far (below_far HB.out (Nat.le_refl _) _) (Nat.le_refl _) _⟩
end Go.Proofs.Ytjalhcfphhdcbaa
