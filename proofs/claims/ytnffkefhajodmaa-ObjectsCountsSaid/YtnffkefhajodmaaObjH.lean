/- ObjectsCounts: the walk. -/
import Derived.Test.YtnffkefhajodmaaObjG
namespace Go.Proofs.Ytnffkefhajodmaa
open Go.RowKit

theorem StIs.below {w w' : World} {s : Nat} {m q : Value} {t : Int} (h : StIs w s m q t) (hb : Below w.heap.size w w') : StIs w' s m q t := h.keep (hb.block s h.lt)

theorem field2 (a b d : Value) (n : Int) (W : World) : (Instr.field 29 (.agg #[a, b, .int .i64 n, d]) 2).run Try.prog W = .ok (.int .i64 n) W := by kernel_rfl

set_option maxRecDepth 100000 in
set_option maxHeartbeats 1000000 in
theorem counts_small (A : Option Addr) (n c : Nat) (xs : List Int) (w : World) (h : RdI .i64 w A n xs) (hn : n ≤ 100) (hx : ∀ x ∈ xs, -9223372036854775808 ≤ x ∧ x ≤ 9223372036854775807) :
    Calls Try.prog 3 #[.slice A n c] w fun e w' => e = .returned (.bool true) ∧ Below w.heap.size w w' := by
  have hnn : ¬ (100 < (n : Int)) := by omega
  have hfl := field2
  have Hl := Lib.hid h.len
  have Hx := Lib.hid hx; clear hx
  have HH := Lib.hid h; clear h
  go_enter Try.func3, Try.ntmps3
  go_wp2_with fail
  refine (new_any w).mono ?_
  rintro e w1 ⟨rfl, rfl⟩
  have s1 : StIs ((w.alloc (.map #[] 0)).alloc (.cells #[.map (some w.heap.size), .int .i64 0, .slice none 0 0] 74 (0, 0))) (w.heap.size + 1) (.map (some w.heap.size)) (.slice none 0 0) 0 := Blk.newAt (w.alloc _) _ _ _ (by simp)
  have b1 : Below w.heap.size w ((w.alloc (.map #[] 0)).alloc (.cells #[.map (some w.heap.size), .int .i64 0, .slice none 0 0] 74 (0, 0))) := ((Below.refl _ _).alloc (Nat.le_refl _) _).alloc (by simp) _
  generalize hw1 : (w.alloc (.map #[] 0)).alloc (.cells #[.map (some w.heap.size), .int .i64 0, .slice none 0 0] 74 (0, 0)) = w1 at *
  clear hw1
  have S1 := Lib.hid s1; clear s1
  have B1 := Lib.hid b1; clear b1
  go_wp2
  go_loopw [5, 4] (fun i sm wr => ∃ k : Nat, k ≤ n ∧ i = .int .i64 k ∧ sm = .int .u64 (IntKind.u64.wrap (tot (xs.take k))) ∧ Below w.heap.size w wr ∧ Hid (StIs wr (w.heap.size + 1) (.map (some w.heap.size)) (.slice none 0 0) (tot (xs.take k)))) (fun i _ _ => n - (intOf i).toNat)
  case atStart => exact ⟨0, Nat.zero_le _, rfl, rfl, B1.out, S1⟩
  case round =>
    obtain ⟨k, hk, rfl, rfl, hb, hs⟩ := hrel
    by_cases hlt : k < n
    · obtain ⟨b, off, rfl, hc⟩ := HH.out.at' (by omega)
      have hk1 : k < xs.length := by rw [Hl.out]; exact hlt
      have hck0 := hc k hk1
      have hbn : b < w.heap.size := World.block_lt_of_cell? w _ hck0
      have hck := (hb.cell (p := ⟨b, off + k, none⟩) hbn).trans hck0
      have hzr := hb.size
      clear hck0
      obtain ⟨x1, x2⟩ := Hx.out _ (List.getElem_mem hk1)
      have e4 := tot_take_succ xs k hk1
      obtain ⟨t1, t2⟩ := tot_range (xs.take k)
      generalize hx : xs[k] = x at *
      generalize ht : tot (xs.take k) = t at *
      clear hc hx ht
      have E4 := Lib.hid e4; clear e4
      go_wp2_with fail
      refine (total_any _ _ _ _ _ hs.out).mono ?_
      rintro e w4 ⟨rfl, rfl⟩
      go_wp2_with fail
      refine (do_add (w.heap.size + 1) _ _ t x ⟨#[]⟩ ⟨#[]⟩ wr hs.out (right4 x)).mono ?_
      rintro e w5 ⟨rfl, S5, G5⟩
      have hck5 := World.grownBy.cell G5 hck (by intro e; have := Option.some.inj e; simp at this; omega)
      have hb5 : b < w5.heap.size := by have := G5.size; omega
      have B5 := hb.grown G5 hzr (fun j e => by have := Option.some.inj e; omega)
      have HB5 := Lib.hid B5
      have HS5 := Lib.hid S5
      have HG5 := Lib.hid G5
      have HB := Lib.hid hb
      clear B5 S5 G5 hb
      have hst := sum_step t x
      have hsb := sum_back (wrap64 (t + x)) (by simp only [wrap64]; omega)
      have hsb2 : IntKind.i64.wrap (IntKind.u64.wrap (wrap64 (t + x))) = wrap64 (t + x) := (IntWalk.i64_left _).trans hsb
      have h5 := five_cases t x ⟨t1, t2⟩ ⟨x1, x2⟩
      clear t1 t2 x1 x2
      rcases h5 with ⟨o0, o1, o2⟩ | ⟨o0, o1, o2, o3⟩ | ⟨o0, o1, o2, o3⟩ | ⟨o0, o1, o2, o3⟩ | ⟨o0, o1, o2⟩
      · go_wp2
        all_goals
          have KB : Blk (w5.alloc (.cells #[.bool true, .string ⟨#[]⟩, .int .i64 (wrap64 (t + x)), .int .i64 0] 29)) w5.heap.size #[.bool true, .string ⟨#[]⟩, .int .i64 (wrap64 (t + x)), .int .i64 0] 29 := Blk.new _ _ _
          have HS6 : StIs (w5.alloc (.cells #[.bool true, .string ⟨#[]⟩, .int .i64 (wrap64 (t + x)), .int .i64 0] 29)).drew (w.heap.size + 1) (.map (some w.heap.size)) (.slice none 0 0) (wrap64 (t + x)) := (HS5.out.alloc _).drew
          have HB6 : Below w.heap.size w (w5.alloc (.cells #[.bool true, .string ⟨#[]⟩, .int .i64 (wrap64 (t + x)), .int .i64 0] 29)).drew := (HB5.out.alloc HB5.out.size _).drew
          have HKB := Lib.hid KB; clear KB
          have HHS := Lib.hid HS6; clear HS6
          have HHB := Lib.hid HB6; clear HB6
          go_region_held3 (fun W => W.cell? ⟨w5.heap.size, 2, none⟩ = some (.int .i64 (wrap64 (t + x))) ∧ W.cell? ⟨w5.heap.size, 0, none⟩ = some (.bool true)) (first | exact ⟨s2, s0⟩ | exact ⟨HKB.out.drew.cell 2, HKB.out.drew.cell 0⟩ | go_keep)
            (first
              | (go_at_call 11; refine (total_any _ _ _ _ _ HHS.out).mono ?_; rintro e w6 ⟨rfl, rfl⟩)
              | (go_at_call 12; refine (do_count _ _ _ _ _ _ _ _ HHS.out right5).mono ?_; rintro e w7 ⟨rfl, hb7⟩; have HKC := Lib.hid (HKB.out.drew.below hb7); have s2 := HKC.out.cell 2; have s0 := HKC.out.cell 0; simp at s2 s0; have HB7 := Lib.hid hb7; clear hb7))
          go_wp2
          go_roundw
          case rel =>
            have hz7 := HHB.out.size
            refine ⟨k + 1, by omega, by go_num, by rw [E4.out], below_trans HHB.out HB7.out hz7, ?_⟩
            rw [E4.out]; exact HHS.out.below HB7.out
          case measure => simp [intOf]; omega
      · go_wp2
        all_goals
          have KB : Blk (w5.alloc (.cells #[.bool true, .string ⟨#[]⟩, .int .i64 (wrap64 (t + x)), .int .i64 0] 29)) w5.heap.size #[.bool true, .string ⟨#[]⟩, .int .i64 (wrap64 (t + x)), .int .i64 0] 29 := Blk.new _ _ _
          have HS6 : StIs (w5.alloc (.cells #[.bool true, .string ⟨#[]⟩, .int .i64 (wrap64 (t + x)), .int .i64 0] 29)).drew (w.heap.size + 1) (.map (some w.heap.size)) (.slice none 0 0) (wrap64 (t + x)) := (HS5.out.alloc _).drew
          have HB6 : Below w.heap.size w (w5.alloc (.cells #[.bool true, .string ⟨#[]⟩, .int .i64 (wrap64 (t + x)), .int .i64 0] 29)).drew := (HB5.out.alloc HB5.out.size _).drew
          have HKB := Lib.hid KB; clear KB
          have HHS := Lib.hid HS6; clear HS6
          have HHB := Lib.hid HB6; clear HB6
          go_region_held3 (fun W => W.cell? ⟨w5.heap.size, 2, none⟩ = some (.int .i64 (wrap64 (t + x))) ∧ W.cell? ⟨w5.heap.size, 0, none⟩ = some (.bool true)) (first | exact ⟨s2, s0⟩ | exact ⟨HKB.out.drew.cell 2, HKB.out.drew.cell 0⟩ | go_keep)
            (first
              | (go_at_call 11; refine (total_any _ _ _ _ _ HHS.out).mono ?_; rintro e w6 ⟨rfl, rfl⟩)
              | (go_at_call 12; refine (do_count _ _ _ _ _ _ _ _ HHS.out right5).mono ?_; rintro e w7 ⟨rfl, hb7⟩; have HKC := Lib.hid (HKB.out.drew.below hb7); have s2 := HKC.out.cell 2; have s0 := HKC.out.cell 0; simp at s2 s0; have HB7 := Lib.hid hb7; clear hb7))
          go_wp2
          go_roundw
          case rel =>
            have hz7 := HHB.out.size
            refine ⟨k + 1, by omega, by go_num, by rw [E4.out], below_trans HHB.out HB7.out hz7, ?_⟩
            rw [E4.out]; exact HHS.out.below HB7.out
          case measure => simp [intOf]; omega
      · go_wp2
        all_goals
          have KB : Blk (w5.alloc (.cells #[.bool false, .string ⟨#[]⟩, .int .i64 (wrap64 (t + x)), .int .i64 0] 29)) w5.heap.size #[.bool false, .string ⟨#[]⟩, .int .i64 (wrap64 (t + x)), .int .i64 0] 29 := Blk.new _ _ _
          have HS6 : StIs (w5.alloc (.cells #[.bool false, .string ⟨#[]⟩, .int .i64 (wrap64 (t + x)), .int .i64 0] 29)).drew (w.heap.size + 1) (.map (some w.heap.size)) (.slice none 0 0) (wrap64 (t + x)) := (HS5.out.alloc _).drew
          have HB6 : Below w.heap.size w (w5.alloc (.cells #[.bool false, .string ⟨#[]⟩, .int .i64 (wrap64 (t + x)), .int .i64 0] 29)).drew := (HB5.out.alloc HB5.out.size _).drew
          have HKB := Lib.hid KB; clear KB
          have HHS := Lib.hid HS6; clear HS6
          have HHB := Lib.hid HB6; clear HB6
          go_region_held3 (fun W => W.cell? ⟨w5.heap.size, 2, none⟩ = some (.int .i64 (wrap64 (t + x))) ∧ W.cell? ⟨w5.heap.size, 0, none⟩ = some (.bool false)) (first | exact ⟨s2, s0⟩ | exact ⟨HKB.out.drew.cell 2, HKB.out.drew.cell 0⟩ | go_keep)
            (first
              | (go_at_call 11; refine (total_any _ _ _ _ _ HHS.out).mono ?_; rintro e w6 ⟨rfl, rfl⟩)
              | (go_at_call 12; refine (do_count _ _ _ _ _ _ _ _ HHS.out right5).mono ?_; rintro e w7 ⟨rfl, hb7⟩; have HKC := Lib.hid (HKB.out.drew.below hb7); have s2 := HKC.out.cell 2; have s0 := HKC.out.cell 0; simp at s2 s0; have HB7 := Lib.hid hb7; clear hb7))
          go_wp2
          go_roundw
          case rel =>
            have hz7 := HHB.out.size
            refine ⟨k + 1, by omega, by go_num, by rw [E4.out], below_trans HHB.out HB7.out hz7, ?_⟩
            rw [E4.out]; exact HHS.out.below HB7.out
          case measure => simp [intOf]; omega
      · go_wp2
        all_goals
          have KB : Blk (w5.alloc (.cells #[.bool false, .string ⟨#[]⟩, .int .i64 (wrap64 (t + x)), .int .i64 0] 29)) w5.heap.size #[.bool false, .string ⟨#[]⟩, .int .i64 (wrap64 (t + x)), .int .i64 0] 29 := Blk.new _ _ _
          have HS6 : StIs (w5.alloc (.cells #[.bool false, .string ⟨#[]⟩, .int .i64 (wrap64 (t + x)), .int .i64 0] 29)).drew (w.heap.size + 1) (.map (some w.heap.size)) (.slice none 0 0) (wrap64 (t + x)) := (HS5.out.alloc _).drew
          have HB6 : Below w.heap.size w (w5.alloc (.cells #[.bool false, .string ⟨#[]⟩, .int .i64 (wrap64 (t + x)), .int .i64 0] 29)).drew := (HB5.out.alloc HB5.out.size _).drew
          have HKB := Lib.hid KB; clear KB
          have HHS := Lib.hid HS6; clear HS6
          have HHB := Lib.hid HB6; clear HB6
          go_region_held3 (fun W => W.cell? ⟨w5.heap.size, 2, none⟩ = some (.int .i64 (wrap64 (t + x))) ∧ W.cell? ⟨w5.heap.size, 0, none⟩ = some (.bool false)) (first | exact ⟨s2, s0⟩ | exact ⟨HKB.out.drew.cell 2, HKB.out.drew.cell 0⟩ | go_keep)
            (first
              | (go_at_call 11; refine (total_any _ _ _ _ _ HHS.out).mono ?_; rintro e w6 ⟨rfl, rfl⟩)
              | (go_at_call 12; refine (do_count _ _ _ _ _ _ _ _ HHS.out right5).mono ?_; rintro e w7 ⟨rfl, hb7⟩; have HKC := Lib.hid (HKB.out.drew.below hb7); have s2 := HKC.out.cell 2; have s0 := HKC.out.cell 0; simp at s2 s0; have HB7 := Lib.hid hb7; clear hb7))
          go_wp2
          go_roundw
          case rel =>
            have hz7 := HHB.out.size
            refine ⟨k + 1, by omega, by go_num, by rw [E4.out], below_trans HHB.out HB7.out hz7, ?_⟩
            rw [E4.out]; exact HHS.out.below HB7.out
          case measure => simp [intOf]; omega
      · go_wp2
        all_goals
          have KB : Blk (w5.alloc (.cells #[.bool false, .string ⟨#[]⟩, .int .i64 (wrap64 (t + x)), .int .i64 0] 29)) w5.heap.size #[.bool false, .string ⟨#[]⟩, .int .i64 (wrap64 (t + x)), .int .i64 0] 29 := Blk.new _ _ _
          have HS6 : StIs (w5.alloc (.cells #[.bool false, .string ⟨#[]⟩, .int .i64 (wrap64 (t + x)), .int .i64 0] 29)).drew (w.heap.size + 1) (.map (some w.heap.size)) (.slice none 0 0) (wrap64 (t + x)) := (HS5.out.alloc _).drew
          have HB6 : Below w.heap.size w (w5.alloc (.cells #[.bool false, .string ⟨#[]⟩, .int .i64 (wrap64 (t + x)), .int .i64 0] 29)).drew := (HB5.out.alloc HB5.out.size _).drew
          have HKB := Lib.hid KB; clear KB
          have HHS := Lib.hid HS6; clear HS6
          have HHB := Lib.hid HB6; clear HB6
          go_region_held3 (fun W => W.cell? ⟨w5.heap.size, 2, none⟩ = some (.int .i64 (wrap64 (t + x))) ∧ W.cell? ⟨w5.heap.size, 0, none⟩ = some (.bool false)) (first | exact ⟨s2, s0⟩ | exact ⟨HKB.out.drew.cell 2, HKB.out.drew.cell 0⟩ | go_keep)
            (first
              | (go_at_call 11; refine (total_any _ _ _ _ _ HHS.out).mono ?_; rintro e w6 ⟨rfl, rfl⟩)
              | (go_at_call 12; refine (do_count _ _ _ _ _ _ _ _ HHS.out right5).mono ?_; rintro e w7 ⟨rfl, hb7⟩; have HKC := Lib.hid (HKB.out.drew.below hb7); have s2 := HKC.out.cell 2; have s0 := HKC.out.cell 0; simp at s2 s0; have HB7 := Lib.hid hb7; clear hb7))
          go_wp2
          go_roundw
          case rel =>
            have hz7 := HHB.out.size
            refine ⟨k + 1, by omega, by go_num, by rw [E4.out], below_trans HHB.out HB7.out hz7, ?_⟩
            rw [E4.out]; exact HHS.out.below HB7.out
          case measure => simp [intOf]; omega
    · have : k = n := by omega
      subst this
      have e : xs.take k = xs := List.take_of_length_le (by rw [Hl.out]; exact Nat.le_refl _)
      rw [e] at hs
      rw [e]
      have HB := Lib.hid hb; clear hb
      clear e
      go_wp2
      go_loopw [9] (fun i wr => ∃ j : Nat, j ≤ k ∧ i = .int .i64 ((j : Int) - 1) ∧ Below w.heap.size w wr ∧ Hid (StIs wr (w.heap.size + 1) (.map (some w.heap.size)) (.slice none 0 0) (tot (xs.take j)))) (fun i _ => (intOf i + 1).toNat)
      case atStart => exact ⟨k, Nat.le_refl _, rfl, HB.out, by rw [List.take_of_length_le (by rw [Hl.out]; exact Nat.le_refl _)]; exact hs⟩
      case round =>
        obtain ⟨j, hj, rfl, hb, hs⟩ := hrel
        cases j with
        | zero =>
          have ez : ((0 : Nat) : Int) - 1 = -1 := rfl
          have HB := Lib.hid hb; clear hb
          go_wp2_with (first
            | (go_at_call 13; refine (alive_any _).mono ?_; rintro e w8 ⟨rfl, hb8⟩; have HB8 := Lib.hid hb8; clear hb8)
            | (go_at_call 11; refine (total_any _ _ _ _ _ (hs.out.below HB8.out)).mono ?_; rintro e w9 ⟨rfl, rfl⟩))
          go_ret
          exact ⟨rfl, below_trans HB.out HB8.out HB.out.size⟩
        | succ j =>
          have ej : (((j + 1 : Nat) : Int) - 1) = (j : Int) := by omega
          rw [ej]
          obtain ⟨b, off, rfl, hc⟩ := HH.out.at' (by omega)
          have hk1 : j < xs.length := by rw [Hl.out]; omega
          have hck0 := hc j hk1
          have hbn : b < w.heap.size := World.block_lt_of_cell? w _ hck0
          have hck := (hb.cell (p := ⟨b, off + j, none⟩) hbn).trans hck0
          have hzr := hb.size
          obtain ⟨x1, x2⟩ := Hx.out _ (List.getElem_mem hk1)
          have e4 := tot_take_succ xs j hk1
          have t12 := tot_range (xs.take j)
          have e5 := back_step (tot (xs.take j)) xs[j] t12
          generalize hx : xs[j] = x at *
          clear hc hx hck0
          have E4 := Lib.hid e4; clear e4
          have E5 := Lib.hid e5; clear e5
          have T12 := Lib.hid t12; clear t12 x1 x2
          have HB := Lib.hid hb; clear hb
          have hjk : (j : Int) < k := by omega
          go_wp2_with fail
          refine (do_add (w.heap.size + 1) _ _ _ (wrap64 (-x)) ⟨#[]⟩ ⟨#[]⟩ wr hs.out (right4 _)).mono ?_
          rintro e w5 ⟨rfl, S5, G5⟩
          have S5 := Lib.hid S5
          have G5 := Lib.hid G5
          go_wp2
          go_roundw
          case rel =>
            refine ⟨j, by omega, by go_num, HB.out.grown G5.out hzr (fun j e => by have := Option.some.inj e; omega), ?_⟩
            have := S5.out
            rw [E4.out, E5.out] at this
            exact this
          case measure => first | (simp [intOf]; done) | (simp [intOf]; omega)

theorem counts_big (A : Option Addr) (n c : Nat) (w : World) (hn : 100 < n) (hm : n ≤ 9223372036854775807) :
    Calls Try.prog 3 #[.slice A n c] w fun e w' => e = .returned (.bool true) ∧ Below w.heap.size w w' := by
  have hnn : (100 < (n : Int)) := by omega
  go_enter Try.func3, Try.ntmps3
  go_wp2_with fail
  refine (new_any w).mono ?_
  rintro e w1 ⟨rfl, rfl⟩
  go_wp2
  go_ret
  exact ⟨rfl, ((Below.refl _ _).alloc (Nat.le_refl _) _).alloc (by simp) _⟩

end Go.Proofs.Ytnffkefhajodmaa
