/- objects: Do: put, drop, get (printed by gen_objdo3.py). -/
import Derived.Test.YtnffkefhajodmaaObjB
import Derived.Test.YtnffkefhajodmaaObjM
set_option linter.unusedVariables false
set_option linter.unusedSimpArgs false
namespace Go.Proofs.Ytnffkefhajodmaa
open Go.RowKit Go.Maps

theorem right_key {k n : Int} {key val : ByteArray} (h : rightB k key val n = true) : key.size ≤ 16 ∧ val.size ≤ 60 := by
  simp only [rightB, Bool.and_eq_true, decide_eq_true_eq] at h
  exact ⟨h.1.2.2.1, h.1.2.2.2⟩

set_option maxRecDepth 100000 in
set_option maxHeartbeats 1000000 in
theorem do_put_full (s : Nat) (b : Nat) (q : Value) (t n : Int) (key val : ByteArray) (m : Ents) (w : World) (h : StIs w s (.map (some b)) q t) (hm : MapIs w b m) (hh : hasE key m = false) (hl : ¬ m.length < 30) (hr : rightB 1 key val n = true) :
    Calls Try.prog 12 #[.pointer (some ⟨s, 0, none⟩), .agg #[.int .i64 1, .string key, .string val, .int .i64 n]] w fun e w' => e = .returned (.agg #[.bool false, .string ⟨#[]⟩, .int .i64 0, .int .i64 152]) ∧ Below w.heap.size w w' := by
  have HM := Lib.hid hm; clear hm
  have hk : key.size ≤ maxLen := by have := (right_key hr).1; unfold maxLen; omega
  have hv : val.size ≤ maxLen := by have := (right_key hr).2; unfold maxLen; omega
  have hs := h.lt
  have H := Lib.hid h; clear h
  go_enter Try.func12, Try.ntmps12
  go_wp2_with (go_at_call 27; refine (right_any _ _ _ _ _).mono ?_; rw [hr]; rintro e w1 ⟨rfl, hb⟩; have hz1 := hb.size; simp only [World.size_alloc] at hz1)
  have hS := Lib.hid (((H.out.alloc (.cells #[.int .i64 1, .string key, .string val, .int .i64 n] 32)).alloc _).keep (hb.block s (by simp; omega)))
  have HB := Lib.hid hb; clear hb
  have hb0 : w.heap.size < w1.heap.size := by omega
  have hb1 : w.heap.size + 1 < w1.heap.size := by omega
  have k0 : Blk w1 w.heap.size #[.int .i64 1, .string key, .string val, .int .i64 n] 32 := ((Blk.new _ _ _).alloc _).keep (HB.out.block _ (by simp; omega))
  have k00 := k0.cell 0
  have k01 := k0.cell 1
  have k02 := k0.cell 2
  have k03 := k0.cell 3
  have K0 := Lib.hid k0; clear k0
  have q1 := HB.out.mono (B' := w.heap.size) (by simp; omega)
  have Q5 := Lib.hid ((((Below.refl w.heap.size w).alloc (Nat.le_refl _) _).alloc (by simp) _).trans q1)
  clear q1
  refine region_tail 6 (by kernel_rfl) (by kernel_rfl) ?_
  simp only [List.take_succ_cons, List.take_zero, List.drop_succ_cons, List.drop_zero]
  repeat still_step
  refine wpStill_nil ?_
  go_wp2_with fail
  have M1 := Lib.hid (((HM.out.alloc (.cells #[.int .i64 1, .string key, .string val, .int .i64 n] 32)).alloc _).keep (HB.out.block b (by have := HM.out.lt; simp; omega)))
  refine (put_full s b q t m _ _ key val _ (hS.out.alloc _).drew (M1.out.alloc _).drew hk hh hl).mono ?_
  rintro e w2 ⟨rfl, hb2⟩
  have k1 : Blk w2 (w.heap.size + 1) #[.bool false, .string ⟨#[]⟩, .int .i64 0, .int .i64 0] 29 :=
    ((((Blk.newAt (w.alloc _) _ _ (w.heap.size + 1) (by simp)).keep (HB.out.block _ (by simp))).alloc _).drew).below hb2
  have k10 := k1.cell 0
  have k11 := k1.cell 1
  have k12 := k1.cell 2
  have k13 := k1.cell 3
  have f1 := k1.fr
  have HB2 := Lib.hid hb2; clear hb2
  have K1 := Lib.hid k1; clear k1
  go_wp2
  refine bodyPost_ret (v := .agg #[.bool false, .string ⟨#[]⟩, .int .i64 0, .int .i64 152]) (results_cell_row rfl _ _ (w.heap.size + 1) 29 _ (0, 0) _ rfl ((((K1.out.set 0 _).set 1 _).set 2 _).set 3 _) Try.underlying29 rfl (by kernel_rfl)) rfl ?_
  refine ⟨rfl, ?_⟩
  have q3 := ((Q5.out.alloc (by omega) _).drew).trans (HB2.out.mono (B' := w.heap.size) (by simp [World.drew]; omega))
  exact ((((q3.setCell (by simp) _).setCell (by simp) _).setCell (by simp) _).setCell (by simp) _)

set_option maxRecDepth 100000 in
set_option maxHeartbeats 1000000 in
theorem do_put (s : Nat) (b : Nat) (q : Value) (t n : Int) (key val : ByteArray) (m : Ents) (w : World) (h : StIs w s (.map (some b)) q t) (hm : MapIs w b m) (hh : hasE key m = true ∨ m.length < 30) (hl : m.length < 1000) (hr : rightB 1 key val n = true) :
    Calls Try.prog 12 #[.pointer (some ⟨s, 0, none⟩), .agg #[.int .i64 1, .string key, .string val, .int .i64 n]] w (PutPost w s b q t m (putE key val m) key) := by
  have HM := Lib.hid hm; clear hm
  have hk : key.size ≤ maxLen := by have := (right_key hr).1; unfold maxLen; omega
  have hv : val.size ≤ maxLen := by have := (right_key hr).2; unfold maxLen; omega
  have hs := h.lt
  have H := Lib.hid h; clear h
  go_enter Try.func12, Try.ntmps12
  go_wp2_with (go_at_call 27; refine (right_any _ _ _ _ _).mono ?_; rw [hr]; rintro e w1 ⟨rfl, hb⟩; have hz1 := hb.size; simp only [World.size_alloc] at hz1)
  have hS := Lib.hid (((H.out.alloc (.cells #[.int .i64 1, .string key, .string val, .int .i64 n] 32)).alloc _).keep (hb.block s (by simp; omega)))
  have HB := Lib.hid hb; clear hb
  have hb0 : w.heap.size < w1.heap.size := by omega
  have hb1 : w.heap.size + 1 < w1.heap.size := by omega
  have k0 : Blk w1 w.heap.size #[.int .i64 1, .string key, .string val, .int .i64 n] 32 := ((Blk.new _ _ _).alloc _).keep (HB.out.block _ (by simp; omega))
  have k00 := k0.cell 0
  have k01 := k0.cell 1
  have k02 := k0.cell 2
  have k03 := k0.cell 3
  have K0 := Lib.hid k0; clear k0
  have q1 := HB.out.mono (B' := w.heap.size) (by simp; omega)
  have Q5 := Lib.hid ((((Below.refl w.heap.size w).alloc (Nat.le_refl _) _).alloc (by simp) _).trans q1)
  clear q1
  refine region_tail 6 (by kernel_rfl) (by kernel_rfl) ?_
  simp only [List.take_succ_cons, List.take_zero, List.drop_succ_cons, List.drop_zero]
  repeat still_step
  refine wpStill_nil ?_
  go_wp2_with fail
  have M1 := Lib.hid (((HM.out.alloc (.cells #[.int .i64 1, .string key, .string val, .int .i64 n] 32)).alloc _).keep (HB.out.block b (by have := HM.out.lt; simp; omega)))
  refine (put_ok s b q t m _ _ key val _ (hS.out.alloc _).drew (M1.out.alloc _).drew hk hv hh hl).mono ?_
  obtain ⟨hb0, hE⟩ : ∃ x, hasE key m = x := ⟨_, rfl⟩
  unfold PutPost hadV
  rw [hE]
  rintro e w2 ⟨rfl, hb2⟩
  have k1 : Blk w2 (w.heap.size + 1) #[.bool false, .string ⟨#[]⟩, .int .i64 0, .int .i64 0] 29 :=
    ((((Blk.newAt (w.alloc _) _ _ (w.heap.size + 1) (by simp)).keep (HB.out.block _ (by simp))).alloc _).drew).grown hb2.2.2 (by have := HM.out.lt; intro e; injection e; omega)
  have k10 := k1.cell 0
  have k11 := k1.cell 1
  have k12 := k1.cell 2
  have k13 := k1.cell 3
  have f1 := k1.fr
  have HB2 := Lib.hid hb2; clear hb2
  have K1 := Lib.hid k1; clear k1
  go_wp2
  refine bodyPost_ret (v := .agg #[.bool hb0, .string ((getE key m).getD ByteArray.empty), .int .i64 0, .int .i64 0]) (results_cell_row rfl _ _ (w.heap.size + 1) 29 _ (0, 0) _ rfl ((((K1.out.set 0 _).set 1 _).set 2 _).set 3 _) Try.underlying29 rfl (by kernel_rfl)) rfl ?_
  have hs3 : s ≠ w.heap.size + 1 := by omega
  have hb3 : b ≠ w.heap.size + 1 := by have := HM.out.lt; omega
  refine ⟨(by show _ = Ending.returned (.agg #[.bool (hasE key m), .string ((getE key m).getD ByteArray.empty), .int .i64 0, .int .i64 0]); rw [hE]), (((HB2.out.1.far hs3 _).far hs3 _).far hs3 _).far hs3 _, (((HB2.out.2.1.far hb3 _).far hb3 _).far hb3 _).far hb3 _, ?_⟩
  have q3 := below_grownBy ((Q5.out.alloc (by omega) _).drew) HB2.out.2.2
  exact grownBy_far (grownBy_far (grownBy_far (grownBy_far q3 (by simp) _) (by simp) _) (by simp) _) (by simp) _

set_option maxRecDepth 100000 in
set_option maxHeartbeats 1000000 in
theorem do_drop (s : Nat) (b : Nat) (q : Value) (t n : Int) (key val : ByteArray) (m : Ents) (w : World) (h : StIs w s (.map (some b)) q t) (hm : MapIs w b m) (hr : rightB 2 key val n = true) :
    Calls Try.prog 12 #[.pointer (some ⟨s, 0, none⟩), .agg #[.int .i64 2, .string key, .string val, .int .i64 n]] w (PutPost w s b q t m (delE key m) key) := by
  have HM := Lib.hid hm; clear hm
  have hk : key.size ≤ maxLen := by have := (right_key hr).1; unfold maxLen; omega
  have hv : val.size ≤ maxLen := by have := (right_key hr).2; unfold maxLen; omega
  have hs := h.lt
  have H := Lib.hid h; clear h
  go_enter Try.func12, Try.ntmps12
  go_wp2_with (go_at_call 27; refine (right_any _ _ _ _ _).mono ?_; rw [hr]; rintro e w1 ⟨rfl, hb⟩; have hz1 := hb.size; simp only [World.size_alloc] at hz1)
  have hS := Lib.hid (((H.out.alloc (.cells #[.int .i64 2, .string key, .string val, .int .i64 n] 32)).alloc _).keep (hb.block s (by simp; omega)))
  have HB := Lib.hid hb; clear hb
  have hb0 : w.heap.size < w1.heap.size := by omega
  have hb1 : w.heap.size + 1 < w1.heap.size := by omega
  have k0 : Blk w1 w.heap.size #[.int .i64 2, .string key, .string val, .int .i64 n] 32 := ((Blk.new _ _ _).alloc _).keep (HB.out.block _ (by simp; omega))
  have k00 := k0.cell 0
  have k01 := k0.cell 1
  have k02 := k0.cell 2
  have k03 := k0.cell 3
  have K0 := Lib.hid k0; clear k0
  have q1 := HB.out.mono (B' := w.heap.size) (by simp; omega)
  have Q5 := Lib.hid ((((Below.refl w.heap.size w).alloc (Nat.le_refl _) _).alloc (by simp) _).trans q1)
  clear q1
  refine region_tail 6 (by kernel_rfl) (by kernel_rfl) ?_
  simp only [List.take_succ_cons, List.take_zero, List.drop_succ_cons, List.drop_zero]
  repeat still_step
  refine wpStill_nil ?_
  go_wp2_with fail
  have M1 := Lib.hid (((HM.out.alloc (.cells #[.int .i64 2, .string key, .string val, .int .i64 n] 32)).alloc _).keep (HB.out.block b (by have := HM.out.lt; simp; omega)))
  refine (drop_any s b q t m _ _ _ key _ (hS.out.alloc _).drew (M1.out.alloc _).drew hk).mono ?_
  obtain ⟨hb0, hE⟩ : ∃ x, hasE key m = x := ⟨_, rfl⟩
  unfold PutPost hadV
  rw [hE]
  rintro e w2 ⟨rfl, hb2⟩
  have k1 : Blk w2 (w.heap.size + 1) #[.bool false, .string ⟨#[]⟩, .int .i64 0, .int .i64 0] 29 :=
    ((((Blk.newAt (w.alloc _) _ _ (w.heap.size + 1) (by simp)).keep (HB.out.block _ (by simp))).alloc _).drew).grown hb2.2.2 (by have := HM.out.lt; intro e; injection e; omega)
  have k10 := k1.cell 0
  have k11 := k1.cell 1
  have k12 := k1.cell 2
  have k13 := k1.cell 3
  have f1 := k1.fr
  have HB2 := Lib.hid hb2; clear hb2
  have K1 := Lib.hid k1; clear k1
  go_wp2
  refine bodyPost_ret (v := .agg #[.bool hb0, .string ((getE key m).getD ByteArray.empty), .int .i64 0, .int .i64 0]) (results_cell_row rfl _ _ (w.heap.size + 1) 29 _ (0, 0) _ rfl ((((K1.out.set 0 _).set 1 _).set 2 _).set 3 _) Try.underlying29 rfl (by kernel_rfl)) rfl ?_
  have hs3 : s ≠ w.heap.size + 1 := by omega
  have hb3 : b ≠ w.heap.size + 1 := by have := HM.out.lt; omega
  refine ⟨(by show _ = Ending.returned (.agg #[.bool (hasE key m), .string ((getE key m).getD ByteArray.empty), .int .i64 0, .int .i64 0]); rw [hE]), (((HB2.out.1.far hs3 _).far hs3 _).far hs3 _).far hs3 _, (((HB2.out.2.1.far hb3 _).far hb3 _).far hb3 _).far hb3 _, ?_⟩
  have q3 := below_grownBy ((Q5.out.alloc (by omega) _).drew) HB2.out.2.2
  exact grownBy_far (grownBy_far (grownBy_far (grownBy_far q3 (by simp) _) (by simp) _) (by simp) _) (by simp) _

set_option maxRecDepth 100000 in
set_option maxHeartbeats 1000000 in
theorem do_had (s : Nat) (b : Nat) (q : Value) (t n : Int) (key val : ByteArray) (m : Ents) (w : World) (h : StIs w s (.map (some b)) q t) (hm : MapIs w b m) (hr : rightB 3 key val n = true) :
    Calls Try.prog 12 #[.pointer (some ⟨s, 0, none⟩), .agg #[.int .i64 3, .string key, .string val, .int .i64 n]] w fun e w' => e = .returned (hadV key m) ∧ Below w.heap.size w w' := by
  have HM := Lib.hid hm; clear hm
  have hk : key.size ≤ maxLen := by have := (right_key hr).1; unfold maxLen; omega
  have hv : val.size ≤ maxLen := by have := (right_key hr).2; unfold maxLen; omega
  have hs := h.lt
  have H := Lib.hid h; clear h
  go_enter Try.func12, Try.ntmps12
  go_wp2_with (go_at_call 27; refine (right_any _ _ _ _ _).mono ?_; rw [hr]; rintro e w1 ⟨rfl, hb⟩; have hz1 := hb.size; simp only [World.size_alloc] at hz1)
  have hS := Lib.hid (((H.out.alloc (.cells #[.int .i64 3, .string key, .string val, .int .i64 n] 32)).alloc _).keep (hb.block s (by simp; omega)))
  have HB := Lib.hid hb; clear hb
  have hb0 : w.heap.size < w1.heap.size := by omega
  have hb1 : w.heap.size + 1 < w1.heap.size := by omega
  have k0 : Blk w1 w.heap.size #[.int .i64 3, .string key, .string val, .int .i64 n] 32 := ((Blk.new _ _ _).alloc _).keep (HB.out.block _ (by simp; omega))
  have k00 := k0.cell 0
  have k01 := k0.cell 1
  have k02 := k0.cell 2
  have k03 := k0.cell 3
  have K0 := Lib.hid k0; clear k0
  have q1 := HB.out.mono (B' := w.heap.size) (by simp; omega)
  have Q5 := Lib.hid ((((Below.refl w.heap.size w).alloc (Nat.le_refl _) _).alloc (by simp) _).trans q1)
  clear q1
  refine region_tail 6 (by kernel_rfl) (by kernel_rfl) ?_
  simp only [List.take_succ_cons, List.take_zero, List.drop_succ_cons, List.drop_zero]
  repeat still_step
  refine wpStill_nil ?_
  go_wp2_with fail
  have M1 := Lib.hid (((HM.out.alloc (.cells #[.int .i64 3, .string key, .string val, .int .i64 n] 32)).alloc _).keep (HB.out.block b (by have := HM.out.lt; simp; omega)))
  refine (had_any s b q t m _ _ _ key _ (hS.out.alloc _).drew (M1.out.alloc _).drew hk).mono ?_
  obtain ⟨hb0, hE⟩ : ∃ x, hasE key m = x := ⟨_, rfl⟩
  unfold hadV
  rw [hE]
  rintro e w2 ⟨rfl, hb2⟩
  have k1 : Blk w2 (w.heap.size + 1) #[.bool false, .string ⟨#[]⟩, .int .i64 0, .int .i64 0] 29 :=
    ((((Blk.newAt (w.alloc _) _ _ (w.heap.size + 1) (by simp)).keep (HB.out.block _ (by simp))).alloc _).drew).below hb2
  have k10 := k1.cell 0
  have k11 := k1.cell 1
  have k12 := k1.cell 2
  have k13 := k1.cell 3
  have f1 := k1.fr
  have HB2 := Lib.hid hb2; clear hb2
  have K1 := Lib.hid k1; clear k1
  go_wp2
  refine bodyPost_ret (v := .agg #[.bool hb0, .string ((getE key m).getD ByteArray.empty), .int .i64 0, .int .i64 0]) (results_cell_row rfl _ _ (w.heap.size + 1) 29 _ (0, 0) _ rfl ((((K1.out.set 0 _).set 1 _).set 2 _).set 3 _) Try.underlying29 rfl (by kernel_rfl)) rfl ?_
  refine ⟨(by show _ = Ending.returned (.agg #[.bool (hasE key m), .string ((getE key m).getD ByteArray.empty), .int .i64 0, .int .i64 0]); rw [hE]), ?_⟩
  have q3 := ((Q5.out.alloc (by omega) _).drew).trans (HB2.out.mono (B' := w.heap.size) (by simp [World.drew]; omega))
  exact ((((q3.setCell (by simp) _).setCell (by simp) _).setCell (by simp) _).setCell (by simp) _)

end Go.Proofs.Ytnffkefhajodmaa
