/- objects: Do (printed by gen_objdo.py). -/
import Derived.Test.YtnffkefhajodmaaObjB
set_option linter.unusedVariables false
set_option linter.unusedSimpArgs false
namespace Go.Proofs.Ytnffkefhajodmaa
open Go.RowKit

set_option maxRecDepth 100000 in
set_option maxHeartbeats 1000000 in
theorem do_add (s : Nat) (m q : Value) (t n : Int) (key val : ByteArray) (w : World) (h : StIs w s m q t) (hr : rightB 4 key val n = true) :
    Calls Try.prog 12 #[.pointer (some ⟨s, 0, none⟩), .agg #[.int .i64 4, .string key, .string val, .int .i64 n]] w fun e w' => e = .returned (.agg #[.bool (ovf t n), .string ⟨#[]⟩, .int .i64 (wrap64 (t + n)), .int .i64 0]) ∧ St1 w w' s m q (wrap64 (t + n)) := by
  have hs := h.lt
  have H := Lib.hid h; clear h
  go_enter Try.func12, Try.ntmps12
  go_wp2_with (go_at_call 27; refine (right_any _ _ _ _ _).mono ?_; rw [hr]; rintro e w1 ⟨rfl, hb⟩; have hz1 := hb.size; simp only [World.size_alloc] at hz1)
  have hS := Lib.hid (((H.out.alloc (.cells #[.int .i64 4, .string key, .string val, .int .i64 n] 32)).alloc _).keep (hb.block s (by simp; omega)))
  have HB := Lib.hid hb; clear hb
  have hb0 : w.heap.size < w1.heap.size := by omega
  have hb1 : w.heap.size + 1 < w1.heap.size := by omega
  have k0 : Blk w1 w.heap.size #[.int .i64 4, .string key, .string val, .int .i64 n] 32 := ((Blk.new _ _ _).alloc _).keep (HB.out.block _ (by simp; omega))
  have k00 := k0.cell 0
  have k01 := k0.cell 1
  have k02 := k0.cell 2
  have k03 := k0.cell 3
  have K0 := Lib.hid k0; clear k0
  refine region_tail 6 (by kernel_rfl) (by kernel_rfl) ?_
  simp only [List.take_succ_cons, List.take_zero, List.drop_succ_cons, List.drop_zero]
  repeat still_step
  refine wpStill_nil ?_
  go_wp2_with fail
  refine (add_any s m q t n _ _ _ _ (hS.out.alloc _).drew).mono ?_
  rintro e w2 ⟨rfl, hb2⟩
  have k1 : Blk w2 (w.heap.size + 1) #[.bool false, .string ⟨#[]⟩, .int .i64 0, .int .i64 0] 29 :=
    ((((Blk.newAt (w.alloc _) _ _ (w.heap.size + 1) (by simp)).keep (HB.out.block _ (by simp))).alloc _).drew).grown hb2.2 (by intro e; injection e; omega)
  have k10 := k1.cell 0
  have k11 := k1.cell 1
  have k12 := k1.cell 2
  have k13 := k1.cell 3
  have f1 := k1.fr
  have HB2 := Lib.hid hb2; clear hb2
  have K1 := Lib.hid k1; clear k1
  go_wp2
  refine bodyPost_ret (v := .agg #[.bool (ovf t n), .string ⟨#[]⟩, .int .i64 (wrap64 (t + n)), .int .i64 0]) (results_cell_row rfl _ _ (w.heap.size + 1) 29 _ (0, 0) _ rfl ((((K1.out.set 0 _).set 1 _).set 2 _).set 3 _) Try.underlying29 rfl (by kernel_rfl)) rfl ?_
  refine ⟨rfl, ?_⟩
  have q1 := HB.out.mono (B' := w.heap.size) (by simp; omega)
  have q5 : Below w.heap.size w w1 := (((Below.refl w.heap.size w).alloc (Nat.le_refl _) _).alloc (by simp) _).trans q1
  refine ⟨HB2.out.1.keep ?_, ?_⟩
  · have hne : ∀ o, s ≠ (⟨w.heap.size + 1, o, none⟩ : Addr).block := fun o => by simp; omega
    rw [Below.heap_setCell _ _ _ _ (hne 3), Below.heap_setCell _ _ _ _ (hne 2), Below.heap_setCell _ _ _ _ (hne 1), Below.heap_setCell _ _ _ _ (hne 0)]
  · have q4 := below_grownBy ((q5.alloc (by omega) _).drew) HB2.out.2
    exact grownBy_far (grownBy_far (grownBy_far (grownBy_far q4 (by simp) _) (by simp) _) (by simp) _) (by simp) _

set_option maxRecDepth 100000 in
set_option maxHeartbeats 1000000 in
theorem do_count (s : Nat) (m q : Value) (t n : Int) (key val : ByteArray) (w : World) (h : StIs w s m q t) (hr : rightB 5 key val n = true) :
    Calls Try.prog 12 #[.pointer (some ⟨s, 0, none⟩), .agg #[.int .i64 5, .string key, .string val, .int .i64 n]] w fun e w' => e = .returned (.agg #[.bool false, .string ⟨#[]⟩, .int .i64 t, .int .i64 0]) ∧ Below w.heap.size w w' := by
  have hs := h.lt
  have H := Lib.hid h; clear h
  go_enter Try.func12, Try.ntmps12
  go_wp2_with (go_at_call 27; refine (right_any _ _ _ _ _).mono ?_; rw [hr]; rintro e w1 ⟨rfl, hb⟩; have hz1 := hb.size; simp only [World.size_alloc] at hz1)
  have hS := Lib.hid (((H.out.alloc (.cells #[.int .i64 5, .string key, .string val, .int .i64 n] 32)).alloc _).keep (hb.block s (by simp; omega)))
  have HB := Lib.hid hb; clear hb
  have hb0 : w.heap.size < w1.heap.size := by omega
  have hb1 : w.heap.size + 1 < w1.heap.size := by omega
  have k0 : Blk w1 w.heap.size #[.int .i64 5, .string key, .string val, .int .i64 n] 32 := ((Blk.new _ _ _).alloc _).keep (HB.out.block _ (by simp; omega))
  have k00 := k0.cell 0
  have k01 := k0.cell 1
  have k02 := k0.cell 2
  have k03 := k0.cell 3
  have K0 := Lib.hid k0; clear k0
  refine region_tail 6 (by kernel_rfl) (by kernel_rfl) ?_
  simp only [List.take_succ_cons, List.take_zero, List.drop_succ_cons, List.drop_zero]
  repeat still_step
  refine wpStill_nil ?_
  go_wp2_with fail
  refine (count_any s m q t _ _ _ _ _ (hS.out.alloc _).drew).mono ?_
  rintro e w2 ⟨rfl, hb2⟩
  have k1 : Blk w2 (w.heap.size + 1) #[.bool false, .string ⟨#[]⟩, .int .i64 0, .int .i64 0] 29 :=
    ((((Blk.newAt (w.alloc _) _ _ (w.heap.size + 1) (by simp)).keep (HB.out.block _ (by simp))).alloc _).drew).below hb2
  have k10 := k1.cell 0
  have k11 := k1.cell 1
  have k12 := k1.cell 2
  have k13 := k1.cell 3
  have f1 := k1.fr
  have HB2 := Lib.hid hb2; clear hb2
  have K1 := Lib.hid k1; clear k1
  go_wp2
  refine bodyPost_ret (v := .agg #[.bool false, .string ⟨#[]⟩, .int .i64 t, .int .i64 0]) (results_cell_row rfl _ _ (w.heap.size + 1) 29 _ (0, 0) _ rfl ((((K1.out.set 0 _).set 1 _).set 2 _).set 3 _) Try.underlying29 rfl (by kernel_rfl)) rfl ?_
  refine ⟨rfl, ?_⟩
  have q1 := HB.out.mono (B' := w.heap.size) (by simp; omega)
  have q2 := HB2.out.mono (B' := w.heap.size) (by simp [World.drew]; omega)
  have q3 := ((((((Below.refl w.heap.size w).alloc (Nat.le_refl _) _).alloc (by simp) _).trans q1).alloc (by omega) _).drew).trans q2
  exact ((((q3.setCell (by simp) _).setCell (by simp) _).setCell (by simp) _).setCell (by simp) _)

end Go.Proofs.Ytnffkefhajodmaa
