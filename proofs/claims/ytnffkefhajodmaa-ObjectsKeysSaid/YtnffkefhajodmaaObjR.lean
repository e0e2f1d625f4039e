/- objects: Do: size, push, pop, wrong updates, no state (printed by gen_objdo2.py). -/
import Derived.Test.YtnffkefhajodmaaObjB
import Derived.Test.YtnffkefhajodmaaObjQ
set_option linter.unusedVariables false
set_option linter.unusedSimpArgs false
namespace Go.Proofs.Ytnffkefhajodmaa
open Go.RowKit

set_option maxRecDepth 100000 in
set_option maxHeartbeats 1000000 in
theorem do_size (s : Nat) (m q : Value) (t n : Int) (key val : ByteArray) (lo : Nat) (qs : List ByteArray) (w : World) (h : StIs w s m q t) (hq : QIs w lo q qs) (hr : rightB 8 key val n = true) :
    Calls Try.prog 12 #[.pointer (some ⟨s, 0, none⟩), .agg #[.int .i64 8, .string key, .string val, .int .i64 n]] w fun e w' => e = .returned (.agg #[.bool false, .string ⟨#[]⟩, .int .i64 (qs.length : Int), .int .i64 0]) ∧ Below w.heap.size w w' := by
  obtain ⟨qa, qc, rfl⟩ := hq.form
  clear hq
  have hs := h.lt
  have H := Lib.hid h; clear h
  go_enter Try.func12, Try.ntmps12
  go_wp2_with (go_at_call 27; refine (right_any _ _ _ _ _).mono ?_; rw [hr]; rintro e w1 ⟨rfl, hb⟩; have hz1 := hb.size; simp only [World.size_alloc] at hz1)
  have hS := Lib.hid (((H.out.alloc (.cells #[.int .i64 8, .string key, .string val, .int .i64 n] 32)).alloc _).keep (hb.block s (by simp; omega)))
  have HB := Lib.hid hb; clear hb
  have hb0 : w.heap.size < w1.heap.size := by omega
  have hb1 : w.heap.size + 1 < w1.heap.size := by omega
  have k0 : Blk w1 w.heap.size #[.int .i64 8, .string key, .string val, .int .i64 n] 32 := ((Blk.new _ _ _).alloc _).keep (HB.out.block _ (by simp; omega))
  have k00 := k0.cell 0
  have k01 := k0.cell 1
  have k02 := k0.cell 2
  have k03 := k0.cell 3
  have K0 := Lib.hid k0; clear k0
  have q1 := HB.out.mono (B' := w.heap.size) (by simp; omega)
  have Q5 := Lib.hid ((((Below.refl w.heap.size w).alloc (Nat.le_refl _) _).alloc (by simp) _).trans q1)
  clear q1
  refine region_tail 6 (by kernel_rfl) (by kernel_rfl) ?_
  simp only [List.take_succ_cons, List.take_zero, List.drop_succ_cons, List.drop_zero]
  repeat still_step
  refine wpStill_nil ?_
  go_wp2_with fail
  refine (size_any s m qa qs.length qc t _ _ _ _ _ (hS.out.alloc _).drew).mono ?_
  rintro e w2 ⟨rfl, hb2⟩
  have k1 : Blk w2 (w.heap.size + 1) #[.bool false, .string ⟨#[]⟩, .int .i64 0, .int .i64 0] 29 :=
    ((((Blk.newAt (w.alloc _) _ _ (w.heap.size + 1) (by simp)).keep (HB.out.block _ (by simp))).alloc _).drew).below hb2
  have k10 := k1.cell 0
  have k11 := k1.cell 1
  have k12 := k1.cell 2
  have k13 := k1.cell 3
  have f1 := k1.fr
  have HB2 := Lib.hid hb2; clear hb2
  have K1 := Lib.hid k1; clear k1
  go_wp2
  refine bodyPost_ret (v := .agg #[.bool false, .string ⟨#[]⟩, .int .i64 (qs.length : Int), .int .i64 0]) (results_cell_row rfl _ _ (w.heap.size + 1) 29 _ (0, 0) _ rfl ((((K1.out.set 0 _).set 1 _).set 2 _).set 3 _) Try.underlying29 rfl (by kernel_rfl)) rfl ?_
  refine ⟨rfl, ?_⟩
  have q3 := ((Q5.out.alloc (by omega) _).drew).trans (HB2.out.mono (B' := w.heap.size) (by simp [World.drew]; omega))
  exact ((((q3.setCell (by simp) _).setCell (by simp) _).setCell (by simp) _).setCell (by simp) _)

set_option maxRecDepth 100000 in
set_option maxHeartbeats 1000000 in
theorem do_push_full (s : Nat) (m q : Value) (t n : Int) (key val : ByteArray) (lo : Nat) (qs : List ByteArray) (w : World) (h : StIs w s m q t) (hq : QIs w lo q qs) (hl : ¬ qs.length < 30) (hm : qs.length ≤ 1000000) (hr : rightB 6 key val n = true) :
    Calls Try.prog 12 #[.pointer (some ⟨s, 0, none⟩), .agg #[.int .i64 6, .string key, .string val, .int .i64 n]] w fun e w' => e = .returned (.agg #[.bool false, .string ⟨#[]⟩, .int .i64 0, .int .i64 152]) ∧ Below w.heap.size w w' := by
  have HQ := Lib.hid hq; clear hq
  have hs := h.lt
  have H := Lib.hid h; clear h
  go_enter Try.func12, Try.ntmps12
  go_wp2_with (go_at_call 27; refine (right_any _ _ _ _ _).mono ?_; rw [hr]; rintro e w1 ⟨rfl, hb⟩; have hz1 := hb.size; simp only [World.size_alloc] at hz1)
  have hS := Lib.hid (((H.out.alloc (.cells #[.int .i64 6, .string key, .string val, .int .i64 n] 32)).alloc _).keep (hb.block s (by simp; omega)))
  have HB := Lib.hid hb; clear hb
  have hb0 : w.heap.size < w1.heap.size := by omega
  have hb1 : w.heap.size + 1 < w1.heap.size := by omega
  have k0 : Blk w1 w.heap.size #[.int .i64 6, .string key, .string val, .int .i64 n] 32 := ((Blk.new _ _ _).alloc _).keep (HB.out.block _ (by simp; omega))
  have k00 := k0.cell 0
  have k01 := k0.cell 1
  have k02 := k0.cell 2
  have k03 := k0.cell 3
  have K0 := Lib.hid k0; clear k0
  have q1 := HB.out.mono (B' := w.heap.size) (by simp; omega)
  have Q5 := Lib.hid ((((Below.refl w.heap.size w).alloc (Nat.le_refl _) _).alloc (by simp) _).trans q1)
  clear q1
  refine region_tail 6 (by kernel_rfl) (by kernel_rfl) ?_
  simp only [List.take_succ_cons, List.take_zero, List.drop_succ_cons, List.drop_zero]
  repeat still_step
  refine wpStill_nil ?_
  go_wp2_with fail
  refine (push_full s m q t lo qs _ _ _ val _ (hS.out.alloc _).drew (((((HQ.out.alloc _).alloc _).keep (fun k hk hlt => HB.out.block k hlt)).alloc _).drew) hl hm).mono ?_
  rintro e w2 ⟨rfl, hb2⟩
  have k1 : Blk w2 (w.heap.size + 1) #[.bool false, .string ⟨#[]⟩, .int .i64 0, .int .i64 0] 29 :=
    ((((Blk.newAt (w.alloc _) _ _ (w.heap.size + 1) (by simp)).keep (HB.out.block _ (by simp))).alloc _).drew).below hb2
  have k10 := k1.cell 0
  have k11 := k1.cell 1
  have k12 := k1.cell 2
  have k13 := k1.cell 3
  have f1 := k1.fr
  have HB2 := Lib.hid hb2; clear hb2
  have K1 := Lib.hid k1; clear k1
  go_wp2
  refine bodyPost_ret (v := .agg #[.bool false, .string ⟨#[]⟩, .int .i64 0, .int .i64 152]) (results_cell_row rfl _ _ (w.heap.size + 1) 29 _ (0, 0) _ rfl ((((K1.out.set 0 _).set 1 _).set 2 _).set 3 _) Try.underlying29 rfl (by kernel_rfl)) rfl ?_
  refine ⟨rfl, ?_⟩
  have q3 := ((Q5.out.alloc (by omega) _).drew).trans (HB2.out.mono (B' := w.heap.size) (by simp [World.drew]; omega))
  exact ((((q3.setCell (by simp) _).setCell (by simp) _).setCell (by simp) _).setCell (by simp) _)

set_option maxRecDepth 100000 in
set_option maxHeartbeats 1000000 in
theorem do_pop_none (s : Nat) (m q : Value) (t n : Int) (key val : ByteArray) (lo : Nat) (w : World) (h : StIs w s m q t) (hq : QIs w lo q []) (hr : rightB 7 key val n = true) :
    Calls Try.prog 12 #[.pointer (some ⟨s, 0, none⟩), .agg #[.int .i64 7, .string key, .string val, .int .i64 n]] w fun e w' => e = .returned (.agg #[.bool false, .string ⟨#[]⟩, .int .i64 0, .int .i64 0]) ∧ Below w.heap.size w w' := by
  have HQ := Lib.hid hq; clear hq
  have hs := h.lt
  have H := Lib.hid h; clear h
  go_enter Try.func12, Try.ntmps12
  go_wp2_with (go_at_call 27; refine (right_any _ _ _ _ _).mono ?_; rw [hr]; rintro e w1 ⟨rfl, hb⟩; have hz1 := hb.size; simp only [World.size_alloc] at hz1)
  have hS := Lib.hid (((H.out.alloc (.cells #[.int .i64 7, .string key, .string val, .int .i64 n] 32)).alloc _).keep (hb.block s (by simp; omega)))
  have HB := Lib.hid hb; clear hb
  have hb0 : w.heap.size < w1.heap.size := by omega
  have hb1 : w.heap.size + 1 < w1.heap.size := by omega
  have k0 : Blk w1 w.heap.size #[.int .i64 7, .string key, .string val, .int .i64 n] 32 := ((Blk.new _ _ _).alloc _).keep (HB.out.block _ (by simp; omega))
  have k00 := k0.cell 0
  have k01 := k0.cell 1
  have k02 := k0.cell 2
  have k03 := k0.cell 3
  have K0 := Lib.hid k0; clear k0
  have q1 := HB.out.mono (B' := w.heap.size) (by simp; omega)
  have Q5 := Lib.hid ((((Below.refl w.heap.size w).alloc (Nat.le_refl _) _).alloc (by simp) _).trans q1)
  clear q1
  refine region_tail 6 (by kernel_rfl) (by kernel_rfl) ?_
  simp only [List.take_succ_cons, List.take_zero, List.drop_succ_cons, List.drop_zero]
  repeat still_step
  refine wpStill_nil ?_
  go_wp2_with fail
  refine (pop_none s m q t lo _ _ _ _ _ (hS.out.alloc _).drew (((((HQ.out.alloc _).alloc _).keep (fun k hk hlt => HB.out.block k hlt)).alloc _).drew)).mono ?_
  rintro e w2 ⟨rfl, hb2⟩
  have k1 : Blk w2 (w.heap.size + 1) #[.bool false, .string ⟨#[]⟩, .int .i64 0, .int .i64 0] 29 :=
    ((((Blk.newAt (w.alloc _) _ _ (w.heap.size + 1) (by simp)).keep (HB.out.block _ (by simp))).alloc _).drew).below hb2
  have k10 := k1.cell 0
  have k11 := k1.cell 1
  have k12 := k1.cell 2
  have k13 := k1.cell 3
  have f1 := k1.fr
  have HB2 := Lib.hid hb2; clear hb2
  have K1 := Lib.hid k1; clear k1
  go_wp2
  refine bodyPost_ret (v := .agg #[.bool false, .string ⟨#[]⟩, .int .i64 0, .int .i64 0]) (results_cell_row rfl _ _ (w.heap.size + 1) 29 _ (0, 0) _ rfl ((((K1.out.set 0 _).set 1 _).set 2 _).set 3 _) Try.underlying29 rfl (by kernel_rfl)) rfl ?_
  refine ⟨rfl, ?_⟩
  have q3 := ((Q5.out.alloc (by omega) _).drew).trans (HB2.out.mono (B' := w.heap.size) (by simp [World.drew]; omega))
  exact ((((q3.setCell (by simp) _).setCell (by simp) _).setCell (by simp) _).setCell (by simp) _)

/-- What a push leaves. -/
def PushPost (w : World) (s : Nat) (m q : Value) (t : Int) (lo : Nat) (qs : List ByteArray) (val : ByteArray) (e : Ending) (w' : World) : Prop :=
  ∃ q', e = .returned (.agg #[.bool false, .string ⟨#[]⟩, .int .i64 ((qs.length + 1 : Nat) : Int), .int .i64 0]) ∧ StIs w' s m q' t ∧ QIs w' lo q' (qs ++ [val]) ∧ Kept w w' (QS s q) ∧ (q'.ownBlock = q.ownBlock ∨ ∃ b, q'.ownBlock = some b ∧ w.heap.size ≤ b)

set_option maxRecDepth 100000 in
set_option maxHeartbeats 1000000 in
theorem do_push (s : Nat) (m q : Value) (t n : Int) (key val : ByteArray) (lo : Nat) (qs : List ByteArray) (w : World) (h : StIs w s m q t) (hq : QIs w lo q qs) (hl : qs.length < 30) (hlo : lo ≤ w.heap.size) (hr : rightB 6 key val n = true) :
    Calls Try.prog 12 #[.pointer (some ⟨s, 0, none⟩), .agg #[.int .i64 6, .string key, .string val, .int .i64 n]] w (PushPost w s m q t lo qs val) := by
  have HQ := Lib.hid hq; clear hq
  have hs := h.lt
  have H := Lib.hid h; clear h
  go_enter Try.func12, Try.ntmps12
  go_wp2_with (go_at_call 27; refine (right_any _ _ _ _ _).mono ?_; rw [hr]; rintro e w1 ⟨rfl, hb⟩; have hz1 := hb.size; simp only [World.size_alloc] at hz1)
  have hS := Lib.hid (((H.out.alloc (.cells #[.int .i64 6, .string key, .string val, .int .i64 n] 32)).alloc _).keep (hb.block s (by simp; omega)))
  have HB := Lib.hid hb; clear hb
  have hb0 : w.heap.size < w1.heap.size := by omega
  have hb1 : w.heap.size + 1 < w1.heap.size := by omega
  have k0 : Blk w1 w.heap.size #[.int .i64 6, .string key, .string val, .int .i64 n] 32 := ((Blk.new _ _ _).alloc _).keep (HB.out.block _ (by simp; omega))
  have k00 := k0.cell 0
  have k01 := k0.cell 1
  have k02 := k0.cell 2
  have k03 := k0.cell 3
  have K0 := Lib.hid k0; clear k0
  have q1 := HB.out.mono (B' := w.heap.size) (by simp; omega)
  have Q5 := Lib.hid ((((Below.refl w.heap.size w).alloc (Nat.le_refl _) _).alloc (by simp) _).trans q1)
  clear q1
  refine region_tail 6 (by kernel_rfl) (by kernel_rfl) ?_
  simp only [List.take_succ_cons, List.take_zero, List.drop_succ_cons, List.drop_zero]
  repeat still_step
  refine wpStill_nil ?_
  go_wp2_with fail
  have hQ1 : QIs w1 lo q qs := ((HQ.out.alloc _).alloc _).keep (fun k hk hlt => HB.out.block k hlt)
  have hR1 : Blk w1 (w.heap.size + 1) #[.bool false, .string ⟨#[]⟩, .int .i64 0, .int .i64 0] 29 := (Blk.newAt (w.alloc _) _ _ (w.heap.size + 1) (by simp)).keep (HB.out.block _ (by simp))
  have NEQ := Lib.hid (hQ1.ne hR1 (by decide))
  have HQ1 := Lib.hid hQ1
  clear hQ1 hR1
  refine (push_ok s m q t lo qs _ _ _ val _ (hS.out.alloc _).drew (HQ1.out.alloc _).drew hl (by simp [World.drew]; omega)).mono ?_
  rintro e w2 ⟨q', rfl, hb2⟩
  have k1 : Blk w2 (w.heap.size + 1) #[.bool false, .string ⟨#[]⟩, .int .i64 0, .int .i64 0] 29 :=
    ((((Blk.newAt (w.alloc _) _ _ (w.heap.size + 1) (by simp)).keep (HB.out.block _ (by simp))).alloc _).drew).kept hb2.2.2.1 (by rintro (e | e); (omega); exact NEQ.out e)
  have k10 := k1.cell 0
  have k11 := k1.cell 1
  have k12 := k1.cell 2
  have k13 := k1.cell 3
  have f1 := k1.fr
  have HR3 := Lib.hid (hb2.2.1.ne k1 (by decide))
  have HB2 := Lib.hid hb2; clear hb2
  have K1 := Lib.hid k1; clear k1
  go_wp2
  refine bodyPost_ret (v := .agg #[.bool false, .string ⟨#[]⟩, .int .i64 ((qs.length + 1 : Nat) : Int), .int .i64 0]) (results_cell_row rfl _ _ (w.heap.size + 1) 29 _ (0, 0) _ rfl ((((K1.out.set 0 _).set 1 _).set 2 _).set 3 _) Try.underlying29 rfl (by kernel_rfl)) rfl ?_
  have hs3 : s ≠ w.heap.size + 1 := by omega
  have hq3 := HR3.out
  refine ⟨q', rfl, ?_, ?_, ?_, ?_⟩
  · exact (((HB2.out.1.far hs3 _).far hs3 _).far hs3 _).far hs3 _
  · exact (((HB2.out.2.1.far (p := ⟨w.heap.size + 1, 0, none⟩) hq3 _).far (p := ⟨w.heap.size + 1, 1, none⟩) hq3 _).far (p := ⟨w.heap.size + 1, 2, none⟩) hq3 _).far (p := ⟨w.heap.size + 1, 3, none⟩) hq3 _
  · have k2 := Kept.behind ((Q5.out.alloc (by omega) _).drew) HB2.out.2.2.1
    exact (((k2.far (by simp) _).far (by simp) _).far (by simp) _).far (by simp) _
  · rcases HB2.out.2.2.2 with h | ⟨b, h, hle⟩
    · exact .inl h
    · refine .inr ⟨b, h, ?_⟩
      have : w1.heap.size + 1 ≤ b := by simpa [World.drew] using hle
      omega

set_option maxRecDepth 100000 in
set_option maxHeartbeats 1000000 in
theorem do_pop (s : Nat) (m q : Value) (t n : Int) (key val : ByteArray) (lo : Nat) (x : ByteArray) (qs : List ByteArray) (w : World) (h : StIs w s m q t) (hq : QIs w lo q (x :: qs)) (hm : qs.length ≤ 1000000) (hr : rightB 7 key val n = true) :
    Calls Try.prog 12 #[.pointer (some ⟨s, 0, none⟩), .agg #[.int .i64 7, .string key, .string val, .int .i64 n]] w (PopPost w s m q t lo x qs) := by
  have HQ := Lib.hid hq; clear hq
  have hs := h.lt
  have H := Lib.hid h; clear h
  go_enter Try.func12, Try.ntmps12
  go_wp2_with (go_at_call 27; refine (right_any _ _ _ _ _).mono ?_; rw [hr]; rintro e w1 ⟨rfl, hb⟩; have hz1 := hb.size; simp only [World.size_alloc] at hz1)
  have hS := Lib.hid (((H.out.alloc (.cells #[.int .i64 7, .string key, .string val, .int .i64 n] 32)).alloc _).keep (hb.block s (by simp; omega)))
  have HB := Lib.hid hb; clear hb
  have hb0 : w.heap.size < w1.heap.size := by omega
  have hb1 : w.heap.size + 1 < w1.heap.size := by omega
  have k0 : Blk w1 w.heap.size #[.int .i64 7, .string key, .string val, .int .i64 n] 32 := ((Blk.new _ _ _).alloc _).keep (HB.out.block _ (by simp; omega))
  have k00 := k0.cell 0
  have k01 := k0.cell 1
  have k02 := k0.cell 2
  have k03 := k0.cell 3
  have K0 := Lib.hid k0; clear k0
  have q1 := HB.out.mono (B' := w.heap.size) (by simp; omega)
  have Q5 := Lib.hid ((((Below.refl w.heap.size w).alloc (Nat.le_refl _) _).alloc (by simp) _).trans q1)
  clear q1
  refine region_tail 6 (by kernel_rfl) (by kernel_rfl) ?_
  simp only [List.take_succ_cons, List.take_zero, List.drop_succ_cons, List.drop_zero]
  repeat still_step
  refine wpStill_nil ?_
  go_wp2_with fail
  have hQ1 : QIs w1 lo q (x :: qs) := ((HQ.out.alloc _).alloc _).keep (fun k hk hlt => HB.out.block k hlt)
  have hR1 : Blk w1 (w.heap.size + 1) #[.bool false, .string ⟨#[]⟩, .int .i64 0, .int .i64 0] 29 := (Blk.newAt (w.alloc _) _ _ (w.heap.size + 1) (by simp)).keep (HB.out.block _ (by simp))
  have NEQ := Lib.hid (hQ1.ne hR1 (by decide))
  have HQ1 := Lib.hid hQ1
  clear hQ1 hR1
  refine (pop_some s m q t lo x qs _ _ _ _ _ (hS.out.alloc _).drew (HQ1.out.alloc _).drew hm).mono ?_
  rintro e w2 ⟨q', rfl, hb2⟩
  have k1 : Blk w2 (w.heap.size + 1) #[.bool false, .string ⟨#[]⟩, .int .i64 0, .int .i64 0] 29 :=
    ((((Blk.newAt (w.alloc _) _ _ (w.heap.size + 1) (by simp)).keep (HB.out.block _ (by simp))).alloc _).drew).kept hb2.2.2.1 (by rintro (e | e); (omega); exact NEQ.out e)
  have k10 := k1.cell 0
  have k11 := k1.cell 1
  have k12 := k1.cell 2
  have k13 := k1.cell 3
  have f1 := k1.fr
  have HR3 := Lib.hid (hb2.2.1.ne k1 (by decide))
  have HB2 := Lib.hid hb2; clear hb2
  have K1 := Lib.hid k1; clear k1
  go_wp2
  refine bodyPost_ret (v := .agg #[.bool true, .string x, .int .i64 0, .int .i64 0]) (results_cell_row rfl _ _ (w.heap.size + 1) 29 _ (0, 0) _ rfl ((((K1.out.set 0 _).set 1 _).set 2 _).set 3 _) Try.underlying29 rfl (by kernel_rfl)) rfl ?_
  have hs3 : s ≠ w.heap.size + 1 := by omega
  have hq3 := HR3.out
  refine ⟨q', rfl, ?_, ?_, ?_, HB2.out.2.2.2⟩
  · exact (((HB2.out.1.far hs3 _).far hs3 _).far hs3 _).far hs3 _
  · exact (((HB2.out.2.1.far (p := ⟨w.heap.size + 1, 0, none⟩) hq3 _).far (p := ⟨w.heap.size + 1, 1, none⟩) hq3 _).far (p := ⟨w.heap.size + 1, 2, none⟩) hq3 _).far (p := ⟨w.heap.size + 1, 3, none⟩) hq3 _
  · have k2 := Kept.behind ((Q5.out.alloc (by omega) _).drew) HB2.out.2.2.1
    exact (((k2.far (by simp) _).far (by simp) _).far (by simp) _).far (by simp) _

set_option maxRecDepth 100000 in
theorem do_wrong (s : Nat) (k n : Int) (key val : ByteArray) (w : World) (hr : rightB k key val n = false) :
    Calls Try.prog 12 #[.pointer (some ⟨s, 0, none⟩), .agg #[.int .i64 k, .string key, .string val, .int .i64 n]] w fun e w' => e = .returned (.agg #[.bool false, .string ⟨#[]⟩, .int .i64 0, .int .i64 221]) ∧ Below w.heap.size w w' := by
  go_enter Try.func12, Try.ntmps12
  go_wp2_with (go_at_call 27; refine (right_any _ _ _ _ _).mono ?_; rw [hr]; rintro e w1 ⟨rfl, hb⟩; have hz1 := hb.size; have K1 := Lib.hid ((Blk.newAt (w.alloc _) #[.bool false, .string ⟨#[]⟩, .int .i64 0, .int .i64 0] 29 (w.heap.size + 1) (by simp)).keep (hb.block _ (by simp))); have k10 := K1.out.cell 0; have k11 := K1.out.cell 1; have k12 := K1.out.cell 2; have k13 := K1.out.cell 3; have f1 := K1.out.fr; have HB := Lib.hid hb; clear hb)
  refine bodyPost_ret (v := .agg #[.bool false, .string ⟨#[]⟩, .int .i64 0, .int .i64 221]) (results_cell_row rfl _ _ (w.heap.size + 1) 29 _ (0, 0) _ rfl ((((K1.out.set 0 _).set 1 _).set 2 _).set 3 _) Try.underlying29 rfl (by kernel_rfl)) rfl ?_
  refine ⟨rfl, ?_⟩
  have q3 := ((((Below.refl w.heap.size w).alloc (Nat.le_refl _) _).alloc (by simp) _).trans (HB.out.mono (B' := w.heap.size) (by simp; omega)))
  exact ((((q3.setCell (by simp) _).setCell (by simp) _).setCell (by simp) _).setCell (by simp) _)

end Go.Proofs.Ytnffkefhajodmaa
