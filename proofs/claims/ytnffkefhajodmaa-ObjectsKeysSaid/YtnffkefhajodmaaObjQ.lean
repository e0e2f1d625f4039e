/- objects: push, pop. -/
import Derived.Test.YtnffkefhajodmaaQueue
import Derived.Test.YtnffkefhajodmaaKitB
set_option linter.unusedVariables false
set_option linter.unusedSimpArgs false
namespace Go.Proofs.Ytnffkefhajodmaa
open Go.RowKit

theorem StIs.blk {w : World} {s : Nat} {m q : Value} {t : Int} (h : StIs w s m q t) : Blk w s #[m, .int .i64 t, q] 74 := h
theorem StIs.set2 {w : World} {s : Nat} {m q : Value} {t : Int} (h : StIs w s m q t) (q' : Value) : StIs (w.setCell ⟨s, 2, none⟩ q') s m q' t := h.blk.set 2 q'

/-- What push and pop may turn. -/
def QS (s : Nat) (q : Value) : Nat → Prop := fun k => k = s ∨ some k = q.ownBlock

set_option maxRecDepth 100000 in
set_option maxHeartbeats 1000000 in
theorem push_full (s : Nat) (m q : Value) (t : Int) (lo : Nat) (qs : List ByteArray) (u0 u1 u3 : Value) (val : ByteArray) (w : World) (h : StIs w s m q t) (hq : QIs w lo q qs) (hl : ¬ qs.length < 30) (hm : qs.length ≤ 1000000) :
    Calls Try.prog 37 #[.pointer (some ⟨s, 0, none⟩), .agg #[u0, u1, .string val, u3]] w fun e w' => e = .returned (.agg #[.bool false, .string ⟨#[]⟩, .int .i64 0, .int .i64 152]) ∧ Below w.heap.size w w' := by
  obtain ⟨a, c, rfl⟩ := hq.form
  have c2 := h.c2
  have hs := h.lt
  have hl' : (30 : Int) ≤ (qs.length : Int) := by omega
  have H := Lib.hid h; clear h
  have HQ := Lib.hid hq; clear hq
  go_enter Try.func37, Try.ntmps37
  go_wp2
  go_returns
  exact ⟨rfl, by go_grown⟩

set_option maxRecDepth 100000 in
set_option maxHeartbeats 1000000 in
theorem push_ok (s : Nat) (m q : Value) (t : Int) (lo : Nat) (qs : List ByteArray) (u0 u1 u3 : Value) (val : ByteArray) (w : World) (h : StIs w s m q t) (hq : QIs w lo q qs) (hl : qs.length < 30) (hlo : lo ≤ w.heap.size) :
    Calls Try.prog 37 #[.pointer (some ⟨s, 0, none⟩), .agg #[u0, u1, .string val, u3]] w fun e w' => ∃ q', e = .returned (.agg #[.bool false, .string ⟨#[]⟩, .int .i64 ((qs.length + 1 : Nat) : Int), .int .i64 0]) ∧
      StIs w' s m q' t ∧ QIs w' lo q' (qs ++ [val]) ∧ Kept w w' (QS s q) ∧ (q'.ownBlock = q.ownBlock ∨ ∃ b, q'.ownBlock = some b ∧ w.heap.size ≤ b) := by
  obtain ⟨a, c, rfl⟩ := hq.form
  have c2 := h.c2
  have hs := h.lt
  have hl' : ¬ (30 : Int) ≤ (qs.length : Int) := by omega
  have hne := hq.ne h.blk (by decide)
  have H := Lib.hid h; clear h
  have HQ := Lib.hid hq; clear hq
  go_enter Try.func37, Try.ntmps37
  go_wp2
  have kb : Blk ((w.alloc (.cells #[u0, u1, .string val, u3] 32)).alloc (.cells #[.bool false, .string ⟨#[]⟩, .int .i64 0, .int .i64 0] 29)) w.heap.size #[u0, u1, .string val, u3] 32 := (Blk.new _ _ _).alloc _
  have kr : Blk ((w.alloc (.cells #[u0, u1, .string val, u3] 32)).alloc (.cells #[.bool false, .string ⟨#[]⟩, .int .i64 0, .int .i64 0] 29)) (w.heap.size + 1) #[.bool false, .string ⟨#[]⟩, .int .i64 0, .int .i64 0] 29 := Blk.newAt _ _ _ _ (by simp)
  have s0 : StIs ((w.alloc (.cells #[u0, u1, .string val, u3] 32)).alloc (.cells #[.bool false, .string ⟨#[]⟩, .int .i64 0, .int .i64 0] 29)) s m (.slice a qs.length c) t := (H.out.alloc _).alloc _
  have q0 : QIs ((w.alloc (.cells #[u0, u1, .string val, u3] 32)).alloc (.cells #[.bool false, .string ⟨#[]⟩, .int .i64 0, .int .i64 0] 29)) lo (.slice a qs.length c) qs := (HQ.out.alloc _).alloc _
  have b0 : Below w.heap.size w ((w.alloc (.cells #[u0, u1, .string val, u3] 32)).alloc (.cells #[.bool false, .string ⟨#[]⟩, .int .i64 0, .int .i64 0] 29)) := ((Below.refl _ _).alloc (Nat.le_refl _) _).alloc (by simp) _
  have hz : ((w.alloc (.cells #[u0, u1, .string val, u3] 32)).alloc (.cells #[.bool false, .string ⟨#[]⟩, .int .i64 0, .int .i64 0] 29)).heap.size = w.heap.size + 2 := by simp
  generalize (w.alloc (.cells #[u0, u1, .string val, u3] 32)).alloc (.cells #[.bool false, .string ⟨#[]⟩, .int .i64 0, .int .i64 0] 29) = w1 at *
  have KB := Lib.hid kb; have KR := Lib.hid kr; have S0 := Lib.hid s0; have Q0 := Lib.hid q0; have B0 := Lib.hid b0
  have HZ := Lib.hid hz
  clear kb kr s0 q0 b0 hz c2
  have x2 := S0.out.c2
  have y2 := KB.out.cell 2
  simp at y2
  have hs1 : s < w1.heap.size := S0.out.lt
  have hb1 : w.heap.size < w1.heap.size := KB.out.lt
  go_region_law (first
      | (refine step_app_q rfl _ _ rfl lo _ qs ((Q0.out.alloc _).drew) rfl w1.heap.size val rfl ?_ ?_ ?_ ?_; (exact ((Blk.new w1 #[.string val] 9).drew.cell 0)); (omega); (have := HZ.out; show lo ≤ (w1.alloc _).heap.size; simp; omega); intro g' off' cap' w2 hQ2 hG2 hat
         have hz2 : w1.heap.size + 1 ≤ w2.heap.size := by have := hG2.size; simpa using this
         have S2 := Lib.hid (((S0.out.alloc (.cells #[.string val] 9)).drew).keep (hG2.block s (by have := S0.out.lt; show s < (w1.alloc _).heap.size; simp; omega) hne))
         have K2 := Lib.hid (((KB.out.alloc (.cells #[.string val] 9)).drew).grown hG2 (Q0.out.ne KB.out (by decide)))
         have R2 := Lib.hid (((KR.out.alloc (.cells #[.string val] 9)).drew).grown hG2 (Q0.out.ne KR.out (by decide)))
         have x3 := S2.out.c2
         have fz := S2.out.fr 2
         have HQ2 := Lib.hid hQ2; have HG2 := Lib.hid hG2; have HAT := Lib.hid hat; clear hQ2 hG2 hat))
  all_goals
    have st := Lib.hid (S2.out.set2 (.slice (some ⟨g', off', none⟩) (qs.length + 1) cap'))
    have K3 := Lib.hid (K2.out.setOther (by omega : w.heap.size ≠ s) 2 (.slice (some ⟨g', off', none⟩) (qs.length + 1) cap'))
    have y0 := K3.out.cell 0; have y1 := K3.out.cell 1; have y3 := K3.out.cell 3; have y4 := K3.out.cell 2
    simp only [List.size_toArray, List.length_cons, List.length_nil, List.getElem?_toArray, List.getElem?_cons_zero, List.getElem?_cons_succ] at y0 y1 y3 y4
    go_wp2_with fail
    refine (size_any s m (some ⟨g', off', none⟩) (qs.length + 1) cap' t _ _ _ _ _ st.out).mono ?_
    rintro e w3 ⟨rfl, hb3⟩
    have R3 := Lib.hid ((R2.out.setOther (by omega : w.heap.size + 1 ≠ s) 2 (.slice (some ⟨g', off', none⟩) (qs.length + 1) cap')).below hb3)
    have r0 := R3.out.cell 0; have r1 := R3.out.cell 1; have r2 := R3.out.cell 2; have r3 := R3.out.cell 3
    have rf := R3.out.fr
    have HB3 := Lib.hid hb3; clear hb3
    simp at r0 r1 r2 r3
    go_wp2
    refine bodyPost_ret (v := .agg #[.bool false, .string ⟨#[]⟩, .int .i64 ((qs.length + 1 : Nat) : Int), .int .i64 0]) (results_cell_row rfl _ _ (w.heap.size + 1) 29 _ (0, 0) _ rfl ((((R3.out.set 0 _).set 1 _).set 2 _).set 3 _) Try.underlying29 rfl (by kernel_rfl)) rfl ?_
    have hs3 : s ≠ w.heap.size + 1 := by omega
    have hz3 := HB3.out.size
    refine ⟨.slice (some ⟨g', off', none⟩) (qs.length + 1) cap', rfl, ?_, ?_, ?_, ?_⟩
    · exact ((((st.out.below HB3.out).far hs3 _).far hs3 _).far hs3 _).far hs3 _
    · have hq3 := (HQ2.out.far (p := ⟨s, 2, none⟩) (HQ2.out.ne S2.out.blk (by decide)) (.slice (some ⟨g', off', none⟩) (qs.length + 1) cap')).below HB3.out
      have hr3 := HQ2.out.ne R2.out (by decide)
      exact (((hq3.far (p := ⟨w.heap.size + 1, 0, none⟩) hr3 _).far (p := ⟨w.heap.size + 1, 1, none⟩) hr3 _).far (p := ⟨w.heap.size + 1, 2, none⟩) hr3 _).far (p := ⟨w.heap.size + 1, 3, none⟩) hr3 _
    · have k1 : Kept w1 w2 (QS s (.slice a qs.length c)) := Kept.behind (((Below.refl _ _).alloc (Nat.le_refl _) (.cells #[.string val] 9)).drew) (Kept.of_grown HG2.out fun k e => .inr e.symm)
      have k2 := Kept.behind B0.out ((k1.set (p := ⟨s, 2, none⟩) (.inl rfl) (.slice (some ⟨g', off', none⟩) (qs.length + 1) cap')).then HB3.out)
      exact (((k2.far (by simp) _).far (by simp) _).far (by simp) _).far (by simp) _
    · rcases HAT.out with h | h
      · exact .inl h.symm
      · refine .inr ⟨g', rfl, ?_⟩
        have h : w1.heap.size + 1 ≤ g' := by simpa using h
        omega

set_option maxRecDepth 100000 in
set_option maxHeartbeats 1000000 in
theorem pop_none (s : Nat) (m q : Value) (t : Int) (lo : Nat) (u0 u1 u2 u3 : Value) (w : World) (h : StIs w s m q t) (hq : QIs w lo q []) :
    Calls Try.prog 38 #[.pointer (some ⟨s, 0, none⟩), .agg #[u0, u1, u2, u3]] w fun e w' => e = .returned (.agg #[.bool false, .string ⟨#[]⟩, .int .i64 0, .int .i64 0]) ∧ Below w.heap.size w w' := by
  obtain ⟨a, c, rfl⟩ := hq.form
  have c2 := h.c2
  have hs := h.lt
  have H := Lib.hid h; clear h
  have HQ := Lib.hid hq; clear hq
  simp only [List.length_nil] at c2
  go_enter Try.func38, Try.ntmps38
  go_wp2
  go_returns
  exact ⟨rfl, by go_grown⟩

/-- What pop leaves. -/
def PopPost (w : World) (s : Nat) (m q : Value) (t : Int) (lo : Nat) (x : ByteArray) (qs : List ByteArray) (e : Ending) (w' : World) : Prop :=
  ∃ q', e = .returned (.agg #[.bool true, .string x, .int .i64 0, .int .i64 0]) ∧ StIs w' s m q' t ∧ QIs w' lo q' qs ∧ Kept w w' (QS s q) ∧ q'.ownBlock = q.ownBlock

theorem pop_fin {w : World} {s : Nat} {m q : Value} {t : Int} {lo : Nat} {x : ByteArray} {qs : List ByteArray} {g : Nat} {cur : Array Value} (H : StIs w s m q t) (HC : w.heap[g]? = some (.cells cur 9 (0, 0))) (q1 : lo ≤ g) (hqb : q.ownBlock = some g) (hgs : g ≠ s)
    (off cap : Nat) (hcap : qs.length ≤ cap) (hm : cap ≤ maxLen) (hsz : off + cap ≤ cur.size) (hcell : ∀ i (h : i < qs.length), cur[off + i]? = some (.string qs[i])) (A B : Obj) :
    PopPost w s m q t lo x qs (.returned (.agg #[.bool true, .string x, .int .i64 0, .int .i64 0])) (((w.setCell ⟨s, 2, none⟩ (.slice (some ⟨g, off, none⟩) qs.length cap)).alloc A).alloc B) := by
  refine ⟨.slice (some ⟨g, off, none⟩) qs.length cap, rfl, ((H.set2 _).alloc _).alloc _, QIs.alloc (QIs.alloc (.inr ⟨g, off, cap, cur, rfl, q1, ?_, hcap, hm, hsz, hcell⟩) _) _, ?_, ?_⟩
  · rw [Below.heap_setCell _ _ _ _ (by simpa using hgs)]; exact HC
  · exact (((Kept.of_below (Below.refl _ _) _).set (p := ⟨s, 2, none⟩) (.inl rfl) _).alloc _).alloc _
  · rw [hqb]; rfl

set_option maxRecDepth 100000 in
set_option maxHeartbeats 1000000 in
theorem pop_some (s : Nat) (m q : Value) (t : Int) (lo : Nat) (x : ByteArray) (qs : List ByteArray) (u0 u1 u2 u3 : Value) (w : World) (h : StIs w s m q t) (hq : QIs w lo q (x :: qs)) (hm : qs.length ≤ 1000000) :
    Calls Try.prog 38 #[.pointer (some ⟨s, 0, none⟩), .agg #[u0, u1, u2, u3]] w (PopPost w s m q t lo x qs) := by
  have c2 := h.c2
  have f2 := h.fr 2
  have hs := h.lt
  have hs1 : ¬ w.heap.size = s := by omega
  have hs2 : ¬ w.heap.size + 1 = s := by omega
  have hne := hq.ne h.blk (by decide)
  rcases hq with ⟨_, h0⟩ | ⟨g, off, cap, cur, rfl, q1, q2, q3, q4, q5, q6⟩
  · cases h0
  have hc0 : w.cell? ⟨g, off, none⟩ = some (.string x) := by
    rw [cell_of_row w g off cur 9 (0, 0) q2]; exact q6 0 (by simp)
  have hg := (Array.getElem?_eq_some_iff.1 q2).1
  have hgs : g ≠ s := fun e => hne (by rw [e]; rfl)
  have H := Lib.hid h; clear h
  have HQ := Lib.hid q6; clear q6
  have HC := Lib.hid q2; clear q2
  have hl0 : (((x :: qs).length : Int) == 0) = false := by simp; omega
  have hl1 : (0 : Int) < ((x :: qs).length : Int) := by simp
  simp only [List.length_cons] at c2 hl0 hl1 q3
  unfold maxLen at q4
  have hcell : ∀ i (h : i < qs.length), cur[off + 1 + i]? = some (.string qs[i]) := fun i h => by
    have := HQ.out (i + 1) (by simpa using h)
    rw [show off + (i + 1) = off + 1 + i by omega] at this
    simpa using this
  have HCC := Lib.hid hcell; clear hcell
  by_cases hcap : cap = qs.length + 1
  · subst hcap
    cases qs with
    | nil =>
      go_enter Try.func38, Try.ntmps38
      go_wp2
      go_returns
      exact pop_fin H.out HC.out q1 rfl hgs off 0 (by simp) (by unfold maxLen; omega) (by omega) (fun i h => by simp at h) _ _
    | cons y qs =>
      go_enter Try.func38, Try.ntmps38
      go_wp2
      go_returns
      exact pop_fin H.out HC.out q1 rfl hgs (off + 1) _ (Nat.le_refl _) (by unfold maxLen; omega) (by omega) HCC.out _ _
  · have hcap' : qs.length + 1 < cap := by omega
    have h1c : (1 : Int) < cap := by omega
    go_enter Try.func38, Try.ntmps38
    go_wp2
    go_returns
    exact pop_fin H.out HC.out q1 rfl hgs (off + 1) _ (by omega) (by unfold maxLen; omega) (by omega) HCC.out _ _

end Go.Proofs.Ytnffkefhajodmaa
