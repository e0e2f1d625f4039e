/- The tape: super, frame, frames, size, Clone. -/
import Derived.Test.YtlgimhhhlpmjcaaTapB
set_option linter.unusedVariables false
set_option linter.unusedSimpArgs false
namespace Go.Proofs.Ytlgimhhhlpmjcaa
open Go.RowKit Go.Maps Go.WideMaps Go.Shelf

theorem bthen {a b c : World} (h : Below a.heap.size a b) (k : Below b.heap.size b c) : Below a.heap.size a c := h.trans (k.mono h.size)
theorem balloc {a b : World} (h : Below a.heap.size a b) (o : Obj) : Below a.heap.size a (b.alloc o) := h.alloc h.size o
theorem bdrew {a b : World} (h : Below a.heap.size a b) : Below a.heap.size a b.drew := ⟨h.os, h.tape, h.output, h.size, h.block⟩

def superB (h r u : Int) : Sec := fillS (h % 256 :: (long4 r ++ long4 u))
theorem long4_len (n : Int) : (long4 n).length = 4 := rfl

theorem RdBB.three (W : World) {A0 A1 A2 : Option Addr} {n0 n1 n2 c0 c1 c2 : Nat} {x0 x1 x2 : Bs} (h0 : RdU8 W A0 n0 x0) (h1 : RdU8 W A1 n1 x1) (h2 : RdU8 W A2 n2 x2) :
    RdBB (W.alloc (.cells #[.slice A0 n0 c0, .slice A1 n1 c1, .slice A2 n2 c2] 31)) (some ⟨W.heap.size, 0, none⟩) 3 [x0, x1, x2] := by
  have bb : Below W.heap.size W (W.alloc (.cells #[.slice A0 n0 c0, .slice A1 n1 c1, .slice A2 n2 c2] 31)) := (Below.refl _ _).alloc (Nat.le_refl _) _
  have K := Blk.new W #[.slice A0 n0 c0, .slice A1 n1 c1, .slice A2 n2 c2] 31
  refine ⟨rfl, fun _ => ⟨_, 0, rfl, K.lt, fun i hi => ?_⟩⟩
  match i, hi with
  | 0, _ => exact ⟨A0, c0, by rw [K.cell]; simp [h0.len], by simpa [h0.len] using h0.below bb⟩
  | 1, _ => exact ⟨A1, c1, by rw [K.cell]; simp [h1.len], by simpa [h1.len] using h1.below bb⟩
  | 2, _ => exact ⟨A2, c2, by rw [K.cell]; simp [h2.len], by simpa [h2.len] using h2.below bb⟩
theorem RdU8.lit (W : World) (x : Bs) (g n : Nat) (hg : g = W.heap.size) (hn : x.length = n) : RdU8 (W.alloc (.cells (sc x).toArray 5)) (some ⟨g, 0, none⟩) n x := by
  subst hg
  have K := Blk.new W (sc x).toArray 5
  exact ⟨hn, fun _ => ⟨_, 0, rfl, K.lt, fun i hi => by rw [K.cell]; simp [sc, hi]⟩⟩

set_option maxRecDepth 100000 in
set_option maxHeartbeats 1000000 in
theorem super_any (h r u : Int) (w : World) (r0 : 0 ≤ r) (r1 : r < 9223372036854775808) (u0 : 0 ≤ u) (u1 : u < 9223372036854775808) :
    Calls Try.prog 49 #[.int .i64 h, .int .i64 r, .int .i64 u] w fun e w' => e = .returned (.agg (sc (superB h r u)).toArray) ∧ Below w.heap.size w w' := by
  have hq0 : superB h r u = fillS ([[h % 256], long4 r, long4 u].flatten) := by simp [superB]
  rw [hq0]
  obtain ⟨q, HQ, hq⟩ : ∃ q : Sec, Hid (fillS ([[h % 256], long4 r, long4 u].flatten) = q) ∧ q.length = 64 := ⟨_, Lib.hid rfl, fillS_len _⟩
  rw [HQ.out]
  clear hq0
  have Hq := Lib.hid hq; clear hq
  obtain ⟨z, HZ, hz⟩ := zsec_named
  have Hz := Lib.hid hz; clear hz
  have K := Lib.hid (Blk.new w (sc z).toArray 55)
  have B := Lib.hid ((Below.refl w.heap.size w).alloc (Nat.le_refl _) (.cells (sc z).toArray 55))
  have hsz : (w.alloc (.cells (sc z).toArray 55)).heap.size = w.heap.size + 1 := by simp
  have HSZ := Lib.hid hsz; clear hsz
  go_enter Try.func49, Try.ntmps49
  go_wp2_with (first
    | ((with_reducible refine sec_alloc secT1 HZ rfl rfl ?_); generalize hw0 : w.alloc (.cells (sc z).toArray 55) = w0 at *; have HW0 := Lib.hid hw0; clear hw0)
    | (go_at_call 78; with_reducible refine (long_any r _ r0 r1).mono ?_; rintro e w1 ⟨v1, rfl, O1, B1⟩; obtain ⟨a1, c1, rfl⟩ := O1.form; rw [long4_len]; have HO1 := Lib.hid O1; have HB1 := Lib.hid B1; clear O1 B1)
    | (go_at_call 78; with_reducible refine (long_any u _ u0 u1).mono ?_; rintro e w2 ⟨v2, rfl, O2, B2⟩; obtain ⟨a2, c2, rfl⟩ := O2.form; rw [long4_len]; have HO2 := Lib.hid O2; have HB2 := Lib.hid B2; clear O2 B2)
    | (go_at_call 77; refine (concat_any _ 3 3 [[h % 256], long4 r, long4 u] _ (RdBB.three w2 (((RdU8.lit w0 [h % 256] w0.heap.size 1 rfl rfl).below HB1.out).below HB2.out) (HO1.out.rd.below HB2.out) HO2.out.rd) ?_ (by omega) ?_).mono ?_; (simp [long4]); (simp [sizeB, long4]); rintro e w3 ⟨v3, rfl, O3, B3⟩; obtain ⟨a3, c3, rfl⟩ := O3.form; have HO3 := Lib.hid O3; have HB3 := Lib.hid B3; clear O3 B3)
    | (go_at_call 31; refine (fill_any _ _ _ _ _ HO3.out.rd).mono ?_; rintro e w4 ⟨e4, B4⟩; rw [HQ.out] at e4; subst e4; have K4 := Lib.hid ((((((K.out.alloc _).below HB1.out).below HB2.out).alloc _).below HB3.out).below B4); have B5 := Lib.hid (bthen (bthen (balloc (bthen (bthen (balloc B.out _) HB1.out) HB2.out) _) HB3.out) B4); clear B4)
    | ((with_reducible refine is_store 55 (x := .tmp 6) rfl ?_); refine sec_store secT1 rfl _ _ rfl w.heap.size 0 q Hq.out rfl rfl (K4.out.secThere Hz.out) ?_))
  refine bodyPost_ret (results_cell_row rfl _ _ w.heap.size 55 _ (0, 0) _ rfl (K4.out.secStore (Hz.out.trans Hq.out.symm)) Try.underlying55 rfl (secInfoSize Hq.out)) rfl ?_
  exact ⟨rfl, below_cells B5.out (Nat.le_refl _) _ _⟩
end Go.Proofs.Ytlgimhhhlpmjcaa
