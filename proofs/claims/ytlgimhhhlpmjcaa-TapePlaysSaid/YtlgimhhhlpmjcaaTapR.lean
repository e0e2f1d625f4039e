/- The tape: Chunk, its iterator. -/
import Derived.Test.YtlgimhhhlpmjcaaTapQ
import Derived.RangeFuncNested
import Derived.RangeFuncBound
import Derived.RangeFuncCalls
import Derived.RangeFuncLeaves
import Derived.Shelf.Abstract
import Derived.Shelf.RegionOpen
import Derived.OwnWalkIn
import Derived.TacticsInMore
import Derived.LoopNIn
import Derived.LoopIn
set_option linter.unusedVariables false
set_option linter.unusedSimpArgs false
namespace Go.Proofs.Ytlgimhhhlpmjcaa
open Go.RowKit Go.Maps Go.WideMaps Go.Shelf
attribute [local go_sem] Oper.semAt_some

theorem chunk_any (A : Option Addr) (n c : Nat) (w : World) :
    Calls Try.prog 84 #[.slice A n c, .int .i64 64] w fun e w' => e = .returned (.func (.func 94) #[] #[.pointer (some ⟨w.heap.size, 0, none⟩), .pointer (some ⟨w.heap.size + 1, 0, none⟩)]) ∧ w' = (w.alloc (.cells #[.slice A n c] 31)).alloc (.cells #[.int .i64 64] 3) := by
  go_enter Try.func84, Try.ntmps84
  go_wp2
  go_ret
  exact ⟨rfl, rfl⟩

/-- Which chunk. -/
abbrev Ck (N : Nat) := { k : Nat // 64 * k < N }
def chL (N k : Nat) : Nat := if N - 64 * k < 64 then N - 64 * k else 64
def chV (b off N : Nat) (x : Ck N) : Array Value := #[.slice (some ⟨b, off + 64 * x.1, none⟩) (chL N x.1) (chL N x.1)]
def CkKp (a1 a2 : Nat) (W W' : World) : Prop := W'.heap[a1]? = W.heap[a1]? ∧ W'.heap[a2]? = W.heap[a2]?

theorem chunk_stops (A : Option Addr) (b off N c a1 a2 : Nat) (w : World) (hA : 0 < N → A = some ⟨b, off, none⟩) (hN : N ≤ 1000000) (hc : N ≤ c) (hcm : c ≤ maxLen) (h1 : Blk w a1 #[.slice A N c] 31) (h2 : Blk w a2 #[.int .i64 64] 3) :
    SeqStopsK Fence.wide 5 Try.prog 94 #[.pointer (some ⟨a1, 0, none⟩), .pointer (some ⟨a2, 0, none⟩)] (chV b off N) (CkKp a1 a2) (fun xs => xs.map Subtype.val = List.range xs.length ∧ 64 * xs.length ≥ N) (fun _ => True) ((N + 63) / 64) w := by
  intro l J Jx W hW hJ hJx hY h0
  have k1 := Lib.hid (h1.below hW); have k2 := Lib.hid (h2.below hW)
  unfold maxLen at hcm
  refine callsIn_of_wp Try.func94 rfl trivial ?_ rfl
  simp only [Try.ntmps94, List.size_toArray, List.length_cons, List.length_nil, Nat.reduceAdd, Nat.reduceSub, Array.replicate_succ, Array.replicate_zero, List.push_toArray, List.append_toArray, List.nil_append, List.cons_append]
  gi_wp2
  gi_loopw [4] (fun i wr => ∃ pre : List (Ck N), i = .int .i64 (64 * (pre.length : Int)) ∧ pre.map Subtype.val = List.range pre.length ∧ J pre wr ∧ Hid (Blk wr a1 #[.slice A N c] 31) ∧ Hid (Blk wr a2 #[.int .i64 64] 3)) (fun i _ => (N - intOf i).toNat)
  case atStart => exact ⟨[], rfl, rfl, h0, k1, k2⟩
  case round =>
    obtain ⟨pre, rfl, hpre, hJp, q1, q2⟩ := hrel
    have c1 := q1.out.cell 0; have c2 := q2.out.cell 0
    simp at c1 c2
    by_cases hlt : 64 * pre.length < N
    · obtain rfl := hA (by omega)
      have hne : ¬ c = 64 * pre.length := by omega
      have htn : (64 * (pre.length : Int)).toNat = 64 * pre.length := by omega
      have hlt' : 64 * (pre.length : Int) < N := by omega
      have hmin : min (64 : Int) ((N - 64 * pre.length : Nat) : Int) = ((chL N pre.length : Nat) : Int) := by unfold chL; split <;> omega
      have hm1 : 64 * pre.length + chL N pre.length ≤ N := by unfold chL; split <;> omega
      have hm2 : 0 < chL N pre.length := by unfold chL; split <;> omega
      have hm3 : chL N pre.length = 64 ∨ N ≤ 64 * pre.length + chL N pre.length := by unfold chL; split <;> omega
      have HMIN := Lib.hid hmin; have HM3 := Lib.hid hm3; clear hmin hm3
      gi_wp2
      refine wpIn_wide.2 ?_
      go_quiet (fail)
      rename_i nq
      have hJd : J pre (wr.drewN nq) := hJ _ _ _ none hJp ⟨rfl, rfl, rfl, Nat.le_refl _, fun _ _ _ => rfl⟩ (fun r e => by cases e)
      obtain ⟨fn, tmps, assign, body, hy, hR⟩ := hY pre ⟨pre.length, hlt⟩ (wr.drewN nq) hJd (by omega)
      dsimp only [chV] at hy
      rw [HMIN.out]
      obtain ⟨m, hm⟩ : ∃ m, chL N pre.length = m := ⟨_, rfl⟩
      rw [hm] at hy hm1 hm2 ⊢
      have HM := Lib.hid hm; clear hm
      have ht2 : 64 * pre.length + m - 64 * pre.length = m := by omega
      have HY := Lib.hid hy; have HT2 := Lib.hid ht2; clear hy ht2
      have hm64 : m ≤ 64 := by rw [← HM.out]; unfold chL; split <;> omega
      gi_wp2
      rw [HT2.out, HY.out]
      gi_wp2
      refine hR.mono ?_
      rintro e W3 (⟨rfl, hJ3, hk3⟩ | ⟨rfl, hJx3⟩)
      · have q13 := Lib.hid (q1.out.keep (w' := W3) hk3.1); have q23 := Lib.hid (q2.out.keep (w' := W3) hk3.2)
        have c13 := q13.out.cell 0; have c23 := q23.out.cell 0
        simp at c13 c23
        clear hk3
        gi_wp2
        go_roundw
        case rel => exact ⟨pre ++ [⟨pre.length, hlt⟩], by simp; omega, by simp [hpre, List.range_succ], hJ3, q13, q23⟩
        case measure => simp [intOf]; omega
      · gi_wp2
        refine bodyPost_ret (results_none rfl _ _ _) rfl ?_
        exact ⟨⟨_, rfl⟩, .inr ⟨_, trivial, hJx3⟩⟩
    · gi_wp2
      go_end0
      refine ⟨⟨_, rfl⟩, .inl ⟨pre, ⟨hpre, by omega⟩, hJp⟩⟩
end Go.Proofs.Ytlgimhhhlpmjcaa
