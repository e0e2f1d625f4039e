/- The tape: its block, its sectors, content. -/
import Derived.Test.YtlgimhhhlpmjcaaTapD
import Derived.Test.YtlgimhhhlpmjcaaDskH
set_option linter.unusedVariables false
set_option linter.unusedSimpArgs false
namespace Go.Proofs.Ytlgimhhhlpmjcaa
open Go.RowKit Go.Maps Go.WideMaps Go.Shelf

def secs (n : Nat) : Nat := (n - 1) / 2
def allB (n : Nat) : Nat := secs n * 64
/-- A half's bytes. -/
def halfTo (n : Nat) (sf : List Sec) (df : Int → Option Sec) (h k : Nat) : Bs := (List.range k).flatMap fun i => curS sf df (1 + h * secs n + i)
def halfB (n : Nat) (sf : List Sec) (df : Int → Option Sec) (h : Nat) : Bs := halfTo n sf df h (secs n)
theorem halfTo_succ (n : Nat) (sf : List Sec) (df : Int → Option Sec) (h k : Nat) : halfTo n sf df h (k + 1) = halfTo n sf df h k ++ curS sf df (1 + h * secs n + k) := by
  simp [halfTo, List.range_succ]

/-- A tape's block, and its disk's. -/
def TC (d : Nat) (h : Nat) (cv : Value) (u : Nat) (wv : Value) (fr : Bool) (dn : Nat) : Array Value :=
  #[.pointer (some ⟨d, 0, none⟩), .int .i64 h, cv, .int .i64 u, wv, .bool fr, .int .i64 dn]
structure TapeD (w : World) (t d sb mb n : Nat) (sf : List Sec) (df : Int → Option Sec) : Prop where
  blk : ∃ cs, Blk w t cs 89 ∧ cs[0]? = some (.pointer (some ⟨d, 0, none⟩))
  disk : DiskIs w d sb mb n sf df
theorem TapeD.below {w w' : World} {t d sb mb n : Nat} {sf : List Sec} {df : Int → Option Sec} (h : TapeD w t d sb mb n sf df) (hb : Below w.heap.size w w') : TapeD w' t d sb mb n sf df := by
  obtain ⟨⟨cs, h1, h2⟩, h3⟩ := h
  exact ⟨⟨cs, h1.below hb, h2⟩, h3.below hb⟩
theorem TapeD.c0 {w : World} {t d sb mb n : Nat} {sf : List Sec} {df : Int → Option Sec} (h : TapeD w t d sb mb n sf df) : w.cell? ⟨t, 0, none⟩ = some (.pointer (some ⟨d, 0, none⟩)) := by
  obtain ⟨⟨cs, h1, h2⟩, h3⟩ := h
  rw [h1.cell, h2]

theorem sectors_any (t d sb mb n : Nat) (sf : List Sec) (df : Int → Option Sec) (w : World) (h : TapeD w t d sb mb n sf df) (h1 : 1 ≤ n) :
    Calls Try.prog 79 #[.pointer (some ⟨t, 0, none⟩)] w fun e w' => e = .returned (.int .i64 (secs n : Nat)) ∧ w' = w := by
  have c0 := h.c0
  have hn := h.disk.small
  have H := Lib.hid h.disk; clear h
  go_enter Try.func79, Try.ntmps79
  go_wp2_with (go_at_call 42; refine (len_any d sb mb n sf df _ H.out).mono ?_; rintro e w1 ⟨rfl, rfl⟩)
  go_ret
  refine ⟨ret_int ?_, rfl⟩
  unfold secs
  omega
theorem secs_le (n : Nat) (hn : n ≤ 1024) : secs n ≤ 511 := by unfold secs; omega
theorem all_any (t d sb mb n : Nat) (sf : List Sec) (df : Int → Option Sec) (w : World) (h : TapeD w t d sb mb n sf df) (h1 : 1 ≤ n) :
    Calls Try.prog 50 #[.pointer (some ⟨t, 0, none⟩)] w fun e w' => e = .returned (.int .i64 (allB n : Nat)) ∧ w' = w := by
  have hs := secs_le n h.disk.small
  have H := Lib.hid h; clear h
  go_enter Try.func50, Try.ntmps50
  go_wp2_with (go_at_call 79; refine (sectors_any t d sb mb n sf df _ H.out h1).mono ?_; rintro e w1 ⟨rfl, rfl⟩)
  go_ret
  exact ⟨ret_int (by unfold allB; omega), rfl⟩
theorem sector_any (t d sb mb n : Nat) (sf : List Sec) (df : Int → Option Sec) (h i : Nat) (w : World) (H : TapeD w t d sb mb n sf df) (h1 : 1 ≤ n) (hh : h ≤ 1) (hi : i ≤ 100000) :
    Calls Try.prog 80 #[.pointer (some ⟨t, 0, none⟩), .int .i64 h, .int .i64 i] w fun e w' => e = .returned (.int .i64 (1 + h * secs n + i : Nat)) ∧ w' = w := by
  have hs := secs_le n H.disk.small
  have H := Lib.hid H
  obtain ⟨m, hm⟩ : ∃ m : Nat, m = h * secs n := ⟨_, rfl⟩
  have hm' : (h : Int) * (secs n : Nat) = (m : Nat) := by rw [hm]; simp
  have hm2 : m ≤ 511 := by
    rw [hm]
    have : h = 0 ∨ h = 1 := by omega
    rcases this with rfl | rfl <;> omega
  have hw : wrap64 ((h : Int) * (secs n : Nat)) = (m : Nat) := by rw [hm']; unfold wrap64; omega
  rw [← hm]
  have HM := Lib.hid hm; clear hm hm'
  go_enter Try.func80, Try.ntmps80
  go_wp2_with (go_at_call 79; refine (sectors_any t d sb mb n sf df _ H.out h1).mono ?_; rintro e w1 ⟨rfl, rfl⟩)
  go_ret
  exact ⟨ret_int (by omega), rfl⟩
end Go.Proofs.Ytlgimhhhlpmjcaa
