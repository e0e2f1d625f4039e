/- The disk: Read. -/
import Derived.Test.YtlgimhhhlpmjcaaDskB
set_option linter.unusedVariables false
set_option linter.unusedSimpArgs false
namespace Go.Proofs.Ytlgimhhhlpmjcaa
open Go.RowKit Go.Maps Go.WideMaps Go.Shelf

set_option maxRecDepth 100000 in
theorem read_nil (i : Int) (w : World) :
    Calls Try.prog 39 #[.pointer none, .int .i64 i] w (ReadPost w zsec 1) := by
  obtain ⟨z, HZ, hz⟩ := zsec_named
  rw [← HZ.out]
  have Hz := Lib.hid hz; clear hz
  have K := Lib.hid (Blk.new w (sc z).toArray 55)
  have B := Lib.hid ((Below.refl w.heap.size w).alloc (Nat.le_refl _) (.cells (sc z).toArray 55))
  go_enter Try.func39, Try.ntmps39
  go_wp2_with (first
    | ((with_reducible refine sec_alloc secT1 HZ rfl rfl ?_); try simp only [World.size_alloc])
    | (with_reducible refine sec_zero secT1 HZ rfl rfl ?_)
    | ((with_reducible refine is_store 55 rfl ?_); refine sec_store secT1 rfl _ _ rfl w.heap.size 0 z Hz.out rfl rfl (K.out.secThere Hz.out) ?_)
    | (go_at_call 62; refine (at_nil _ _).mono ?_; rintro e w1 ⟨rfl, rfl⟩))
  refine bodyPost_ret (results_cell_tmp_row rfl _ _ w.heap.size 55 _ (0, 0) _ rfl (K.out.secStore rfl) Try.underlying55 rfl (secInfoSize Hz.out)) rfl ?_
  exact ⟨rfl, below_cells B.out (Nat.le_refl _) _ _⟩
set_option maxRecDepth 100000 in
theorem read_out (d sb mb n : Nat) (sf : List Sec) (df : Int → Option Sec) (i : Int) (w : World) (h : DiskIs w d sb mb n sf df) (h0 : i < 0 ∨ (n : Int) ≤ i) :
    Calls Try.prog 39 #[.pointer (some ⟨d, 0, none⟩), .int .i64 i] w (ReadPost w zsec 41) := by
  obtain ⟨z, HZ, hz⟩ := zsec_named
  rw [← HZ.out]
  have Hz := Lib.hid hz; clear hz
  have K := Lib.hid (Blk.new w (sc z).toArray 55)
  have B := Lib.hid ((Below.refl w.heap.size w).alloc (Nat.le_refl _) (.cells (sc z).toArray 55))
  have HAT := Lib.hid (at_out d sb mb n sf df i _ (h.alloc (.cells (sc z).toArray 55)) h0)
  clear h
  go_enter Try.func39, Try.ntmps39
  go_wp2_with (first
    | ((with_reducible refine sec_alloc secT1 HZ rfl rfl ?_); try simp only [World.size_alloc])
    | (with_reducible refine sec_zero secT1 HZ rfl rfl ?_)
    | ((with_reducible refine is_store 55 rfl ?_); refine sec_store secT1 rfl _ _ rfl w.heap.size 0 z Hz.out rfl rfl (K.out.secThere Hz.out) ?_)
    | (go_at_call 62; refine HAT.out.mono ?_; rintro e w1 ⟨rfl, rfl⟩))
  refine bodyPost_ret (results_cell_tmp_row rfl _ _ w.heap.size 55 _ (0, 0) _ rfl (K.out.secStore rfl) Try.underlying55 rfl (secInfoSize Hz.out)) rfl ?_
  exact ⟨rfl, below_cells B.out (Nat.le_refl _) _ _⟩

set_option maxRecDepth 100000 in
theorem read_safe (d sb mb n : Nat) (sf : List Sec) (df : Int → Option Sec) (i : Nat) (w : World) (h : DiskIs w d sb mb n sf df) (h1 : i < n) (hd : df i = none) :
    Calls Try.prog 39 #[.pointer (some ⟨d, 0, none⟩), .int .i64 i] w (ReadPost w (sf.getD i zsec) 0) := by
  have hsi : i < sf.length := by rw [h.len]; exact h1
  have hget : sf.getD i zsec = sf[i] := by simp [List.getD_eq_getElem?_getD, hsi]
  rw [hget]
  obtain ⟨z, HZ, hz⟩ := zsec_named
  have Hz := Lib.hid hz; clear hz hget
  have hA := h.alloc (.cells (sc z).toArray 55)
  have HAT := Lib.hid (at_in d sb mb n sf df i _ hA (by omega) (by omega))
  have hlk := hA.map.look i (wfI (by omega) (by have := h.small; omega))
  rw [hd] at hlk
  simp only [Option.getD_none, Option.isSome_none, ← HZ.out] at hlk
  have hl64 := h.each _ (List.getElem_mem hsi)
  obtain ⟨s, hss⟩ : ∃ s, sf[i] = s := ⟨_, rfl⟩
  have HR : Hid (∀ W : World, DiskIs W d sb mb n sf df → W.rangeAt sb (i * 64) (sc s)) := Lib.hid (fun W hW => by rw [← hss]; exact hW.safe.2 i hsi)
  rw [hss] at hl64 ⊢
  have HL := Lib.hid hl64
  obtain ⟨cap, hb⟩ := hA.blk
  have c1 := hb.cell 1
  simp at c1
  have hn := h.small
  have hdl := h.lt.1
  have K := Lib.hid (Blk.new w (sc z).toArray 55)
  have B := Lib.hid ((Below.refl w.heap.size w).alloc (Nat.le_refl _) (.cells (sc z).toArray 55))
  have hin : (i : Int) < n := by omega
  have HA := Lib.hid hA
  clear h hA hb hl64 hsi hd hss
  go_enter Try.func39, Try.ntmps39
  go_wp2_with (first
    | ((with_reducible refine sec_alloc secT1 HZ rfl rfl ?_); try simp only [World.size_alloc])
    | (go_at_call 62; refine HAT.out.mono ?_; rintro e w1 ⟨rfl, rfl⟩)
    | ((with_reducible refine is_store 55 (x := .tmp 7) rfl ?_); refine sec_store secT1 rfl _ _ rfl (w.heap.size + 1) 0 z Hz.out rfl rfl ((Blk.newAt _ _ _ _ (by simp)).secThere Hz.out) ?_;
        have bW : Below (w.alloc (.cells (sc z).toArray 55)).heap.size (w.alloc (.cells (sc z).toArray 55)) (((w.alloc (.cells (sc z).toArray 55)).alloc (.cells (sc z).toArray 55)).setCells (w.heap.size + 1) 0 (sc z)) := below_cells ((Below.refl _ _).alloc (Nat.le_refl _) _) (by simp) _ _;
        have K2 := Lib.hid (K.out.below bW); have B2 := Lib.hid (B.out.trans (bW.mono (by simp))); have HA2 := Lib.hid (HA.out.below bW); clear c1 hlk bW K B HA;
        generalize ((w.alloc (.cells (sc z).toArray 55)).alloc (.cells (sc z).toArray 55)).setCells (w.heap.size + 1) 0 (sc z) = w2 at *;
        obtain ⟨cap2, hb2⟩ := HA2.out.blk; have c0 := hb2.cell 0; clear hb2; simp at c0)
    | ((with_reducible refine is_load 55 (x := .tmp 32) rfl ?_); refine sec_load secT1 rfl _ rfl sb (i * 64) rfl s HL.out (HR.out _ HA2.out) ?_)
    | ((with_reducible refine is_store 55 (x := .tmp 4) rfl ?_); refine sec_store secT1 rfl _ _ rfl w.heap.size 0 s HL.out rfl rfl (K2.out.secThere Hz.out) ?_))
  refine bodyPost_ret (results_cell_tmp_row rfl _ _ w.heap.size 55 _ (0, 0) _ rfl (K2.out.secStore (Hz.out.trans HL.out.symm)) Try.underlying55 rfl (secInfoSize HL.out)) rfl ?_
  exact ⟨rfl, below_cells B2.out (Nat.le_refl _) _ _⟩
set_option maxRecDepth 100000 in
theorem read_dirty (d sb mb n : Nat) (sf : List Sec) (df : Int → Option Sec) (i : Nat) (s : Sec) (w : World) (h : DiskIs w d sb mb n sf df) (h1 : i < n) (hd : df i = some s) :
    Calls Try.prog 39 #[.pointer (some ⟨d, 0, none⟩), .int .i64 i] w (ReadPost w s 0) := by
  obtain ⟨z, HZ, hz⟩ := zsec_named
  have Hz := Lib.hid hz; clear hz
  have hA := h.alloc (.cells (sc z).toArray 55)
  have HAT := Lib.hid (at_in d sb mb n sf df i _ hA (by omega) (by omega))
  have hlk := hA.map.look i (wfI (by omega) (by have := h.small; omega))
  rw [hd] at hlk
  simp only [Option.getD_some, Option.isSome_some] at hlk
  have HL := Lib.hid (h.sup _ _ hd).2.2
  obtain ⟨cap, hb⟩ := hA.blk
  have c1 := hb.cell 1
  simp at c1
  have hn := h.small
  have hdl := h.lt.1
  have K := Lib.hid (Blk.new w (sc z).toArray 55)
  have B := Lib.hid ((Below.refl w.heap.size w).alloc (Nat.le_refl _) (.cells (sc z).toArray 55))
  have hin : (i : Int) < n := by omega
  clear h hA hb hd
  go_enter Try.func39, Try.ntmps39
  go_wp2_with (first
    | ((with_reducible refine sec_alloc secT1 HZ rfl rfl ?_); try simp only [World.size_alloc])
    | (go_at_call 62; refine HAT.out.mono ?_; rintro e w1 ⟨rfl, rfl⟩)
    | ((with_reducible refine is_store 55 (x := .tmp 7) rfl ?_); refine sec_store secT1 rfl _ _ rfl (w.heap.size + 1) 0 s HL.out rfl rfl ((Blk.newAt _ _ _ _ (by simp)).secThere Hz.out) ?_;
        have bW : Below (w.alloc (.cells (sc z).toArray 55)).heap.size (w.alloc (.cells (sc z).toArray 55)) (((w.alloc (.cells (sc z).toArray 55)).alloc (.cells (sc z).toArray 55)).setCells (w.heap.size + 1) 0 (sc s)) := below_cells ((Below.refl _ _).alloc (Nat.le_refl _) _) (by simp) _ _;
        have K2 := Lib.hid (K.out.below bW); have B2 := Lib.hid (B.out.trans (bW.mono (by simp))); have J2 := Lib.hid ((Blk.newAt (w.alloc (.cells (sc z).toArray 55)) (sc z).toArray 55 (w.heap.size + 1) (by simp)).secStore (s' := s) (Hz.out.trans HL.out.symm)); clear c1 hlk bW K B;
        generalize ((w.alloc (.cells (sc z).toArray 55)).alloc (.cells (sc z).toArray 55)).setCells (w.heap.size + 1) 0 (sc s) = w2 at *)
    | ((with_reducible refine is_load 55 (x := .tmp 7) rfl ?_); refine sec_load secT1 rfl _ rfl (w.heap.size + 1) 0 rfl s HL.out J2.out.sec ?_)
    | ((with_reducible refine is_store 55 (x := .tmp 4) rfl ?_); refine sec_store secT1 rfl _ _ rfl w.heap.size 0 s HL.out rfl rfl (K2.out.secThere Hz.out) ?_))
  refine bodyPost_ret (results_cell_tmp_row rfl _ _ w.heap.size 55 _ (0, 0) _ rfl (K2.out.secStore (Hz.out.trans HL.out.symm)) Try.underlying55 rfl (secInfoSize HL.out)) rfl ?_
  exact ⟨rfl, below_cells B2.out (Nat.le_refl _) _ _⟩
theorem read_in (d sb mb n : Nat) (sf : List Sec) (df : Int → Option Sec) (i : Nat) (w : World) (h : DiskIs w d sb mb n sf df) (h1 : i < n) :
    Calls Try.prog 39 #[.pointer (some ⟨d, 0, none⟩), .int .i64 i] w (ReadPost w (curS sf df i) 0) := by
  unfold curS
  cases hd : df (i : Int) with
  | none => exact read_safe d sb mb n sf df i w h h1 hd
  | some s => exact read_dirty d sb mb n sf df i s w h h1 hd
end Go.Proofs.Ytlgimhhhlpmjcaa
