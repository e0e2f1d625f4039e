/- The document's disk: Fill, Crash. -/
import Derived.Test.YtlgimhhhlpmjcaaRfC
set_option linter.unusedVariables false
set_option linter.unusedSimpArgs false
namespace Go.Proofs.Ytlgimhhhlpmjcaa
open Go.RowKit Go.Maps Go.WideMaps Go.Shelf

theorem secInfoSize2 {s : Sec} (hs : s.length = 64) : (Try.prog.info? 58).map (·.size) = some (sc s).toArray.size := by rw [List.size_toArray, sc_len, hs]; exact secT2.info
set_option maxRecDepth 100000 in
set_option maxHeartbeats 1000000 in
theorem rfill_any (A : Option Addr) (n c : Nat) (xs : List Int) (w : World) (h : RdU8 w A n xs) (hn : n ≤ 100) :
    Calls Try.prog 33 #[.slice A n c] w fun e w' => e = .returned (.agg (sc (fillS xs)).toArray) ∧ Below w.heap.size w w' := by
  obtain ⟨z, HZ, hz⟩ := zsec_named
  have Hz := Lib.hid hz; clear hz
  have K0 := Lib.hid ((Blk.new w (sc z).toArray 58).alloc (.cells (sc z).toArray 58))
  have K1 := Lib.hid (Blk.newAt (w.alloc (.cells (sc z).toArray 58)) (sc z).toArray 58 (w.heap.size + 1) (by simp))
  have b2 : Below w.heap.size w ((w.alloc (.cells (sc z).toArray 58)).alloc (.cells (sc z).toArray 58)) := ((Below.refl w.heap.size w).alloc (Nat.le_refl _) _).alloc (by simp) _
  have B2 := Lib.hid b2; clear b2
  have H := Lib.hid h; clear h
  go_enter Try.func33, Try.ntmps33
  go_upto_block 0 with ((with_reducible refine sec_alloc secT2 HZ rfl rfl ?_); try simp only [World.size_alloc])
  go_cut [4] from 5 to 20 (fun _ wc => Hid (Blk wc (w.heap.size + 1) (sc (fillS xs)).toArray 58) ∧ Hid (Blk wc w.heap.size (sc z).toArray 58) ∧ Hid (Below w.heap.size w wc))
  case first =>
    go_wp2_with fail
    go_loopw [4] (fun i wr => ∃ k : Nat, k ≤ n ∧ k ≤ 64 ∧ i = .int .i64 k ∧ Hid (Blk wr (w.heap.size + 1) (sc (fillTo xs k)).toArray 58) ∧ Hid (Blk wr w.heap.size (sc z).toArray 58) ∧ Hid (Below w.heap.size w wr)) (fun i _ => n - (intOf i).toNat)
    case atStart => exact ⟨0, Nat.zero_le _, Nat.zero_le _, rfl, Lib.hid (by rw [show fillTo xs 0 = z by rw [HZ.out]; rfl]; exact K1.out), K0, B2⟩
    case round =>
      obtain ⟨k, hkn, hk64, rfl, hk1, hk0, hB⟩ := hrel
      by_cases hlt : k < n
      · have hlt2 : (k : Int) < n := by omega
        have hki : (0 : Int) ≤ (k : Int) := by omega
        by_cases h64 : k < 64
        · have h64i : (k : Int) < 64 := by omega
          obtain ⟨b, off, rfl, hbl, hc⟩ := (H.out.below hB.out).at' (by omega)
          have hkx : k < xs.length := by rw [H.out.len]; exact hlt
          have d0 := hc k hkx
          have hfs := fillTo_set hkx h64
          have e1 := hk1.out.cell k
          have e2 : (sc (fillTo xs k)).toArray[k]? = some (.int .u8 ((fillTo xs k)[k]'(by rw [fillTo_len (by omega) (by omega)]; exact h64))) := by
            rw [List.getElem?_toArray]; unfold sc; rw [List.getElem?_map, List.getElem?_eq_getElem (by rw [fillTo_len (by omega) (by omega)]; exact h64)]; rfl
          rw [e2] at e1
          generalize (fillTo xs k)[k]'(by rw [fillTo_len (by omega) (by omega)]; exact h64) = u at *
          have e3 := hk1.out.fr k
          have hl1 := hk1.out.lt
          generalize xs[k] = x at *
          have HFS := Lib.hid hfs
          clear hc hfs e2
          go_wp2
          go_roundw
          case rel =>
            refine ⟨k + 1, by omega, by omega, by go_num, Lib.hid ?_, Lib.hid (hk0.out.setOther (by omega) _ _), Lib.hid (hB.out.setCell (by simp) _)⟩
            rw [← HFS.out, ← sc_set]
            exact hk1.out.set k _
          case measure => simp [intOf]; omega
        · have h64i : ¬ (k : Int) < 64 := by omega
          go_wp2
          go_meet
          case rel => exact ⟨Lib.hid (by rw [← fillTo_end (by omega) (by rw [H.out.len]; omega) hk64]; exact hk1.out), hk0, hB⟩
      · have hge : ¬ (k : Int) < n := by omega
        go_wp2
        go_meet
        case rel => exact ⟨Lib.hid (by rw [← fillTo_end (by rw [H.out.len]; omega) (by rw [H.out.len]; omega) hk64]; exact hk1.out), hk0, hB⟩
  case rest =>
    obtain ⟨hk1, hk0, hB⟩ := hcut
    go_wp2_with (first
      | ((with_reducible refine is_load 58 (x := .tmp 3) rfl ?_); refine sec_load secT2 rfl _ rfl (w.heap.size + 1) 0 rfl (fillS xs) (fillS_len xs) hk1.out.sec ?_)
      | ((with_reducible refine is_store 58 (x := .tmp 2) rfl ?_); refine sec_store secT2 rfl _ _ rfl w.heap.size 0 (fillS xs) (fillS_len xs) rfl rfl (hk0.out.secThere Hz.out) ?_))
    refine bodyPost_ret (results_cell_row rfl _ _ w.heap.size 58 _ (0, 0) _ rfl (hk0.out.secStore (Hz.out.trans (fillS_len xs).symm)) Try.underlying58 rfl (secInfoSize2 (fillS_len xs))) rfl ?_
    exact ⟨rfl, below_cells hB.out (Nat.le_refl _) _ _⟩
end Go.Proofs.Ytlgimhhhlpmjcaa
