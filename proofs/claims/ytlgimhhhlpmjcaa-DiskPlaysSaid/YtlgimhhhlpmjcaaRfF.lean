/- law04: alike (printed by genRfF.py). -/
import Derived.Test.YtlgimhhhlpmjcaaRfE
set_option linter.unusedVariables false
set_option linter.unusedSimpArgs false
namespace Go.Proofs.Ytlgimhhhlpmjcaa
open Go.RowKit Go.Maps Go.WideMaps Go.Shelf

/-- A disk, and the document's. -/
structure BothIs (w : World) (d sb mb m ab bb cb n : Nat) (sf : List Sec) (df : Int → Option Sec) : Prop where
  d : DiskIs w d sb mb n sf df
  r : RefIs w m ab bb cb n (flushS n sf df) sf (isDs n df)
theorem BothIs.below {w w' : World} {d sb mb m ab bb cb n : Nat} {sf : List Sec} {df : Int → Option Sec} (h : BothIs w d sb mb m ab bb cb n sf df) (hb : Below w.heap.size w w') : BothIs w' d sb mb m ab bb cb n sf df := ⟨h.d.below hb, h.r.below hb⟩

set_option maxRecDepth 100000 in
set_option maxHeartbeats 2000000 in
theorem alike_any (d sb mb m ab bb cb n : Nat) (sf : List Sec) (df : Int → Option Sec) (w : World) (h : BothIs w d sb mb m ab bb cb n sf df) :
    Calls Try.prog 37 #[.pointer (some ⟨d, 0, none⟩), .pointer (some ⟨m, 0, none⟩)] w fun e w' => e = .returned (.bool true) ∧ Below w.heap.size w w' := by
  obtain ⟨z, HZ, hz⟩ := zsec_named
  have Hz := Lib.hid hz; clear hz
  have H := Lib.hid h; clear h
  have hn := H.out.d.small
  go_enter Try.func37, Try.ntmps37
  go_wp2_with fail
  refine (dirty_any d sb mb n sf df w H.out.d).mono ?_
  rintro e w1 ⟨a1, c1, rfl, hr1, hb1⟩
  have B1 := Lib.hid hb1; have H1 := Lib.hid (H.out.below hb1); have R1 := Lib.hid hr1; have z1 := hb1.size
  clear hb1 hr1
  go_wp2_with fail
  refine (rdirty_any m ab bb cb n _ _ df w1 H1.out.r).mono ?_
  rintro e w2 ⟨a2, c2, rfl, hr2, hb2⟩
  have B2 := Lib.hid (B1.out.trans (hb2.mono z1)); have H2 := Lib.hid (H1.out.below hb2); have R2 := Lib.hid hr2; have R12 := Lib.hid (ownsRow_below R1.out hb2); have z2 := B2.out.size
  clear hb2 hr2 R1
  have hL : (dirtyI n df).length ≤ 1024 := by rw [dirtyI_len]; have := dirtyN_le n df; omega
  generalize hdl : dirtyI n df = l at *
  have HDL := Lib.hid hdl; clear hdl
  obtain ⟨e1, e2, e3, hmb⟩ := H2.out.r.blk
  have k0 := hmb.cell 0
  simp at k0
  have HMB := Lib.hid hmb; clear hmb
  go_wp2_with fail
  have hlen := len_any d sb mb n sf df w2.drew (H2.out.d.keep rfl rfl rfl)
  refine wp_region_still_lit (by kernel_rfl) (by kernel_rfl) ?_
  still_step
  still_call hlen
  clear hlen
  repeat still_step
  refine wpStill_nil ?_
  go_wp2_with fail
  have B3 := Lib.hid (B2.out.drew)
  go_loopw [7] (fun i wr => ∃ k : Nat, k ≤ l.length ∧ i = .int .i64 k ∧ Hid (Below w2.heap.size w2 wr)) (fun i _ => l.length - (intOf i).toNat)
  case atStart => exact ⟨0, Nat.zero_le _, rfl, Lib.hid ((Below.refl _ _).drew)⟩
  case round =>
    obtain ⟨k, hk, rfl, hB⟩ := hrel
    by_cases hlt : k < l.length
    · have hlt2 : (k : Int) < (l.length : Int) := by omega
      have hk0 : (0 : Int) ≤ (k : Int) := by omega
      obtain ⟨g1, rfl, q1, q2, q3⟩ := row_cell (ownsRow_below R12.out hB.out) hlt
      obtain ⟨g2, rfl, p1, p2, p3⟩ := row_cell (ownsRow_below R2.out hB.out) hlt
      have hx : (l.map (Value.int .i64))[k]? = some (.int .i64 l[k]) := by simp [hlt]
      rw [hx] at q3 p3
      generalize l[k] = x at *
      clear hx k0
      go_wp2_with fail
      refine wp_region_still_lit (by kernel_rfl) (by kernel_rfl) ?_
      repeat still_step
      refine wpStill_nil ?_
      go_wp2_with fail
      go_roundw
      case rel => exact ⟨k + 1, by omega, by go_num, Lib.hid hB.out.drew⟩
      case measure => simp [intOf]; omega
    · have hkk : k = l.length := by omega
      subst hkk
      have B4 := Lib.hid (B2.out.trans (hB.out.mono z2)); have H4 := Lib.hid (H2.out.below hB.out); have HM4 := Lib.hid (HMB.out.below hB.out)
      have z4 := B4.out.size
      clear k0
      go_wp2_with fail
      obtain ⟨wo, rfl⟩ : ∃ wo : World, wo = wr := ⟨_, rfl⟩
      go_loopw [8, 9, 10] (fun i _ _ wr => ∃ k : Nat, k ≤ n ∧ i = .int .i64 k ∧ Hid (Below wo.heap.size wo wr)) (fun i _ _ _ => n - (intOf i).toNat)
      case atStart => exact ⟨0, Nat.zero_le _, rfl, Lib.hid (Below.refl _ _)⟩
      case round =>
        obtain ⟨k, hk, rfl, hBk⟩ := hrel
        have zk := hBk.out.size
        have hmk := HM4.out.below hBk.out
        have k0 := hmk.cell 0
        simp at k0
        clear hmk
        by_cases hlt : k < n
        · have hlt2 : (k : Int) < n := by omega
          have hk0 : (0 : Int) ≤ (k : Int) := by omega
          have hr := read_any d sb mb n sf df k wr (H4.out.below hBk.out).d
          rw [errD_in hlt, rdD_in sf df hlt] at hr
          obtain ⟨s1, HS1⟩ : ∃ s, Hid (s = curS sf df k) := ⟨_, Lib.hid rfl⟩
          have LS1 : Hid (s1.length = 64) := Lib.hid (by rw [HS1.out]; exact curS_len H.out.d.len H.out.d.each H.out.d.sup hlt)
          rw [← HS1.out] at hr
          have hla : k < (flushS n sf df).length := by rw [flushS_len]; exact hlt
          have hga : (flushS n sf df)[k] = s1 := by rw [HS1.out]; simp [flushS]
          have hra : ∀ W, Below wo.heap.size wo W → W.rangeAt ab (k * 64) (sc s1) := fun W hW => by rw [← hga]; exact (H4.out.below hW).r.a.2 k hla
          have HR := Lib.hid hr; have HRA := Lib.hid hra
          clear hr hla hga hra
          go_wp2_with fail
          refine HR.out.mono ?_
          rintro e wa ⟨rfl, hba⟩
          have Ba := Lib.hid (hBk.out.trans (hba.mono zk)); have za := Ba.out.size
          clear hba k0
          go_wp2_with (first
            | ((with_reducible refine sec_alloc secT1 HZ rfl rfl ?_); try simp only [World.size_alloc])
            | ((with_reducible refine is_store 55 (x := .tmp 9) rfl ?_); refine sec_store secT1 rfl _ _ rfl wa.heap.size 0 s1 LS1.out rfl rfl ((Blk.new _ _ _).secThere Hz.out) ?_;
               have bW : Below wa.heap.size wa ((wa.alloc (.cells (sc z).toArray 55)).setCells wa.heap.size 0 (sc s1)) := below_cells ((Below.refl _ _).alloc (Nat.le_refl _) _) (Nat.le_refl _) _ _;
               have Jwb := Lib.hid ((Blk.new wa (sc z).toArray 55).secStore (s' := s1) (Hz.out.trans LS1.out.symm));
               have Bb := Lib.hid (Ba.out.trans (bW.mono za));
               have zwb := bW.size; clear bW; generalize ((wa.alloc (.cells (sc z).toArray 55)).setCells wa.heap.size 0 (sc s1)) = wb at *))
          generalize hg9 : wa.heap.size = g9 at *
          have HG9 := Lib.hid hg9; clear hg9
          have hmk := HM4.out.below Bb.out
          have k0 := hmk.cell 0
          simp at k0
          clear hmk
          have heq : ∀ W : World, (Op.equalIn 10000 58 (.agg (sc s1).toArray) (.agg (sc s1).toArray)).run Try.prog W = .ok true W := fun W => by
            rw [sec_eq Try.underlying58 s1 s1 LS1.out LS1.out W]; simp
          refine wp_region_still_lit (by kernel_rfl) (by kernel_rfl) ?_
          still_step; still_step; still_step
          refine sec_still_w secT1 (by rfl) _ rfl g9 0 rfl s1 LS1.out Jwb.out.sec ?_
          still_step; still_step; still_step; still_step; still_step; still_step
          refine sec_still_w secT2 (by rfl) _ rfl ab (k * 64) rfl s1 LS1.out (HRA.out _ Bb.out.drew) ?_
          repeat still_step
          refine wpStill_nil ?_
          go_wp2_with fail
          go_roundw
          case rel => exact ⟨k + 1, by omega, by go_num, Lib.hid Bb.out.drew⟩
          case measure => simp [intOf]; omega
        · have hkk : k = n := by omega
          subst hkk
          go_wp2
          go_ret
          exact ⟨rfl, B4.out.trans (hBk.out.mono z4)⟩
end Go.Proofs.Ytlgimhhhlpmjcaa
