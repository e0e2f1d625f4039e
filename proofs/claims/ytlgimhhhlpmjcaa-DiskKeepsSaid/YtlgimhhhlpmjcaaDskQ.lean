/- DiskKeeps: the walk (printed by genKeeps.py). -/
import Derived.Test.YtlgimhhhlpmjcaaDskL
set_option linter.unusedVariables false
set_option linter.unusedSimpArgs false
namespace Go.Proofs.Ytlgimhhhlpmjcaa
open Go.RowKit Go.Maps Go.WideMaps Go.Shelf

set_option maxRecDepth 100000 in
set_option maxHeartbeats 4000000 in
theorem keeps_any (sec : Int) (A : Option Addr) (m c : Nat) (w : World) (ha : RdActs w A m) :
    Calls Try.prog 8 #[.int .i64 sec, .slice A m c] w fun e w' => e = .returned (.bool true) ∧ Below w.heap.size w w' := by
  have HA := Lib.hid ha; clear ha
  by_cases h1 : sec < 1
  · go_enter Try.func8, Try.ntmps8
    go_wp2_with fail
    refine (alive_any _).mono ?_
    rintro e w1 ⟨rfl, hb1⟩
    have B1 := Lib.hid hb1; clear hb1
    go_wp2
    go_ret
    exact ⟨rfl, B1.out⟩
  · have h1' : decide (sec < 1) = false := decide_eq_false h1
    by_cases h2 : 60 < sec
    · go_enter Try.func8, Try.ntmps8
      go_wp2_with fail
      refine (alive_any _).mono ?_
      rintro e w1 ⟨rfl, hb1⟩
      have B1 := Lib.hid hb1; clear hb1
      go_wp2
      go_ret
      exact ⟨rfl, B1.out⟩
    · obtain ⟨n, rfl⟩ := Int.eq_ofNat_of_zero_le (show 0 ≤ sec by omega)
      have hn1 : 1 ≤ n := by omega
      have hn60 : n ≤ 60 := by omega
      have h2' : decide ((60 : Int) < n) = false := decide_eq_false h2
      have hn1i : ¬ (n : Int) < 1 := h1
      have hn2i : ¬ (60 : Int) < n := h2
      obtain ⟨z, HZ, hz⟩ := zsec_named
      have Hz := Lib.hid hz; clear hz
      have hmk := makeSecs n (by omega)
      have hmb := makeBools n hn60
      go_enter Try.func8, Try.ntmps8
      go_wp2_with fail
      refine (new_ok n w hn1 (by omega)).mono ?_
      rintro e w1 ⟨d, sb, mb, rfl, hD, l1, l2, l3, hb⟩
      have hfb := SafeIs.zeros w1 n w1.heap.size rfl
      have bq : Below w1.heap.size w1 (w1.alloc (.cells (zcells n) 55)) := (Below.refl _ _).alloc (Nat.le_refl _) _
      have z1 := hb.size
      have D2 := Lib.hid (hD.below bq); have B2 := Lib.hid (hb.trans (bq.mono z1)); have F2 := Lib.hid hfb; have hdl := hD.lt
      have hz0 : (List.replicate n zsec).length = n := by simp
      have hze : ∀ x ∈ List.replicate n zsec, x.length = 64 := fun x hx => by rw [List.eq_of_mem_replicate hx]; exact zsec_len
      clear hD hb hfb bq
      generalize List.replicate n zsec = sf0 at *
      have fbl : w1.heap.size = w1.heap.size := rfl
      go_upto_block 0 with fail
      generalize hfbn : w1.heap.size = fb at *
      have HFB := Lib.hid hfbn; clear hfbn fbl
      go_cut [8] from 43 to 95 (fun _ wc => ∃ sf df, Hid (DiskIs wc d sb mb n sf df) ∧ Hid (SafeIs wc fb sf) ∧ Hid (Below w.heap.size w wc))
      case first =>
        go_wp2_with fail
        generalize w1.alloc (.cells (zcells n) 55) = w2 at *
        go_loopw [8, 9, 10, 11] (fun i _ _ _ wr => ∃ (k : Nat) (sf : List Sec) (df : Int → Option Sec), k ≤ m ∧ i = .int .i64 k ∧ Hid (DiskIs wr d sb mb n sf df) ∧ Hid (SafeIs wr fb sf) ∧ Hid (Below w.heap.size w wr)) (fun i _ _ _ _ => m - (intOf i).toNat)
        case atStart => exact ⟨0, _, _, Nat.zero_le _, rfl, D2, F2, B2⟩
        case round =>
          obtain ⟨k, sf, df, hkm, rfl, hD, hF, hB⟩ := hrel
          have zr := hB.out.size
          by_cases hlt : k < m
          · have hlt2 : (k : Int) < m := by omega
            by_cases h100 : k < 100
            · have h100i : (k : Int) < 100 := by omega
              obtain ⟨b, off, a, bA, bc, kA', kc', rfl, hact⟩ := HA.out.at hlt
              have hb0 := hact.2.2.2.2.2.2
              obtain ⟨c0, c1, c2, c3, hbB, hkK, hbl⟩ := hact.below hB.out
              clear hact
              have hk0 : (0 : Int) ≤ (k : Int) := by omega
              by_cases hk2 : a.kind = 2
              · rw [hk2] at c0
                clear hbB hkK hk2
                go_wp2_with fail
                refine (flush_any d sb mb n sf df wr hD.out).mono ?_
                rintro e w3 ⟨rfl, hD3, hk3⟩
                have hfl := hF.out.lt
                have D3 := Lib.hid hD3; have F3 := Lib.hid (hF.out.keep (hk3.block fb hfl (by omega))); have B3 := Lib.hid (hB.out.trans (hk3.low zr l2 l3)); have z3 := B3.out.size
                have HL0 := Lib.hid hD.out.len; have HE0 := Lib.hid hD.out.each
                clear hD3 hk3 c0 c1 c2 c3
                have hfe := hD.out
                generalize hfn : flushS n sf df = sfN at *
                have HFN := Lib.hid hfn; clear hfn hfe
                go_wp2_with fail
                obtain ⟨wo, rfl⟩ : ∃ wo : World, wo = wr := ⟨_, rfl⟩
                go_loopw [9, 10, 11] (fun i _ _ wr => ∃ j : Nat, j ≤ n ∧ i = .int .i64 j ∧ Hid (SafeIs wr fb (mixS j sfN sf)) ∧ Hid (Kept w3 wr (fun x => x = fb))) (fun i _ _ _ => n - (intOf i).toNat)
                case atStart => exact ⟨0, Nat.zero_le _, rfl, F3, Lib.hid (Kept.refl _ _)⟩
                case round =>
                  obtain ⟨j, hjn, rfl, hFj, hKj⟩ := hrel
                  have Bj := Lib.hid (B3.out.trans (hKj.out.below z3 (fun x e => by omega))); have zj := Bj.out.size
                  have Dj := Lib.hid (D3.out.kept hKj.out (by omega) (by omega) (by omega))
                  by_cases hltj : j < n
                  · have hltj2 : (j : Int) < n := by omega
                    have hr := read_any d sb mb n sfN _ j wr Dj.out
                    rw [errD_in hltj, rdD_in _ _ hltj, curS_none] at hr
                    have hjl : j < sfN.length := by rw [D3.out.len]; exact hltj
                    have hs64 := D3.out.each _ (List.getElem_mem hjl)
                    have hgd : sfN.getD j zsec = sfN[j] := by simp [List.getD_eq_getElem?_getD, hjl]
                    rw [hgd] at hr
                    have hmx := mixS_succ (b := sf) hjl (by rw [HL0.out]; exact hltj)
                    have hml : j < (mixS j sfN sf).length := by rw [mixS_len (by rw [D3.out.len, HL0.out]) (by rw [HL0.out]; omega), HL0.out]; exact hltj
                    have hme := mixS_each (k := j) D3.out.each HE0.out
                    generalize sfN[j] = s at *
                    have HR := Lib.hid hr; have LS := Lib.hid hs64; have HMX := Lib.hid hmx; have HML := Lib.hid hml; have HME := Lib.hid hme
                    clear hr hs64 hgd hmx hml hme
                    go_wp2_with fail
                    refine HR.out.mono ?_
                    rintro e wa ⟨rfl, hba⟩
                    have Ba := Lib.hid (Bj.out.trans (hba.mono zj)); have Fa := Lib.hid (hFj.out.keep (hba.block fb hFj.out.lt)); have Ka := Lib.hid (hKj.out.then hba); have za := Ba.out.size
                    clear hba hFj hKj
                    go_wp2_with (first
                      | ((with_reducible refine sec_alloc secT1 HZ rfl rfl ?_); try simp only [World.size_alloc])
                      | ((with_reducible refine is_store 55 (x := .tmp 10) rfl ?_); refine sec_store secT1 rfl _ _ rfl wa.heap.size 0 s LS.out rfl rfl ((Blk.new _ _ _).secThere Hz.out) ?_;
                         have bW : Below wa.heap.size wa ((wa.alloc (.cells (sc z).toArray 55)).setCells wa.heap.size 0 (sc s)) := below_cells ((Below.refl _ _).alloc (Nat.le_refl _) _) (Nat.le_refl _) _ _;
                         have Jwb := Lib.hid ((Blk.new wa (sc z).toArray 55).secStore (s' := s) (Hz.out.trans LS.out.symm));
                         have Bb := Lib.hid (Ba.out.trans (bW.mono za));
                         have Fb := Lib.hid (Fa.out.keep (bW.block fb Fa.out.lt));
                         have Kb := Lib.hid (Ka.out.then bW);
                         have zwb := bW.size; clear bW; generalize ((wa.alloc (.cells (sc z).toArray 55)).setCells wa.heap.size 0 (sc s)) = wb at *)
                      | ((with_reducible refine is_load 55 (x := .tmp 10) rfl ?_); refine sec_load secT1 rfl _ rfl wa.heap.size 0 rfl s LS.out Jwb.out.sec ?_)
                      | ((with_reducible refine is_store 55 (x := .tmp 75) rfl ?_); refine sec_store secT1 rfl _ _ rfl fb (j * 64) s LS.out rfl rfl (Fb.out.there j HML.out (HME.out _ (List.getElem_mem HML.out))) ?_))
                    have FF := Lib.hid (Fb.out.store j HML.out HME.out s LS.out)
                    have KK := Lib.hid (Kb.out.trans2 (Kept.of_grown (S := fun x => x = fb) (grownBy_cells wb fb (j * 64) (sc s)) (fun k hk => (Option.some.inj hk).symm)) (fun i _ e => e))
                    try go_frame
                    go_roundw
                    case rel => exact ⟨j + 1, by omega, by go_num, Lib.hid (by rw [HMX.out]; exact FF.out), KK⟩
                    case measure => simp [intOf]; omega
                  · have hjj : j = n := by omega
                    subst hjj
                    go_wp2
                    go_roundw
                    case rel => exact ⟨k + 1, _, _, by omega, by go_num, Dj, Lib.hid (by rw [← mixS_all D3.out.len HL0.out]; exact hFj.out), Bj⟩
                    case measure => simp [intOf]; omega
              · have hk2b : (a.kind == 2) = false := by simpa using hk2
                by_cases hlen : (a.b.length : Int) ≤ 100
                · have HBB := Lib.hid hbB; clear hbB hkK
                  go_wp2
                  have X2 := Lib.hid (hB.out.drew)
                  have D2 : Hid (DiskIs wr.drew d sb mb n sf df) := Lib.hid (hD.out.keep rfl rfl rfl)
                  have F2 : Hid (SafeIs wr.drew fb sf) := Lib.hid (hF.out.keep rfl)
                  go_region_held3 (fun W => W.cell? ⟨b, off + k * 4 + 1, none⟩ = some (.int .i64 a.i) ∧ W.cell? ⟨b, off + k * 4 + 2, none⟩ = some (.slice bA a.b.length bc)) (first | exact ⟨r1, r2⟩ | go_keep)
                    (first
                      | (go_at_call 31; refine (fill_any bA _ bc a.b _ (RdU8.keep (w' := wr.drew) HBB.out (fun _ _ _ _ => rfl) (Nat.le_refl _))).mono ?_; rintro e w4 ⟨rfl, hb4⟩
                         have r1 := (hb4.cell (p := ⟨b, off + k * 4 + 1, none⟩) hbl).trans c1; have r2 := (hb4.cell (p := ⟨b, off + k * 4 + 2, none⟩) hbl).trans c2
                         have B4 := Lib.hid (X2.out.trans (hb4.mono zr)); have D4 := Lib.hid (D2.out.below hb4); have F4 := Lib.hid (F2.out.keep (hb4.block fb F2.out.lt)); have z4 := B4.out.size; clear hb4)
                      | (go_at_call 30; refine (write_any d sb mb n sf df a.i (fillS a.b) w4 D4.out (fillS_len _)).mono ?_; rintro e w5 ⟨rfl, hD5, hg5⟩
                         have B5 := Lib.hid (B4.out.trans (grown_low hg5 z4 l3)); have D5 := Lib.hid hD5; have F5 := Lib.hid (F4.out.keep (hg5.block fb F4.out.lt (by simp; omega))); have hbmb : b ≠ mb := by omega
                         have r1 := ((gcell hg5).1 b (off + k * 4 + 1) (by omega) hbmb).trans r1; have r2 := ((gcell hg5).1 b (off + k * 4 + 2) (by omega) hbmb).trans r2; clear hD5 hg5))
                  go_wp2
                  go_roundw
                  case rel => exact ⟨k + 1, _, _, by omega, by go_num, D5, F5, B5⟩
                  case measure => simp [intOf]; omega
                · clear hbB hkK
                  go_wp2
                  go_roundw
                  case rel => exact ⟨k + 1, _, _, by omega, by go_num, hD, hF, hB⟩
                  case measure => simp [intOf]; omega
            · have h100i : ¬ (k : Int) < 100 := by omega
              go_wp2
              go_meet
              case rel => exact ⟨sf, df, hD, hF, hB⟩
          · have hge : ¬ (k : Int) < m := by omega
            go_wp2
            go_meet
            case rel => exact ⟨sf, df, hD, hF, hB⟩
      case rest =>
        obtain ⟨sf, df, hD, hF, hB⟩ := hcut
        have zc := hB.out.size
        have hdl2 := hD.out.lt
        have hfl := hF.out.lt
        have BO := Lib.hid (BoolsIs.made wc n wc.heap.size rfl)
        have bq : Below wc.heap.size wc (wc.alloc (.cells (madeCells #[.bool false] n) 4)) := (Below.refl _ _).alloc (Nat.le_refl _) _
        have D2c := Lib.hid (hD.out.below bq); have F2c := Lib.hid (hF.out.keep (bq.block fb hfl)); have B2c := Lib.hid (hB.out.trans (bq.mono zc))
        clear bq
        go_wp2_with fail
        generalize hgb : wc.heap.size = gb at *
        have HGB := Lib.hid hgb; clear hgb
        generalize wc.alloc (.cells (madeCells #[.bool false] n) 4) = w2 at *
        have z2 := B2c.out.size
        go_loopw [13] (fun i wr => ∃ k : Nat, k ≤ n ∧ i = .int .i64 k ∧ Hid (BoolsIs wr gb n k) ∧ Hid (Kept w2 wr (fun x => x = gb))) (fun i _ => n - (intOf i).toNat)
        case atStart => exact ⟨0, Nat.zero_le _, rfl, BO, Lib.hid (Kept.refl _ _)⟩
        case round =>
          obtain ⟨k, hkn, rfl, hBo, hKe⟩ := hrel
          by_cases hlt : k < n
          · have hlt2 : (k : Int) < n := by omega
            have hk0 : (0 : Int) ≤ (k : Int) := by omega
            obtain ⟨bv, e1, e2, e3⟩ := hBo.out.cell hlt
            go_wp2
            go_roundw
            case rel => exact ⟨k + 1, by omega, by go_num, Lib.hid (hBo.out.set hlt), Lib.hid (hKe.out.set rfl _)⟩
            case measure => simp [intOf]; omega
          · have hkk : k = n := by omega
            subst hkk
            have hD3 := D2c.out.kept hKe.out (by omega) (by omega) (by omega)
            have D3 := Lib.hid hD3; have B3 := Lib.hid (B2c.out.trans (hKe.out.below z2 (fun x e => by omega))); have F3 := Lib.hid (F2c.out.keep (hKe.out.block fb F2c.out.lt (by omega))); have z3 := B3.out.size
            clear hD3
            have hrd := hBo.out.rd
            have HRD := Lib.hid hrd; clear hrd
            go_wp2_with fail
            refine (crash_any d sb mb k sf df (some ⟨gb, 0, none⟩) k k (List.replicate k true) wr D3.out HRD.out).mono ?_
            rintro e w4 ⟨x, xs, xm, rfl, hX, m1, m2, m3, hb⟩
            have X4 := Lib.hid hX; have D4 := Lib.hid (D3.out.below hb); have B4 := Lib.hid (B3.out.trans (hb.mono z3)); have F4 := Lib.hid (F3.out.keep (hb.block fb F3.out.lt)); have z4 := B4.out.size
            clear hX hb HRD
            go_wp2_with fail
            refine (crash_any d sb mb k sf df none 0 0 [] w4 D4.out (RdBo.nil _ _)).mono ?_
            rintro e w5 ⟨y, ys, ym, rfl, hY, n1, n2, n3, hb⟩
            have Y5 := Lib.hid hY; have X5 := Lib.hid (X4.out.below hb); have D5 := Lib.hid (D4.out.below hb); have B5 := Lib.hid (B4.out.trans (hb.mono z4)); have F5 := Lib.hid (F4.out.keep (hb.block fb F4.out.lt)); have z5 := B5.out.size
            clear hY hb D4 X4 F4
            go_wp2_with fail
            obtain ⟨wo, rfl⟩ : ∃ wo : World, wo = wr := ⟨_, rfl⟩
            go_loopw [16] (fun i wr => ∃ j : Nat, j ≤ k ∧ i = .int .i64 j ∧ Hid (Below w5.heap.size w5 wr)) (fun i _ => k - (intOf i).toNat)
            case atStart => exact ⟨0, Nat.zero_le _, rfl, Lib.hid (Below.refl _ _)⟩
            case round =>
              obtain ⟨j, hjk, rfl, hBj⟩ := hrel
              have zj := hBj.out.size
              by_cases hltj : j < k
              · have hltj2 : (j : Int) < k := by omega
                have hj0 : (0 : Int) ≤ (j : Int) := by omega
                obtain ⟨s1, HS1⟩ : ∃ s, Hid (s = curS sf df j) := ⟨_, Lib.hid rfl⟩
                obtain ⟨s2, HS2⟩ : ∃ s, Hid (s = sf.getD j zsec) := ⟨_, Lib.hid rfl⟩
                have LS1 : Hid (s1.length = 64) := Lib.hid (by rw [HS1.out]; exact curS_len D5.out.len D5.out.each D5.out.sup hltj)
                have hjl : j < sf.length := by rw [D5.out.len]; exact hltj
                have hgd : sf.getD j zsec = sf[j] := by simp [List.getD_eq_getElem?_getD, hjl]
                have LS2 : Hid (s2.length = 64) := Lib.hid (by rw [HS2.out, hgd]; exact D5.out.each _ (List.getElem_mem hjl))
                have hfr : ∀ W, Below w5.heap.size w5 W → W.rangeAt fb (j * 64) (sc s2) := fun W hW => by
                  rw [HS2.out, hgd]; exact (F5.out.keep (hW.block fb F5.out.lt)).2 j hjl
                have HFR := Lib.hid hfr
                clear hjl hgd hfr
                have hr1 := read_any d sb mb k sf df j wr (D5.out.below hBj.out)
                rw [errD_in hltj, rdD_in sf df hltj, ← HS1.out] at hr1
                have HR1 := Lib.hid hr1; clear hr1
                go_wp2_with fail
                refine HR1.out.mono ?_
                rintro e wa ⟨rfl, hba⟩
                have Ba := Lib.hid (hBj.out.trans (hba.mono zj)); have za := Ba.out.size
                clear hba
                go_wp2_with (first
                  | ((with_reducible refine sec_alloc secT1 HZ rfl rfl ?_); try simp only [World.size_alloc])
                  | ((with_reducible refine is_store 55 (x := .tmp 17) rfl ?_); refine sec_store secT1 rfl _ _ rfl wa.heap.size 0 s1 LS1.out rfl rfl ((Blk.new _ _ _).secThere Hz.out) ?_;
                     have bW : Below wa.heap.size wa ((wa.alloc (.cells (sc z).toArray 55)).setCells wa.heap.size 0 (sc s1)) := below_cells ((Below.refl _ _).alloc (Nat.le_refl _) _) (Nat.le_refl _) _ _;
                     have Jwa2 := Lib.hid ((Blk.new wa (sc z).toArray 55).secStore (s' := s1) (Hz.out.trans LS1.out.symm));
                     have Ba2 := Lib.hid (Ba.out.trans (bW.mono za));
                     have za2 := Ba2.out.size; clear bW; generalize ((wa.alloc (.cells (sc z).toArray 55)).setCells wa.heap.size 0 (sc s1)) = wa2 at *))
                have hr2 := read_any x xs xm k _ _ j wa2 (X5.out.below Ba2.out)
                rw [errD_in hltj, rdD_in _ _ hltj, curS_none, crashS_get _ _ _ hltj, crash_all sf df k (Nat.le_refl _) hltj, ← HS1.out] at hr2
                have HR2 := Lib.hid hr2; clear hr2
                refine HR2.out.mono ?_
                rintro e wb ⟨rfl, hbb⟩
                have Bb := Lib.hid (Ba2.out.trans (hbb.mono za2)); have Jb := Lib.hid (Jwa2.out.below hbb); have zb := Bb.out.size
                clear hbb
                generalize hg3 : wa.heap.size = g3 at *
                have hG3 := Lib.hid hg3; clear hg3
                go_wp2_with (first
                  | ((with_reducible refine sec_alloc secT1 HZ rfl rfl ?_); try simp only [World.size_alloc])
                  | ((with_reducible refine is_store 55 (x := .tmp 19) rfl ?_); refine sec_store secT1 rfl _ _ rfl wb.heap.size 0 s1 LS1.out rfl rfl ((Blk.new _ _ _).secThere Hz.out) ?_;
                     have bW : Below wb.heap.size wb ((wb.alloc (.cells (sc z).toArray 55)).setCells wb.heap.size 0 (sc s1)) := below_cells ((Below.refl _ _).alloc (Nat.le_refl _) _) (Nat.le_refl _) _ _;
                     have Jwb2 := Lib.hid ((Blk.new wb (sc z).toArray 55).secStore (s' := s1) (Hz.out.trans LS1.out.symm));
                     have Bb2 := Lib.hid (Bb.out.trans (bW.mono zb));
                     have Jb2 := Lib.hid (Jb.out.below bW);
                     have zb2 := Bb2.out.size; clear bW; generalize ((wb.alloc (.cells (sc z).toArray 55)).setCells wb.heap.size 0 (sc s1)) = wb2 at *))
                have hr3 := read_any y ys ym k _ _ j wb2 (Y5.out.below Bb2.out)
                rw [errD_in hltj, rdD_in _ _ hltj, curS_none, crashS_get _ _ _ hltj, crash_none, ← HS2.out] at hr3
                have HR3 := Lib.hid hr3; clear hr3
                refine HR3.out.mono ?_
                rintro e wd ⟨rfl, hbd⟩
                have Bd := Lib.hid (Bb2.out.trans (hbd.mono zb2)); have Jd := Lib.hid (Jb2.out.below hbd); have Id := Lib.hid (Jwb2.out.below hbd); have zd := Bd.out.size
                clear hbd
                generalize hg4 : wb.heap.size = g4 at *
                have hG4 := Lib.hid hg4; clear hg4
                go_wp2_with (first
                  | ((with_reducible refine sec_alloc secT1 HZ rfl rfl ?_); try simp only [World.size_alloc])
                  | ((with_reducible refine is_store 55 (x := .tmp 21) rfl ?_); refine sec_store secT1 rfl _ _ rfl wd.heap.size 0 s2 LS2.out rfl rfl ((Blk.new _ _ _).secThere Hz.out) ?_;
                     have bW : Below wd.heap.size wd ((wd.alloc (.cells (sc z).toArray 55)).setCells wd.heap.size 0 (sc s2)) := below_cells ((Below.refl _ _).alloc (Nat.le_refl _) _) (Nat.le_refl _) _ _;
                     have Jwd2 := Lib.hid ((Blk.new wd (sc z).toArray 55).secStore (s' := s2) (Hz.out.trans LS2.out.symm));
                     have Bd2 := Lib.hid (Bd.out.trans (bW.mono zd));
                     have Jd2 := Lib.hid (Jd.out.below bW);
                     have Id2 := Lib.hid (Id.out.below bW);
                     have zd2 := Bd2.out.size; clear bW; generalize ((wd.alloc (.cells (sc z).toArray 55)).setCells wd.heap.size 0 (sc s2)) = wd2 at *))
                generalize hg5 : wd.heap.size = g5 at *
                have hG5 := Lib.hid hg5; clear hg5
                have heq1 : ∀ W : World, (Op.equalIn 10000 55 (.agg (sc s1).toArray) (.agg (sc s1).toArray)).run Try.prog W = .ok true W := fun W => by
                  rw [sec_eq Try.underlying55 s1 s1 LS1.out LS1.out W]; simp
                have heq2 : ∀ W : World, (Op.equalIn 10000 55 (.agg (sc s2).toArray) (.agg (sc s2).toArray)).run Try.prog W = .ok true W := fun W => by
                  rw [sec_eq Try.underlying55 s2 s2 LS2.out LS2.out W]; simp
                have q1 := Jd2.out.sec; have q2 := Id2.out.sec; have q3 := Jwd2.out.sec; have q4 := HFR.out _ Bd2.out
                have Q1 := Lib.hid q1; have Q2 := Lib.hid q2; have Q3 := Lib.hid q3; have Q4 := Lib.hid q4
                clear q1 q2 q3 q4
                refine wp_region_still_lit (by kernel_rfl) (by kernel_rfl) ?_
                refine sec_still_w secT1 (by rfl) _ rfl g4 0 rfl s1 LS1.out Q2.out ?_
                refine sec_still_w secT1 (by rfl) _ rfl g3 0 rfl s1 LS1.out Q1.out ?_
                still_step; still_step
                refine sec_still_w secT1 (by rfl) _ rfl g5 0 rfl s2 LS2.out Q3.out ?_
                still_step; still_step; still_step
                refine sec_still_w secT1 (by rfl) _ rfl fb (j * 64) rfl s2 LS2.out Q4.out ?_
                repeat still_step
                refine wpStill_nil ?_
                go_wp2
                go_roundw
                case rel => exact ⟨j + 1, by omega, by go_num, Lib.hid Bd2.out.drew⟩
                case measure => simp [intOf]; omega
              · have hjj : j = k := by omega
                subst hjj
                have BJ := Lib.hid (B5.out.trans (hBj.out.mono z5)); have zJ := BJ.out.size
                go_wp2_with fail
                refine (alive_any _).mono ?_
                rintro e wk ⟨rfl, hbk⟩
                have Bk := Lib.hid (BJ.out.trans (hbk.mono zJ))
                clear hbk
                go_wp2
                go_ret
                exact ⟨rfl, Bk.out⟩
end Go.Proofs.Ytlgimhhhlpmjcaa
