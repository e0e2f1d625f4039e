/- DiskApart: the walk. -/
import Derived.Test.YtlgimhhhlpmjcaaDskK
set_option linter.unusedVariables false
set_option linter.unusedSimpArgs false
namespace Go.Proofs.Ytlgimhhhlpmjcaa
open Go.RowKit Go.Maps Go.WideMaps Go.Shelf

def mine4 : List Int := [109, 105, 110, 101]
def other5 : List Int := [111, 116, 104, 101, 114]

set_option maxRecDepth 100000 in
set_option maxHeartbeats 4000000 in
theorem apart_any (sec : Int) (A : Option Addr) (m c : Nat) (kA : Option Addr) (kn kc : Nat) (ks : List Bool) (w : World) (ha : RdActs w A m) (hk : RdBo w kA kn ks) :
    Calls Try.prog 10 #[.int .i64 sec, .slice A m c, .slice kA kn kc] w fun e w' => e = .returned (.bool true) ∧ Below w.heap.size w w' := by
  have HA := Lib.hid ha; have HK := Lib.hid hk; clear ha hk
  by_cases h1 : sec < 1
  · go_enter Try.func10, Try.ntmps10
    go_wp2_with fail
    refine (alive_any _).mono ?_
    rintro e w1 ⟨rfl, hb1⟩
    have B1 := Lib.hid hb1; clear hb1
    go_wp2
    go_ret
    exact ⟨rfl, B1.out⟩
  · have h1' : decide (sec < 1) = false := decide_eq_false h1
    by_cases h2 : 60 < sec
    · go_enter Try.func10, Try.ntmps10
      go_wp2_with fail
      refine (alive_any _).mono ?_
      rintro e w1 ⟨rfl, hb1⟩
      have B1 := Lib.hid hb1; clear hb1
      go_wp2
      go_ret
      exact ⟨rfl, B1.out⟩
    · obtain ⟨n, rfl⟩ := Int.eq_ofNat_of_zero_le (show 0 ≤ sec by omega)
      have hn1 : 1 ≤ n := by omega
      have hn60 : n ≤ 60 := by omega
      have h2' : decide ((60 : Int) < n) = false := decide_eq_false h2
      have hn1i : ¬ (n : Int) < 1 := h1
      have hn2i : ¬ (60 : Int) < n := h2
      obtain ⟨z, HZ, hz⟩ := zsec_named
      have Hz := Lib.hid hz; clear hz
      go_enter Try.func10, Try.ntmps10
      go_wp2_with fail
      refine (new_ok n w hn1 (by omega)).mono ?_
      rintro e w1 ⟨d, sb, mb, rfl, hD, l1, l2, l3, hb⟩
      have D1 := Lib.hid hD; have B1 := Lib.hid hb; have z1 := hb.size; clear hD hb
      generalize List.replicate n zsec = sf0 at *
      go_upto_block 0 with fail
      go_cut [9] from 38 to 67 (fun _ wc => ∃ df, Hid (DiskIs wc d sb mb n sf0 df) ∧ Hid (Below w.heap.size w wc))
      case first =>
        go_wp2_with fail
        go_loopw [9] (fun i wr => ∃ (k : Nat) (df : Int → Option Sec), k ≤ m ∧ i = .int .i64 k ∧ Hid (DiskIs wr d sb mb n sf0 df) ∧ Hid (Below w.heap.size w wr)) (fun i _ => m - (intOf i).toNat)
        case atStart => exact ⟨0, _, Nat.zero_le _, rfl, D1, B1⟩
        case round =>
          obtain ⟨k, df, hkm, rfl, hD, hB⟩ := hrel
          have zr := hB.out.size
          by_cases hlt : k < m
          · have hlt2 : (k : Int) < m := by omega
            by_cases h100 : k < 100
            · have h100i : (k : Int) < 100 := by omega
              obtain ⟨b, off, a, bA, bc, kA', kc', rfl, hact⟩ := HA.out.at hlt
              have hb0 := hact.2.2.2.2.2.2
              obtain ⟨c0, c1, c2, c3, hbB, hkK, hbl⟩ := hact.below hB.out
              clear hact
              have hk0 : (0 : Int) ≤ (k : Int) := by omega
              by_cases hlen : (a.b.length : Int) ≤ 100
              · have HBB := Lib.hid hbB; clear hbB hkK
                go_wp2
                have X2 := Lib.hid (hB.out.drew)
                have D2 : Hid (DiskIs wr.drew d sb mb n sf0 df) := Lib.hid (hD.out.keep rfl rfl rfl)
                go_region_held3 (fun W => W.cell? ⟨b, off + k * 4 + 1, none⟩ = some (.int .i64 a.i) ∧ W.cell? ⟨b, off + k * 4 + 2, none⟩ = some (.slice bA a.b.length bc)) (first | exact ⟨r1, r2⟩ | go_keep)
                  (first
                    | (go_at_call 31; refine (fill_any bA _ bc a.b _ (RdU8.keep (w' := wr.drew) HBB.out (fun _ _ _ _ => rfl) (Nat.le_refl _))).mono ?_; rintro e w4 ⟨rfl, hb4⟩
                       have r1 := (hb4.cell (p := ⟨b, off + k * 4 + 1, none⟩) hbl).trans c1; have r2 := (hb4.cell (p := ⟨b, off + k * 4 + 2, none⟩) hbl).trans c2
                       have B4 := Lib.hid (X2.out.trans (hb4.mono zr)); have D4 := Lib.hid (D2.out.below hb4); have z4 := B4.out.size; clear hb4)
                    | (go_at_call 30; refine (write_any d sb mb n sf0 df a.i (fillS a.b) w4 D4.out (fillS_len _)).mono ?_; rintro e w5 ⟨rfl, hD5, hg5⟩
                       have B5 := Lib.hid (B4.out.trans (grown_low hg5 z4 l3)); have D5 := Lib.hid hD5; have hbmb : b ≠ mb := by omega
                       have r1 := ((gcell hg5).1 b (off + k * 4 + 1) (by omega) hbmb).trans r1; have r2 := ((gcell hg5).1 b (off + k * 4 + 2) (by omega) hbmb).trans r2; clear hD5 hg5))
                go_wp2
                go_roundw
                case rel => exact ⟨k + 1, _, by omega, by go_num, D5, B5⟩
                case measure => simp [intOf]; omega
              · clear hbB hkK
                go_wp2
                go_roundw
                case rel => exact ⟨k + 1, _, by omega, by go_num, hD, hB⟩
                case measure => simp [intOf]; omega
            · have h100i : ¬ (k : Int) < 100 := by omega
              go_wp2
              go_meet
              case rel => exact ⟨df, hD, hB⟩
          · have hge : ¬ (k : Int) < m := by omega
            go_wp2
            go_meet
            case rel => exact ⟨df, hD, hB⟩
      case rest =>
        obtain ⟨df, hD, hB⟩ := hcut
        have zc := hB.out.size
        have hdl := hD.out.lt
        have HKc := Lib.hid (HK.out.below hB.out)
        obtain ⟨sm, HM⟩ : ∃ s, Hid (s = fillS mine4) := ⟨_, Lib.hid rfl⟩
        obtain ⟨so, HO⟩ : ∃ s, Hid (s = fillS other5) := ⟨_, Lib.hid rfl⟩
        have LM : Hid (sm.length = 64) := Lib.hid (by rw [HM.out]; exact fillS_len _)
        have LO : Hid (so.length = 64) := Lib.hid (by rw [HO.out]; exact fillS_len _)
        have kcv := fun (W : World) (C : Array Value) (n c : Nat) => Lib.run_convert_bytes_const (P := Try.prog) W 31 5 C n c Try.underlying31 Try.underlying5
        go_wp2_with fail
        refine (crash_any d sb mb n sf0 df kA kn kc ks wc hD.out HKc.out).mono ?_
        rintro e w6 ⟨x, xs, xm, rfl, hX, m1, m2, m3, hb⟩
        have D6 := Lib.hid (hD.out.below hb); have X6 := Lib.hid hX; have B6 := Lib.hid (hB.out.trans (hb.mono zc)); have z6 := B6.out.size; have hxl := hX.lt; have zc6 := hb.size
        clear hX hb HKc
        generalize crashS n sf0 df ks = sfx at *
        go_wp2_with fail
        refine (fill_any _ 4 4 mine4 _ (litBytes w6 mine4 4 rfl (4, 5))).mono ?_
        rintro e w7 ⟨rfl, hb⟩
        rw [← HM.out]
        have bq : Below w6.heap.size w6 (w6.alloc (.cells (sc mine4).toArray 5 (4, 5))) := (Below.refl _ _).alloc (Nat.le_refl _) _
        have b7 := bq.trans (hb.mono bq.size)
        have D7 := Lib.hid (D6.out.below b7); have X7 := Lib.hid (X6.out.below b7); have B7 := Lib.hid (B6.out.trans (b7.mono z6)); have z7 := B7.out.size; have z67 := b7.size
        clear hb bq b7 D6 X6
        go_wp2_with (first
          | ((with_reducible refine sec_alloc secT1 HZ rfl rfl ?_); try simp only [World.size_alloc])
          | ((with_reducible refine is_store 55 (x := .tmp 11) rfl ?_); refine sec_store secT1 rfl _ _ rfl w7.heap.size 0 sm LM.out rfl rfl ((Blk.new _ _ _).secThere Hz.out) ?_;
             have bW : Below w7.heap.size w7 ((w7.alloc (.cells (sc z).toArray 55)).setCells w7.heap.size 0 (sc sm)) := below_cells ((Below.refl _ _).alloc (Nat.le_refl _) _) (Nat.le_refl _) _ _;
             have Jw8 := Lib.hid ((Blk.new w7 (sc z).toArray 55).secStore (s' := sm) (Hz.out.trans LM.out.symm));
             have D8 := Lib.hid (D7.out.below bW);
             have X8 := Lib.hid (X7.out.below bW);
             have B8 := Lib.hid (B7.out.trans (bW.mono z7));
             have z8 := B8.out.size; have z78 := bW.size; clear bW; generalize ((w7.alloc (.cells (sc z).toArray 55)).setCells w7.heap.size 0 (sc sm)) = w8 at *))
        refine (fill_any _ 5 5 other5 _ (litBytes w8 other5 5 rfl (5, 6))).mono ?_
        rintro e w9 ⟨rfl, hb⟩
        rw [← HO.out]
        have bq : Below w8.heap.size w8 (w8.alloc (.cells (sc other5).toArray 5 (5, 6))) := (Below.refl _ _).alloc (Nat.le_refl _) _
        have b9 := bq.trans (hb.mono bq.size)
        have D9 := Lib.hid (D8.out.below b9); have X9 := Lib.hid (X8.out.below b9); have B9 := Lib.hid (B8.out.trans (b9.mono z8)); have K9 := Lib.hid (Jw8.out.below b9); have z9 := B9.out.size; have z89 := b9.size
        clear hb bq b9 D8 X8 Jw8
        generalize hg1 : w7.heap.size = g1 at *
        have hG1 := Lib.hid hg1; clear hg1
        have k9l := K9.out.lt
        go_wp2_with (first
          | ((with_reducible refine sec_alloc secT1 HZ rfl rfl ?_); try simp only [World.size_alloc])
          | ((with_reducible refine is_store 55 (x := .tmp 12) rfl ?_); refine sec_store secT1 rfl _ _ rfl w9.heap.size 0 so LO.out rfl rfl ((Blk.new _ _ _).secThere Hz.out) ?_;
             have bW : Below w9.heap.size w9 ((w9.alloc (.cells (sc z).toArray 55)).setCells w9.heap.size 0 (sc so)) := below_cells ((Below.refl _ _).alloc (Nat.le_refl _) _) (Nat.le_refl _) _ _;
             have Jw10 := Lib.hid ((Blk.new w9 (sc z).toArray 55).secStore (s' := so) (Hz.out.trans LO.out.symm));
             have D10 := Lib.hid (D9.out.below bW);
             have X10 := Lib.hid (X9.out.below bW);
             have B10 := Lib.hid (B9.out.trans (bW.mono z9));
             have K10 := Lib.hid (K9.out.below bW);
             have z10 := B10.out.size; have z910 := bW.size; clear bW; generalize ((w9.alloc (.cells (sc z).toArray 55)).setCells w9.heap.size 0 (sc so)) = w10 at *))
        generalize hg2 : w9.heap.size = g2 at *
        have hG2 := Lib.hid hg2; clear hg2 kcv
        have j10 := Jw10.out.lt
        go_loopw [13] (fun i wr => ∃ (k : Nat) (df dfx : Int → Option Sec), k ≤ n ∧ i = .int .i64 k ∧ Hid (DiskIs wr d sb mb n sf0 df) ∧ Hid (AllTo df k sm) ∧ Hid (DiskIs wr x xs xm n sfx dfx) ∧ Hid (AllTo dfx k so) ∧ Hid (Blk wr g1 (sc sm).toArray 55) ∧ Hid (Blk wr g2 (sc so).toArray 55) ∧ Hid (Below w.heap.size w wr)) (fun i _ => n - (intOf i).toNat)
        case atStart => exact ⟨0, _, _, Nat.zero_le _, rfl, D10, Lib.hid (fun j hj => by omega), X10, Lib.hid (fun j hj => by omega), K10, Jw10, B10⟩
        case round =>
          obtain ⟨k, df1, dfx, hkn, rfl, hD1, hA1, hX1, hA2, hK1, hK2, hB1⟩ := hrel
          have zr := hB1.out.size
          by_cases hlt : k < n
          · have hlt2 : (k : Int) < n := by omega
            have hw1 := write_any d sb mb n sf0 df1 k sm wr hD1.out LM.out
            rw [errD_in hlt, wrD_in df1 sm hlt] at hw1
            have HW1 := Lib.hid hw1; clear hw1
            go_wp2_with (first
              | ((with_reducible refine is_load 55 (x := .tmp 11) rfl ?_); refine sec_load secT1 rfl _ rfl g1 0 rfl sm LM.out hK1.out.sec ?_))
            refine HW1.out.mono ?_
            rintro e wa ⟨rfl, hDa, hga⟩
            have Da := Lib.hid hDa; have Ba := Lib.hid (hB1.out.trans (grown_low hga zr l3))
            have Xa := Lib.hid (hX1.out.grown hga (by omega) (by omega) (by omega))
            have K1a := Lib.hid (hK1.out.grown hga (by simp; omega)); have K2a := Lib.hid (hK2.out.grown hga (by simp; omega))
            have za := Ba.out.size
            clear hDa hga hK1 hK2 hX1 hD1
            have hw2 := write_any x xs xm n sfx dfx k so wa Xa.out LO.out
            rw [errD_in hlt, wrD_in dfx so hlt] at hw2
            have HW2 := Lib.hid hw2; clear hw2
            go_wp2_with (first
              | ((with_reducible refine is_load 55 (x := .tmp 12) rfl ?_); refine sec_load_w secT1 (by rfl) _ rfl g2 0 rfl so LO.out K2a.out.sec ?_))
            refine HW2.out.mono ?_
            rintro e wb ⟨rfl, hXb, hgb⟩
            have Xb := Lib.hid hXb; have Bb := Lib.hid (Ba.out.trans (grown_low hgb za (by omega)))
            have Db := Lib.hid (Da.out.grown hgb (by omega) (by omega) (by omega))
            have K1b := Lib.hid (K1a.out.grown hgb (by simp; omega)); have K2b := Lib.hid (K2a.out.grown hgb (by simp; omega))
            clear hXb hgb
            go_wp2
            go_roundw
            case rel => exact ⟨k + 1, _, _, by omega, by go_num, Db, Lib.hid hA1.out.succ, Xb, Lib.hid hA2.out.succ, K1b, K2b, Bb⟩
            case measure => simp [intOf]; omega
          · have hkk : k = n := by omega
            subst hkk
            go_wp2_with fail
            refine (flush_any x xs xm k sfx dfx wr hX1.out).mono ?_
            rintro e w11 ⟨rfl, hXf, hkf⟩
            have X11 := Lib.hid hXf; have B11 := Lib.hid (hB1.out.trans (hkf.low zr (by omega) (by omega)))
            have D11 := Lib.hid (hD1.out.kept hkf (by omega) (by omega) (by omega))
            have K11 := Lib.hid (hK1.out.kept hkf (by omega)); have J11 := Lib.hid (hK2.out.kept hkf (by omega))
            have z11 := B11.out.size
            clear hXf hkf hK1 hK2
            go_wp2_with fail
            refine (crash_any x xs xm k (flushS k sfx dfx) (fun _ => none) none 0 0 [] w11 X11.out (RdBo.nil _ _)).mono ?_
            rintro e w12 ⟨y, ys, ym, rfl, hY, n1, n2, n3, hb⟩
            have Y12 := Lib.hid hY; have D12 := Lib.hid (D11.out.below hb); have B12 := Lib.hid (B11.out.trans (hb.mono z11)); have K12 := Lib.hid (K11.out.below hb); have J12 := Lib.hid (J11.out.below hb); have z12 := B12.out.size
            clear hY hb X11 D11 K11 J11
            have heqm : ∀ W : World, (Op.equalIn 10000 55 (.agg (sc sm).toArray) (.agg (sc sm).toArray)).run Try.prog W = .ok true W := fun W => by
              rw [sec_eq Try.underlying55 sm sm LM.out LM.out W]; simp
            have heqo : ∀ W : World, (Op.equalIn 10000 55 (.agg (sc so).toArray) (.agg (sc so).toArray)).run Try.prog W = .ok true W := fun W => by
              rw [sec_eq Try.underlying55 so so LO.out LO.out W]; simp
            go_wp2_with fail
            obtain ⟨wo, rfl⟩ : ∃ wo : World, wo = wr := ⟨_, rfl⟩
            go_loopw [15] (fun i wr => ∃ j : Nat, j ≤ k ∧ i = .int .i64 j ∧ Hid (Below w12.heap.size w12 wr)) (fun i _ => k - (intOf i).toNat)
            case atStart => exact ⟨0, Nat.zero_le _, rfl, Lib.hid (Below.refl _ _)⟩
            case round =>
              obtain ⟨j, hjk, rfl, hBj⟩ := hrel
              have zj := hBj.out.size
              by_cases hltj : j < k
              · have hltj2 : (j : Int) < k := by omega
                have hr1 := read_any d sb mb k sf0 df1 j wr (D12.out.below hBj.out)
                rw [errD_in hltj, rdD_in sf0 df1 hltj, hA1.out.cur sf0 hltj] at hr1
                have HR1 := Lib.hid hr1; clear hr1
                go_wp2_with fail
                refine HR1.out.mono ?_
                rintro e wa ⟨rfl, hba⟩
                have Ba := Lib.hid (hBj.out.trans (hba.mono zj)); have za := Ba.out.size
                clear hba
                go_wp2_with (first
                  | ((with_reducible refine sec_alloc secT1 HZ rfl rfl ?_); try simp only [World.size_alloc])
                  | ((with_reducible refine is_store 55 (x := .tmp 16) rfl ?_); refine sec_store secT1 rfl _ _ rfl wa.heap.size 0 sm LM.out rfl rfl ((Blk.new _ _ _).secThere Hz.out) ?_;
                     have bW : Below wa.heap.size wa ((wa.alloc (.cells (sc z).toArray 55)).setCells wa.heap.size 0 (sc sm)) := below_cells ((Below.refl _ _).alloc (Nat.le_refl _) _) (Nat.le_refl _) _ _;
                     have Jwa2 := Lib.hid ((Blk.new wa (sc z).toArray 55).secStore (s' := sm) (Hz.out.trans LM.out.symm));
                     have Ba2 := Lib.hid (Ba.out.trans (bW.mono za));
                     have za2 := Ba2.out.size; clear bW; generalize ((wa.alloc (.cells (sc z).toArray 55)).setCells wa.heap.size 0 (sc sm)) = wa2 at *))
                have hr2 := read_any y ys ym k _ _ j wa2 (Y12.out.below Ba2.out)
                have ecr : curS (crashS k (flushS k sfx dfx) (fun _ => none) []) (fun _ => none) j = so := by
                  rw [curS_none, crashS_get _ _ _ hltj, crash_none, flushS_get _ _ hltj]
                  exact hA2.out.cur sfx hltj
                rw [errD_in hltj, rdD_in _ _ hltj, ecr] at hr2
                have HR2 := Lib.hid hr2; clear hr2 ecr
                refine HR2.out.mono ?_
                rintro e wb ⟨rfl, hbb⟩
                have Bb := Lib.hid (Ba2.out.trans (hbb.mono za2)); have Jb := Lib.hid (Jwa2.out.below hbb); have zb := Bb.out.size
                clear hbb
                generalize hg3 : wa.heap.size = g3 at *
                have hG3 := Lib.hid hg3; clear hg3
                go_wp2_with (first
                  | ((with_reducible refine sec_alloc secT1 HZ rfl rfl ?_); try simp only [World.size_alloc])
                  | ((with_reducible refine is_store 55 (x := .tmp 18) rfl ?_); refine sec_store secT1 rfl _ _ rfl wb.heap.size 0 so LO.out rfl rfl ((Blk.new _ _ _).secThere Hz.out) ?_;
                     have bW : Below wb.heap.size wb ((wb.alloc (.cells (sc z).toArray 55)).setCells wb.heap.size 0 (sc so)) := below_cells ((Below.refl _ _).alloc (Nat.le_refl _) _) (Nat.le_refl _) _ _;
                     have Jwb2 := Lib.hid ((Blk.new wb (sc z).toArray 55).secStore (s' := so) (Hz.out.trans LO.out.symm));
                     have Bb2 := Lib.hid (Bb.out.trans (bW.mono zb));
                     have Jb2 := Lib.hid (Jb.out.below bW);
                     have zwb2 := bW.size; clear bW; generalize ((wb.alloc (.cells (sc z).toArray 55)).setCells wb.heap.size 0 (sc so)) = wb2 at *)
                  | ((with_reducible refine is_load 55 (x := .tmp 16) rfl ?_); refine sec_load secT1 rfl _ rfl g3 0 rfl sm LM.out Jb2.out.sec ?_)
                  | ((with_reducible refine is_load 55 (x := .tmp 11) rfl ?_); refine sec_load secT1 rfl _ rfl g1 0 rfl sm LM.out (K12.out.below Bb2.out).sec ?_)
                  | ((with_reducible refine is_load 55 (x := .tmp 18) rfl ?_); refine sec_load_w secT1 (by rfl) _ rfl wb.heap.size 0 rfl so LO.out Jwb2.out.sec ?_)
                  | ((with_reducible refine is_load 55 (x := .tmp 12) rfl ?_); refine sec_load_w secT1 (by rfl) _ rfl g2 0 rfl so LO.out (J12.out.below Bb2.out).sec ?_))
                go_roundw
                case rel => exact ⟨j + 1, by omega, by go_num, Bb2⟩
                case measure => simp [intOf]; omega
              · have hjj : j = k := by omega
                subst hjj
                have BJ := Lib.hid (B12.out.trans (hBj.out.mono z12)); have zJ := BJ.out.size
                have DJ := Lib.hid (D12.out.below hBj.out); have YJ := Lib.hid (Y12.out.below hBj.out)
                clear heqm heqo
                go_wp2_with fail
                refine (alive_any _).mono ?_
                rintro e wk ⟨rfl, hbk⟩
                have Bk := Lib.hid (BJ.out.trans (hbk.mono zJ)); have Dk := Lib.hid (DJ.out.below hbk); have Yk := Lib.hid (YJ.out.below hbk); have zk := Bk.out.size
                clear hbk
                go_wp2_with fail
                refine (dirty_any d sb mb j sf0 df1 wk Dk.out).mono ?_
                rintro e wl ⟨va, vc, rfl, -, hbl⟩
                rw [hA1.out.dirty]
                have Bl := Lib.hid (Bk.out.trans (hbl.mono zk)); have Yl := Lib.hid (Yk.out.below hbl); have zl := Bl.out.size
                clear hbl
                go_wp2_with fail
                refine (dirty_any y ys ym j _ _ wl Yl.out).mono ?_
                rintro e wm ⟨va', vc', rfl, -, hbm⟩
                rw [dirtyI_none]
                have Bm := Lib.hid (Bl.out.trans (hbm.mono zl))
                clear hbm
                go_wp2
                go_ret
                exact ⟨rfl, Bm.out⟩
end Go.Proofs.Ytlgimhhhlpmjcaa
