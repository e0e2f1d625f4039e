/- DiskPlays: the walk (printed by genPlays.py). -/
import Derived.Test.YtlgimhhhlpmjcaaRfG
set_option linter.unusedVariables false
set_option linter.unusedSimpArgs false
namespace Go.Proofs.Ytlgimhhhlpmjcaa
open Go.RowKit Go.Maps Go.WideMaps Go.Shelf

theorem vactInfo : (Try.prog.info? 52).map (·.size) = some 4 := by kernel_rfl
theorem gA_ne {w : World} {d sb mb m ab bb cb n g : Nat} {sf : List Sec} {df : Int → Option Sec} {cs : Array Value} (h : BothIs w d sb mb m ab bb cb n sf df) (hg : Blk w g cs 52) : g ≠ mb ∧ g ≠ ab ∧ g ≠ cb := by
  obtain ⟨⟨ca, ha⟩, _⟩ := h.r.a
  exact ⟨h.d.map.ne hg, blk_ne hg ha (by decide), blk_ne hg h.r.c (by decide)⟩
theorem gA_ne3 {w : World} {d sb mb m ab bb cb n g : Nat} {sf : List Sec} {df : Int → Option Sec} {cs : Array Value} (h : BothIs w d sb mb m ab bb cb n sf df) (hg : Blk w g cs 52) : g ≠ sb ∧ g ≠ bb ∧ g ≠ cb := by
  obtain ⟨⟨ca, ha⟩, _⟩ := h.d.safe
  obtain ⟨⟨cv, hb⟩, _⟩ := h.r.b
  exact ⟨blk_ne hg ha (by decide), blk_ne hg hb (by decide), blk_ne hg h.r.c (by decide)⟩
theorem rdD_len {w : World} {d sb mb n : Nat} {sf : List Sec} {df : Int → Option Sec} (h : DiskIs w d sb mb n sf df) (i : Int) : (rdD n sf df i).length = 64 := by
  unfold rdD
  cases hi : inD n i with
  | true =>
    obtain ⟨k, rfl, hk⟩ := inD_true hi
    exact curS_len h.len h.each h.sup hk
  | false => exact zsec_len
set_option maxRecDepth 100000 in
set_option maxHeartbeats 8000000 in
theorem plays_any (sec : Int) (A : Option Addr) (q c : Nat) (w : World) (ha : RdActs w A q) :
    Calls Try.prog 6 #[.int .i64 sec, .slice A q c] w fun e w' => e = .returned (.bool true) ∧ Below w.heap.size w w' := by
  have HA := Lib.hid ha; clear ha
  by_cases hbad : sec < 1 ∨ 1024 < sec
  · have hnb := new_bad sec w hbad
    have hmb := made_bad sec w hbad
    have HNB := Lib.hid hnb; have HMB := Lib.hid hmb; clear hnb hmb hbad
    go_enter Try.func6, Try.ntmps6
    go_wp2_with fail
    refine HNB.out.mono ?_
    rintro e w1 ⟨rfl, rfl⟩
    go_wp2_with fail
    refine HMB.out.mono ?_
    rintro e w1 ⟨rfl, rfl⟩
    go_wp2_with fail
    refine (alive_any _).mono ?_
    rintro e w2 ⟨rfl, hb1⟩
    have B1 := Lib.hid hb1; clear hb1
    go_wp2
    go_ret
    exact ⟨rfl, B1.out⟩
  · obtain ⟨n, rfl⟩ := Int.eq_ofNat_of_zero_le (show 0 ≤ sec by omega)
    have hn1 : 1 ≤ n := by omega
    have hn2 : n ≤ 1024 := by omega
    clear hbad
    obtain ⟨z, HZ, hz⟩ := zsec_named
    have Hz := Lib.hid hz; clear hz
    go_enter Try.func6, Try.ntmps6
    go_wp2_with fail
    refine (new_ok n w hn1 hn2).mono ?_
    rintro e w1 ⟨d0, sb0, mb0, rfl, hD, l1, l2, l3, hb⟩
    have D1 := Lib.hid hD; have B1 := Lib.hid hb; have z1 := hb.size; clear hD hb
    go_wp2_with fail
    refine (made_ok n w1 hn1 hn2).mono ?_
    rintro e w2 ⟨m0, ab0, bb0, cb0, rfl, hR, l4, l5, l6, l7, hb⟩
    have H2 : Hid (BothIs w2 d0 sb0 mb0 m0 ab0 bb0 cb0 n (List.replicate n zsec) (fun _ => none)) := Lib.hid ⟨D1.out.below hb, by rw [flushS_none (by simp), isDs_none]; exact hR⟩
    have B2 := Lib.hid (B1.out.trans (hb.mono z1)); have z2 := B2.out.size
    have A2 : Hid (Above w.heap.size d0 sb0 mb0 m0 ab0 bb0 cb0) := Lib.hid ⟨l1, l2, l3, by omega, by omega, by omega, by omega⟩
    clear hR hb l1 l2 l3 l4 l5 l6 l7 D1
    go_upto_block 0 with fail
    go_cut [5, 7, 9] from 44 to 145 (fun _ _ _ wc => Hid (Below w.heap.size w wc))
    case first =>
      go_wp2_with fail
      go_loopw [5, 7, 9, 10, 11, 12, 13, 14, 15, 16] (fun vd vm i _ _ _ _ _ _ _ wr => ∃ (k d sb mb m ab bb cb : Nat) (sf : List Sec) (df : Int → Option Sec), k ≤ q ∧ i = .int .i64 k ∧ vd = .pointer (some ⟨d, 0, none⟩) ∧ vm = .pointer (some ⟨m, 0, none⟩) ∧ Hid (BothIs wr d sb mb m ab bb cb n sf df) ∧ Hid (Above w.heap.size d sb mb m ab bb cb) ∧ Hid (Below w.heap.size w wr)) (fun _ _ i _ _ _ _ _ _ _ _ => q - (intOf i).toNat)
      case atStart => exact ⟨0, _, _, _, _, _, _, _, _, _, Nat.zero_le _, rfl, rfl, rfl, H2, A2, B2⟩
      case round =>
        obtain ⟨k, d, sb, mb, m, ab, bb, cb, sf, df, hkq, rfl, rfl, rfl, hH, hA, hB⟩ := hrel
        have zr := hB.out.size
        by_cases hlt : k < q
        · have hlt2 : (k : Int) < q := by omega
          by_cases h100 : k < 100
          · have h100i : (k : Int) < 100 := by omega
            have hk0 : (0 : Int) ≤ (k : Int) := by omega
            obtain ⟨b, off, a, bA, bc, kA, kc, rfl, hact⟩ := HA.out.at hlt
            have hact0 := hact
            obtain ⟨c0, c1, c2, c3, hbB, hkK, hbl⟩ := hact.below hB.out
            clear hact
            have HBB := Lib.hid hbB; have HKK := Lib.hid hkK; clear hbB hkK
            have HB0 := Lib.hid hact0.2.2.2.2.1
            have BL0 := Lib.hid (Blk.new wr #[.int .i64 a.kind, .int .i64 a.i, .slice bA a.b.length bc, .slice kA a.keep.length kc] 52)
            have bq : Below wr.heap.size wr (wr.alloc (.cells #[.int .i64 a.kind, .int .i64 a.i, .slice bA a.b.length bc, .slice kA a.keep.length kc] 52)) := (Below.refl _ _).alloc (Nat.le_refl _) _
            have BQ := Lib.hid bq; clear bq
            obtain ⟨skip, HSK⟩ : ∃ sk : Bool, Hid (sk = (decide (100 < (a.b.length : Int)) || (decide ((0 : Int) < k) && decide ((60 : Int) < n)))) := ⟨_, Lib.hid rfl⟩
            go_upto_region 11 with fail
            generalize hgA : wr.heap.size = gA at *
            have HGA := Lib.hid hgA; clear hgA
            generalize wr.alloc (.cells #[.int .i64 a.kind, .int .i64 a.i, .slice bA a.b.length bc, .slice kA a.keep.length kc] 52) = wA at *
            have g2 := BL0.out.cell 2
            simp at g2
            go_cut [71] from 60 to 70 (fun v wc => v = .bool skip ∧ Hid (Below gA wr wc) ∧ Hid (Blk wc gA #[.int .i64 a.kind, .int .i64 a.i, .slice bA a.b.length bc, .slice kA a.keep.length kc] 52))
            case first =>
              by_cases hl : (100 : Int) < (a.b.length : Int)
              · have e : skip = true := by rw [HSK.out]; simp [hl]
                subst e
                go_wp2
                go_meet
                case rel => exact ⟨rfl, BQ, BL0⟩
              · have hl' : decide ((100 : Int) < (a.b.length : Int)) = false := decide_eq_false hl
                by_cases hk1 : (0 : Int) < (k : Int)
                · have e : skip = decide ((60 : Int) < n) := by rw [HSK.out, hl', decide_eq_true hk1]; simp only [Bool.false_or, Bool.true_and]
                  subst e
                  go_wp2
                  go_meet
                  case rel => exact ⟨by simp, BQ, BL0⟩
                · have hk1' : decide ((0 : Int) < (k : Int)) = false := decide_eq_false hk1
                  have e : skip = false := by rw [HSK.out, hl', hk1']; rfl
                  subst e
                  go_wp2
                  go_meet
                  case rel => exact ⟨rfl, BQ, BL0⟩
            case rest =>
              obtain ⟨rfl, hBw, hAct⟩ := hcut
              clear g2 BL0 BQ
              have hgl := hAct.out.lt
              have bw : Below wr.heap.size wr wc := by rw [HGA.out]; exact hBw.out
              have zgA : gA ≤ wc.heap.size := by omega
              have zrA : w.heap.size ≤ gA := zr
              have zr0 : w.heap.size ≤ wr.heap.size := hB.out.size
              have HHc := Lib.hid (hH.out.below bw); have HBc := Lib.hid (hB.out.trans (bw.mono zr0)); have BBc := Lib.hid (HBB.out.below bw); have KKc := Lib.hid (HKK.out.below bw); have zc := HBc.out.size
              clear bw
              cases skip with
              | true =>
                go_wp2
                go_roundw
                case rel => exact ⟨k + 1, _, _, _, _, _, _, _, _, _, by omega, by go_num, rfl, rfl, HHc, hA, HBc⟩
                case measure => simp [intOf]; omega
              | false =>
                have hl100 : a.b.length ≤ 100 := by
                  have := HSK.out
                  simp at this
                  omega
                have g0 := hAct.out.cell 0; have g1 := hAct.out.cell 1; have g2 := hAct.out.cell 2; have g3 := hAct.out.cell 3
                simp at g0 g1 g2 g3
                go_upto_block 2 with fail
                go_cut [5, 7, 11, 12] from 72 to 111 (fun vd vm v11 _ wd => v11 = .bool true ∧ ∃ (d' sb' mb' m' ab' bb' cb' : Nat) (sf' : List Sec) (df' : Int → Option Sec), vd = .pointer (some ⟨d', 0, none⟩) ∧ vm = .pointer (some ⟨m', 0, none⟩) ∧ Hid (BothIs wd d' sb' mb' m' ab' bb' cb' n sf' df') ∧ Hid (Above w.heap.size d' sb' mb' m' ab' bb' cb') ∧ Hid (Blk wd gA #[.int .i64 a.kind, .int .i64 a.i, .slice bA a.b.length bc, .slice kA a.keep.length kc] 52) ∧ Hid (Below w.heap.size w wd))
                case first =>
                  have hab := hA.out
                  unfold Above at hab
                  obtain ⟨a1, a2, a3, a4, a5, a6, a7⟩ := hab
                  have NS := Lib.hid HHc.out.ns
                  have NG3 := Lib.hid (gA_ne3 HHc.out hAct.out)
                  have hlts := HHc.out.d.lt; have hrts := HHc.out.r.lt
                  by_cases h1 : a.kind = 1
                  · have h1b : (a.kind == 1) = true := by rw [h1]; rfl
                    clear h1
                    have DD : Hid (DiskIs wc.drew d sb mb n sf df) := Lib.hid (HHc.out.d.keep rfl rfl rfl)
                    have RR : Hid (RefIs wc.drew m ab bb cb n (flushS n sf df) sf (isDs n df)) := Lib.hid (HHc.out.r.keep rfl rfl rfl rfl)
                    have UU : Hid (RdU8 w bA a.b.length a.b) := HB0
                    have LL := Lib.hid HBc.out.drew
                    have KK : Hid (Blk wc.drew gA #[.int .i64 a.kind, .int .i64 a.i, .slice bA a.b.length bc, .slice kA a.keep.length kc] 52) := hAct
                    have r1 : wc.drew.cell? ⟨gA, 1, none⟩ = some (.int .i64 a.i) := g1
                    have r2 : wc.drew.cell? ⟨gA, 2, none⟩ = some (.slice bA a.b.length bc) := g2
                    have ZZ : w.heap.size ≤ wc.drew.heap.size := LL.out.size
                    have NG := Lib.hid (gA_ne HHc.out hAct.out)
                    go_wp2_with fail
                    go_region_held3 (fun W => W.cell? ⟨gA, 1, none⟩ = some (.int .i64 a.i) ∧ W.cell? ⟨gA, 2, none⟩ = some (.slice bA a.b.length bc)) (first | exact ⟨r1, r2⟩ | go_keep)
                      (first
                        | (go_at_call 31; refine (fill_any bA _ bc a.b _ (UU.out.below LL.out)).mono ?_; rintro e wn ⟨rfl, hbn⟩
                           have DD := Lib.hid (DD.out.below hbn); have RR := Lib.hid (RR.out.below hbn); have KK := Lib.hid (KK.out.below hbn); have LL := Lib.hid (LL.out.trans (hbn.mono ZZ)); have ZZ := LL.out.size
                           have r1 := KK.out.cell 1; have r2 := KK.out.cell 2; simp at r1 r2; clear hbn)
                        | (go_at_call 33; refine (rfill_any bA _ bc a.b _ (UU.out.below LL.out) hl100).mono ?_; rintro e wn ⟨rfl, hbn⟩
                           have DD := Lib.hid (DD.out.below hbn); have RR := Lib.hid (RR.out.below hbn); have KK := Lib.hid (KK.out.below hbn); have LL := Lib.hid (LL.out.trans (hbn.mono ZZ)); have ZZ := LL.out.size
                           have r1 := KK.out.cell 1; have r2 := KK.out.cell 2; simp at r1 r2; clear hbn)
                        | (go_at_call 30; refine (write_any d sb mb n sf df a.i (fillS a.b) _ DD.out (fillS_len _)).mono ?_; rintro e wn ⟨rfl, hDn, hgn⟩
                           have DD := Lib.hid hDn; have RR := Lib.hid (RR.out.grown hgn NS.out.2.2.1 NS.out.2.2.2.1 NS.out.2.2.2.2.1 NS.out.2.2.2.2.2); have KK := Lib.hid (KK.out.grown hgn (fun e => NG.out.1 (Option.some.inj e))); have LL := Lib.hid (LL.out.trans (grown_low hgn ZZ a3)); have ZZ := LL.out.size
                           have r1 := KK.out.cell 1; have r2 := KK.out.cell 2; simp at r1 r2; clear hDn hgn)
                        | (go_at_call 32; refine (rwrite_any m ab bb cb n sf df a.i (fillS a.b) _ RR.out (fillS_len _)).mono ?_; rintro e wn ⟨rfl, hRn, hkn⟩
                           have RR := Lib.hid hRn; have DD := Lib.hid (DD.out.kept hkn (fun e => e.elim NS.out.1.2.1 NS.out.1.2.2.2) (fun e => e.elim NS.out.2.1.2.1 NS.out.2.1.2.2.2) (fun e => e.elim (fun h => NS.out.2.2.2.1 h.symm) (fun h => NS.out.2.2.2.2.2 h.symm))); have KK := Lib.hid (KK.out.kept hkn (fun e => e.elim NG.out.2.1 NG.out.2.2)); have LL := Lib.hid (LL.out.trans (hkn.below ZZ (fun x e => e.elim (fun h => by omega) (fun h => by omega)))); have ZZ := LL.out.size
                           have r1 := KK.out.cell 1; have r2 := KK.out.cell 2; simp at r1 r2; clear hRn hkn))
                    all_goals go_wp2_with fail
                    all_goals go_meet
                    case rel => exact ⟨by simp, d, sb, mb, m, ab, bb, cb, sf, _, rfl, rfl, Lib.hid ⟨DD.out, RR.out⟩, hA, KK, LL⟩
                    all_goals (case rel => exact ⟨by simp, d, sb, mb, m, ab, bb, cb, sf, _, rfl, rfl, Lib.hid ⟨DD.out, RR.out⟩, hA, KK, LL⟩)
                  · have h1b : (a.kind == 1) = false := by simpa using h1
                    by_cases h2 : a.kind = 2
                    · have h2b : (a.kind == 2) = true := by rw [h2]; rfl
                      clear h2
                      go_wp2_with fail
                      refine (flush_any d sb mb n sf df wc HHc.out.d).mono ?_
                      rintro e wd ⟨rfl, hD, hk⟩
                      have Dd := Lib.hid hD; have Rd := Lib.hid (HHc.out.r.kept hk (fun e => e.elim (fun h => NS.out.2.1.1 h.symm) NS.out.2.2.1) (fun e => e.elim (fun h => NS.out.2.1.2.1 h.symm) NS.out.2.2.2.1) (fun e => e.elim (fun h => NS.out.2.1.2.2.1 h.symm) NS.out.2.2.2.2.1) (fun e => e.elim (fun h => NS.out.2.1.2.2.2 h.symm) NS.out.2.2.2.2.2))
                      have NG := gA_ne HHc.out hAct.out
                      have Kd := Lib.hid (hAct.out.kept hk (fun e => e.elim NG3.out.1 NG.1)); have Ld := Lib.hid (HBc.out.trans (hk.low zc a2 a3)); have zd := Ld.out.size
                      clear hD hk NG
                      go_wp2_with fail
                      refine (rflush_any m ab bb cb n _ _ _ wd Rd.out).mono ?_
                      rintro e we ⟨rfl, hR, hk⟩
                      have Re := Lib.hid hR; have De := Lib.hid (Dd.out.kept hk (fun e => e.elim NS.out.1.2.2.1 NS.out.1.2.2.2) (fun e => e.elim NS.out.2.1.2.2.1 NS.out.2.1.2.2.2) (fun e => e.elim (fun h => NS.out.2.2.2.2.1 h.symm) (fun h => NS.out.2.2.2.2.2 h.symm)))
                      have Ke := Lib.hid (Kd.out.kept hk (fun e => e.elim NG3.out.2.1 NG3.out.2.2)); have Le := Lib.hid (Ld.out.trans (hk.below zd (fun x e => e.elim (fun h => by omega) (fun h => by omega))))
                      clear hR hk
                      go_wp2_with fail
                      go_meet
                      case rel => exact ⟨rfl, d, sb, mb, m, ab, bb, cb, _, _, rfl, rfl, Lib.hid ⟨De.out, by rw [isDs_none, flushS_none (flushS_len _ _ _)]; exact Re.out⟩, hA, Ke, Le⟩
                    · have h2b : (a.kind == 2) = false := by simpa using h2
                      by_cases h3 : a.kind = 3
                      · have h3b : (a.kind == 3) = true := by rw [h3]; rfl
                        clear h3
                        go_wp2_with fail
                        refine (crash_any d sb mb n sf df kA a.keep.length kc a.keep wc HHc.out.d KKc.out).mono ?_
                        rintro e wd ⟨x, xs, xm, rfl, hX, x1, x2, x3, hb⟩
                        have Xd := Lib.hid hX; have Hd := Lib.hid (HHc.out.below hb); have Kd := Lib.hid (hAct.out.below hb); have Ld := Lib.hid (HBc.out.trans (hb.mono zc)); have KKd := Lib.hid (KKc.out.below hb); have zd := Ld.out.size; have zcd := hb.size
                        clear hX hb
                        have g3 := Kd.out.cell 3
                        simp at g3
                        go_wp2_with fail
                        refine (alike_any d sb mb m ab bb cb n sf df wd Hd.out).mono ?_
                        rintro e we ⟨rfl, hb⟩
                        have Xe := Lib.hid (Xd.out.below hb); have He := Lib.hid (Hd.out.below hb); have Ke := Lib.hid (Kd.out.below hb); have Le := Lib.hid (Ld.out.trans (hb.mono zd)); have KKe := Lib.hid (KKd.out.below hb); have ze := Le.out.size; have zde := hb.size
                        clear hb g3
                        have g3 := Ke.out.cell 3
                        simp at g3
                        have hkl := Ke.out.lt
                        go_wp2_with fail
                        refine (rcrash_any m ab bb cb n sf df kA a.keep.length kc a.keep we He.out.r KKe.out hn1 He.out.d.sup).mono ?_
                        rintro e wf ⟨y, ya, yb, yc, rfl, hY, y1, y2, y3, y4, hb⟩
                        have Yf := Lib.hid hY; have Xf := Lib.hid (Xe.out.below hb); have Kf := Lib.hid (Ke.out.below hb); have Lf := Lib.hid (Le.out.trans (hb.mono ze))
                        clear hY hb
                        go_wp2_with fail
                        go_meet
                        case rel => exact ⟨rfl, x, xs, xm, y, ya, yb, yc, _, _, rfl, rfl, Lib.hid ⟨Xf.out, by rw [isDs_none, flushS_none (crashS_len _ _ _ _)]; exact Yf.out⟩, Lib.hid ⟨by omega, by omega, by omega, by omega, by omega, by omega, by omega⟩, Kf, Lf⟩
                      · have h3b : (a.kind == 3) = false := by simpa using h3
                        go_wp2_with fail
                        go_meet
                        case rel => exact ⟨rfl, d, sb, mb, m, ab, bb, cb, sf, df, rfl, rfl, HHc, hA, hAct, HBc⟩
                case rest =>
                  obtain ⟨rfl, d', sb', mb', m', ab', bb', cb', sf', df', rfl, rfl, hH', hA', hAct', hB'⟩ := hcut
                  have z' := hB'.out.size
                  clear g0 g1 g2 g3
                  have g1 := hAct'.out.cell 1
                  simp at g1
                  have hgl' := hAct'.out.lt
                  go_wp2_with fail
                  refine (read_any d' sb' mb' n sf' df' a.i _ hH'.out.d).mono ?_
                  rintro e wf ⟨rfl, hb⟩
                  have Hf := Lib.hid (hH'.out.below hb); have Kf := Lib.hid (hAct'.out.below hb); have Lf := Lib.hid (hB'.out.trans (hb.mono z')); have zf := Lf.out.size
                  have LS1 : Hid ((rdD n sf' df' a.i).length = 64) := Lib.hid (rdD_len hH'.out.d a.i)
                  clear hb g1
                  generalize rdD n sf' df' a.i = s1 at *
                  obtain ⟨er, HER⟩ : ∃ x, Hid (x = errD n a.i) := ⟨_, Lib.hid rfl⟩
                  rw [← HER.out]
                  go_wp2_with (first
                    | ((with_reducible refine sec_alloc secT1 HZ rfl rfl ?_); try simp only [World.size_alloc])
                    | ((with_reducible refine is_store 55 (x := .tmp 13) rfl ?_); refine sec_store secT1 rfl _ _ rfl wf.heap.size 0 s1 LS1.out rfl rfl ((Blk.new _ _ _).secThere Hz.out) ?_;
                       have bW : Below wf.heap.size wf ((wf.alloc (.cells (sc z).toArray 55)).setCells wf.heap.size 0 (sc s1)) := below_cells ((Below.refl _ _).alloc (Nat.le_refl _) _) (Nat.le_refl _) _ _;
                       have Jwg := Lib.hid ((Blk.new wf (sc z).toArray 55).secStore (s' := s1) (Hz.out.trans LS1.out.symm));
                       have Hg := Lib.hid (Hf.out.below bW);
                       have Kg := Lib.hid (Kf.out.below bW);
                       have Lg := Lib.hid (Lf.out.trans (bW.mono zf));
                       have zg := Lg.out.size; clear bW; generalize ((wf.alloc (.cells (sc z).toArray 55)).setCells wf.heap.size 0 (sc s1)) = wg at *))
                  refine (alike_any d' sb' mb' m' ab' bb' cb' n sf' df' wg Hg.out).mono ?_
                  rintro e wh ⟨rfl, hb⟩
                  have Hh := Lib.hid (Hg.out.below hb); have Kh := Lib.hid (Kg.out.below hb); have Lh := Lib.hid (Lg.out.trans (hb.mono zg)); have zh := Lh.out.size
                  clear hb
                  have g1 := Kh.out.cell 1
                  simp at g1
                  have hgh := Kh.out.lt
                  have his := is_any m' ab' bb' cb' n _ _ _ a.i wh Hh.out.r
                  have HIS := Lib.hid his; clear his
                  cases hin : inD n a.i with
                  | true =>
                    have he : er = 0 := by rw [HER.out]; unfold errD; rw [hin]; rfl
                    rw [hin] at HIS
                    subst he
                    clear hin
                    go_wp2_with fail
                    refine HIS.out.mono ?_
                    rintro e wi ⟨rfl, rfl⟩
                    go_wp2
                    go_roundw
                    case rel => exact ⟨k + 1, _, _, _, _, _, _, _, _, _, by omega, by go_num, rfl, rfl, Hh, hA', Lh⟩
                    case measure => simp [intOf]; omega
                  | false =>
                    have he : er = 41 := by rw [HER.out]; unfold errD; rw [hin]; rfl
                    rw [hin] at HIS
                    subst he
                    clear hin
                    go_wp2_with fail
                    refine HIS.out.mono ?_
                    rintro e wi ⟨rfl, rfl⟩
                    go_wp2
                    go_roundw
                    case rel => exact ⟨k + 1, _, _, _, _, _, _, _, _, _, by omega, by go_num, rfl, rfl, Hh, hA', Lh⟩
                    case measure => simp [intOf]; omega
          · have h100i : ¬ (k : Int) < 100 := by omega
            go_wp2
            go_meet
            case rel => exact hB
        · have hge : ¬ (k : Int) < q := by omega
          go_wp2
          go_meet
          case rel => exact hB
    case rest =>
      have zc := hcut.out.size
      go_wp2_with fail
      refine (alive_any _).mono ?_
      rintro e w3 ⟨rfl, hb3⟩
      have B3 := Lib.hid (hcut.out.trans (hb3.mono zc))
      clear hb3
      go_wp2
      go_ret
      exact ⟨rfl, B3.out⟩
end Go.Proofs.Ytlgimhhhlpmjcaa
