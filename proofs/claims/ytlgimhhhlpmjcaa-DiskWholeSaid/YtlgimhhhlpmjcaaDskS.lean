/- DiskWhole: the walk (printed by genWhole.py). -/
import Derived.Test.YtlgimhhhlpmjcaaDskW
import Derived.Test.YtlgimhhhlpmjcaaRfC
import Derived.BigQuiet
set_option linter.unusedVariables false
set_option linter.unusedSimpArgs false
namespace Go.Proofs.Ytlgimhhhlpmjcaa
open Go.RowKit Go.Maps Go.WideMaps Go.Shelf

theorem flatS_succ {sf : List Sec} {k : Nat} (h : k < sf.length) : flatS (sf.take (k + 1)) = flatS (sf.take k) ++ sc sf[k] := by
  unfold flatS
  rw [List.take_succ_eq_append_getElem h, List.flatMap_append]
  simp
theorem isDs_wr {n : Nat} (df : Int → Option Sec) (i : Nat) (s : Sec) (h : i < n) : (isDs n df).set i true = isDs n (wrD n df i s) := by rw [wrD_in df s h, isDs_put df s h]

/-- As wpStill, but a word of its own: `refine` works its goal out as far as it goes, and here it is not to. -/
structure WS (ops : Array Oper) (w : World) (Q : Act → Prop) (rest : List Oper) (a : Act) : Prop where
  out : wpStill Try.prog ops w Q rest a
theorem region_ws {id : Nat} {Q : Exit → Act → World → Prop} {a : Act} {w : World} {l : List Oper} (hm : Try.prog.follows .mixedOrders = true) (hB : Region.lexB .any l.toArray = true)
    (h : WS l.toArray { w with drawn := w.drawn + 1 } (fun a' => Q .normal a' { w with drawn := w.drawn + 1 }) l a) : (Code.region id l.toArray true).wp Try.prog Q a w :=
  wp_region_still_lit hm hB h.out
theorem ws_nil {ops : Array Oper} {w : World} {Q : Act → Prop} {a : Act} (h : Q a) : WS ops w Q [] a := ⟨h⟩
theorem ws_yes {ops : Array Oper} {w : World} {Q : Act → Prop} {a : Act} {o : Oper} {rest : List Oper} (hw : Region.wanted o (yielded ops a.tmps) = true) (h : ∀ K : Act → Prop, (∀ a, WS ops w Q rest a → K a) → o.still Try.prog a w K) : WS ops w Q (o :: rest) a :=
  ⟨wpStill_step fun K hK => by rw [if_pos hw]; exact h K fun a ha => hK a ha.out⟩
theorem ws_no {ops : Array Oper} {w : World} {Q : Act → Prop} {a : Act} {o : Oper} {rest : List Oper} (hw : Region.wanted o (yielded ops a.tmps) = false) (h : WS ops w Q rest (a.put o.dst undef)) : WS ops w Q (o :: rest) a :=
  ⟨wpStill_step fun K hK => by rw [if_neg (by rw [hw]; decide)]; exact hK _ h.out⟩
theorem ws_sec {ops : Array Oper} {w : World} {a : Act} {o : Oper} {rest : List Oper} {Q : Act → Prop} {ty : TypeId} (T : SecT ty) (hw : Region.wanted o (yielded ops a.tmps) = true) (x : Operand) (ho : o.op = .load ty x) (b off : Nat) (hx : a.eval x = .pointer (some ⟨b, off, none⟩)) (s : Sec) (hs : s.length = 64) (hc : w.rangeAt b off (sc s)) (v : Value) (hv : Hid (v = .agg (sc s).toArray))
    (h : WS ops w Q rest (a.put o.dst v)) : WS ops w Q (o :: rest) a :=
  ⟨sec_still_w T hw x ho b off hx s hs hc (by rw [← hv.out]; exact h.out)⟩
theorem ws_neq {ops : Array Oper} {w : World} {Q : Act → Prop} {a : Act} {o : Oper} {rest : List Oper} (hw : Region.wanted o (yielded ops a.tmps) = true) (x y : Operand) (ho : o.op = .binOp .neq 55 x y 55) (s t : Sec) (hs : s.length = 64) (ht : t.length = 64) (v u : Value) (hv : Hid (v = .agg (sc s).toArray)) (hu : Hid (u = .agg (sc t).toArray)) (hx : a.eval x = v) (hy : a.eval y = u) (r : Bool) (hr : (!decide (s = t)) = r) (h : WS ops w Q rest (a.put o.dst (.bool r))) : WS ops w Q (o :: rest) a := by
  refine ws_yes hw fun K hK => ?_
  have e : ∀ W : World, (Op.equalIn 10000 55 (.agg (sc s).toArray) (.agg (sc t).toArray)).run Try.prog W = .ok (decide (s = t)) W := fun W => by rw [sec_eq Try.underlying55 s t hs ht W]; congr 1; rw [Bool.eq_iff_iff]; simp
  unfold Oper.still execOp
  simp only [ho, hx, hy, hv.out, hu.out]
  go_simp
  exact hK _ h
theorem row_notnil {w : World} {base e size n : Nat} {v : Value} {xs : List Value} (h : w.ownsRow base e size v n xs) (hn : 1 ≤ n) : v ≠ .slice none 0 0 := by
  rcases h.2 with ⟨_, h0⟩ | ⟨g, cap, cur, rfl, _⟩
  · omega
  · intro e; injection e with e; cases e
set_option maxRecDepth 100000 in
set_option maxHeartbeats 100000000 in
theorem whole_any (sec : Int) (A1 : Option Addr) (q1 c1 : Nat) (A2 : Option Addr) (q2 c2 : Nat) (kA : Option Addr) (kn kc : Nat) (ks : List Bool) (w : World) (ha1 : RdActs w A1 q1) (ha2 : RdActs w A2 q2) (hk : RdBo w kA kn ks) :
    Calls Try.prog 7 #[.int .i64 sec, .agg #[.slice A1 q1 c1, .slice A2 q2 c2], .slice kA kn kc] w fun e w' => e = .returned (.bool true) ∧ Below w.heap.size w w' := by
  have HA1 := Lib.hid ha1; have HA2 := Lib.hid ha2; have HK := Lib.hid hk; clear ha1 ha2 hk
  have b0 := (Below.refl w.heap.size w).alloc (Nat.le_refl _) (.cells #[.slice A1 q1 c1, .slice A2 q2 c2] 67)
  have B0 := Lib.hid b0; clear b0
  have z0 := B0.out.size
  by_cases h1 : sec < 1
  · go_enter Try.func7, Try.ntmps7
    go_wp2_with fail
    refine (alive_any _).mono ?_
    rintro e w1 ⟨rfl, hb1⟩
    have B1 := Lib.hid (B0.out.trans (hb1.mono z0)); clear hb1
    go_wp2
    go_ret
    exact ⟨rfl, B1.out⟩
  · have h1' : decide (sec < 1) = false := decide_eq_false h1
    by_cases h2 : 60 < sec
    · go_enter Try.func7, Try.ntmps7
      go_wp2_with fail
      refine (alive_any _).mono ?_
      rintro e w1 ⟨rfl, hb1⟩
      have B1 := Lib.hid (B0.out.trans (hb1.mono z0)); clear hb1
      go_wp2
      go_ret
      exact ⟨rfl, B1.out⟩
    · obtain ⟨n, rfl⟩ := Int.eq_ofNat_of_zero_le (show 0 ≤ sec by omega)
      have hn1 : 1 ≤ n := by omega
      have hn60 : n ≤ 60 := by omega
      have h2' : decide ((60 : Int) < n) = false := decide_eq_false h2
      have hn1i : ¬ (n : Int) < 1 := h1
      have hn2i : ¬ (60 : Int) < n := h2
      obtain ⟨z, HZ, hz⟩ := zsec_named
      have Hz := Lib.hid hz; clear hz
      have hmb := makeBools2 n (by omega)
      go_enter Try.func7, Try.ntmps7
      go_wp2_with fail
      refine (new_ok n _ hn1 (by omega)).mono ?_
      rintro e w1 ⟨d, sb, mb, rfl, hD, l1, l2, l3, hb⟩
      have D1 := Lib.hid hD; have B1 := Lib.hid (B0.out.trans (hb.mono z0)); have z1 := B1.out.size
      have L1 : w.heap.size ≤ d := by omega
      have L2 : w.heap.size ≤ sb := by omega
      have L3 : w.heap.size ≤ mb := by omega
      clear hD hb l1 l2 l3
      generalize List.replicate n zsec = sf0 at *
      go_upto_block 0 with fail
      go_cut [11] from 49 to 78 (fun _ wc => ∃ df, Hid (DiskIs wc d sb mb n sf0 df) ∧ Hid (Below w.heap.size w wc))
      case first =>
        go_wp2_with fail
        go_loopw [11] (fun i wr => ∃ (k : Nat) (df : Int → Option Sec), k ≤ q1 ∧ i = .int .i64 k ∧ Hid (DiskIs wr d sb mb n sf0 df) ∧ Hid (Below w.heap.size w wr)) (fun i _ => q1 - (intOf i).toNat)
        case atStart => exact ⟨0, _, Nat.zero_le _, rfl, D1, B1⟩
        case round =>
          obtain ⟨k, df, hkm, rfl, hD, hB⟩ := hrel
          have zr := hB.out.size
          by_cases hlt : k < q1
          · have hlt2 : (k : Int) < q1 := by omega
            by_cases h100 : k < 100
            · have h100i : (k : Int) < 100 := by omega
              obtain ⟨b, off, a, bA, bc, kA', kc', rfl, hact⟩ := HA1.out.at hlt
              have hb0 := hact.2.2.2.2.2.2
              obtain ⟨c0, c1', c2', c3, hbB, hkK, hbl⟩ := hact.below hB.out
              clear hact
              have hk0 : (0 : Int) ≤ (k : Int) := by omega
              by_cases hlen : (a.b.length : Int) ≤ 100
              · have HBB := Lib.hid hbB; clear hbB hkK
                go_wp2
                have X2 := Lib.hid (hB.out.drew)
                have D2 : Hid (DiskIs wr.drew d sb mb n sf0 df) := Lib.hid (hD.out.keep rfl rfl rfl)
                go_region_held3 (fun W => W.cell? ⟨b, off + k * 4 + 1, none⟩ = some (.int .i64 a.i) ∧ W.cell? ⟨b, off + k * 4 + 2, none⟩ = some (.slice bA a.b.length bc)) (first | exact ⟨r1, r2⟩ | go_keep)
                  (first
                    | (go_at_call 31; refine (fill_any bA _ bc a.b _ (RdU8.keep (w' := wr.drew) HBB.out (fun _ _ _ _ => rfl) (Nat.le_refl _))).mono ?_; rintro e w4 ⟨rfl, hb4⟩
                       have r1 := (hb4.cell (p := ⟨b, off + k * 4 + 1, none⟩) hbl).trans c1'; have r2 := (hb4.cell (p := ⟨b, off + k * 4 + 2, none⟩) hbl).trans c2'
                       have B4 := Lib.hid (X2.out.trans (hb4.mono zr)); have D4 := Lib.hid (D2.out.below hb4); have z4 := B4.out.size; clear hb4)
                    | (go_at_call 30; refine (write_any d sb mb n sf0 df a.i (fillS a.b) w4 D4.out (fillS_len _)).mono ?_; rintro e w5 ⟨rfl, hD5, hg5⟩
                       have B5 := Lib.hid (B4.out.trans (grown_low hg5 z4 L3)); have D5 := Lib.hid hD5; have hbmb : b ≠ mb := by omega
                       have r1 := ((gcell hg5).1 b (off + k * 4 + 1) (by omega) hbmb).trans r1; have r2 := ((gcell hg5).1 b (off + k * 4 + 2) (by omega) hbmb).trans r2; clear hD5 hg5))
                go_wp2
                go_roundw
                case rel => exact ⟨k + 1, _, by omega, by go_num, D5, B5⟩
                case measure => simp [intOf]; omega
              · clear hbB hkK
                go_wp2
                go_roundw
                case rel => exact ⟨k + 1, _, by omega, by go_num, hD, hB⟩
                case measure => simp [intOf]; omega
            · have h100i : ¬ (k : Int) < 100 := by omega
              go_wp2
              go_meet
              case rel => exact ⟨df, hD, hB⟩
          · have hge : ¬ (k : Int) < q1 := by omega
            go_wp2
            go_meet
            case rel => exact ⟨df, hD, hB⟩
      case rest =>
        obtain ⟨df0, hD, hB⟩ := hcut
        have zc := hB.out.size
        go_wp2_with fail
        refine (flush_any d sb mb n sf0 df0 _ hD.out).mono ?_
        rintro e w2 ⟨rfl, hDf, hkf⟩
        have D2 := Lib.hid hDf; have B2 := Lib.hid (hB.out.trans (hkf.low zc L2 L3)); have z2 := B2.out.size
        clear hDf hkf
        generalize flushS n sf0 df0 = sf at *
        have hdl := D2.out.lt
        go_upto_block 2 with fail
        go_cut [12, 13, 14, 15] from 81 to 95 (fun v _ _ _ wc => ∃ gO gc, v = .slice (some ⟨gO, 0, none⟩) n gc ∧ w2.heap.size ≤ gO ∧ Hid (SafeIs wc gO sf) ∧ Hid (Below w2.heap.size w2 wc))
        case first =>
          go_wp2_with fail
          go_loopw [12, 13, 14, 15] (fun v i _ _ wr => ∃ k : Nat, k ≤ n ∧ i = .int .i64 k ∧ Hid (wr.ownsRow w2.heap.size 55 64 v k (flatS (sf.take k))) ∧ Hid (Below w2.heap.size w2 wr)) (fun _ i _ _ _ => n - (intOf i).toNat)
          case atStart => exact ⟨0, Nat.zero_le _, rfl, Lib.hid (World.ownsRow_nil _ _ _ _), Lib.hid (Below.refl _ _)⟩
          case round =>
            obtain ⟨k, hkn, rfl, hO, hBk⟩ := hrel
            have zk := hBk.out.size
            by_cases hlt : k < n
            · have hlt2 : (k : Int) < n := by omega
              have hr := read_any d sb mb n sf _ k wr (D2.out.below hBk.out)
              have hks : k < sf.length := by rw [D2.out.len]; exact hlt
              have hgd : sf.getD k zsec = sf[k] := by simp [List.getD_eq_getElem?_getD, hks]
              rw [errD_in hlt, rdD_in _ _ hlt, curS_none, hgd] at hr
              have hs64 := D2.out.each _ (List.getElem_mem hks)
              have hfs := flatS_succ hks
              generalize sf[k] = s at *
              have HR := Lib.hid hr; have LS := Lib.hid hs64; have HFS := Lib.hid hfs
              have hcl : (sc s).length = 1 * 64 := by rw [sc_len, hs64]
              have HCL := Lib.hid hcl
              clear hr hks hgd hs64 hfs hcl
              go_wp2_with fail
              refine HR.out.mono ?_
              rintro e wa ⟨rfl, hba⟩
              have Ba := Lib.hid (hBk.out.trans (hba.mono zk)); have Oa := Lib.hid (ownsRow_below hO.out hba); have za := Ba.out.size
              clear hba hO
              go_wp2_with (first
                | ((with_reducible refine sec_alloc secT1 HZ rfl rfl ?_); try simp only [World.size_alloc])
                | ((with_reducible refine is_store 55 (x := .tmp 14) rfl ?_); refine sec_store secT1 rfl _ _ rfl wa.heap.size 0 s LS.out rfl rfl ((Blk.new _ _ _).secThere Hz.out) ?_;
                   have bW : Below wa.heap.size wa ((wa.alloc (.cells (sc z).toArray 55)).setCells wa.heap.size 0 (sc s)) := below_cells ((Below.refl _ _).alloc (Nat.le_refl _) _) (Nat.le_refl _) _ _;
                   have Jwb := Lib.hid ((Blk.new wa (sc z).toArray 55).secStore (s' := s) (Hz.out.trans LS.out.symm));
                   have Bb := Lib.hid (Ba.out.trans (bW.mono za));
                   have Ob := Lib.hid (ownsRow_below Oa.out bW);
                   have zb := Bb.out.size; clear bW; generalize ((wa.alloc (.cells (sc z).toArray 55)).setCells wa.heap.size 0 (sc s)) = wb at *)
                | ((with_reducible refine is_load 55 (x := .tmp 14) rfl ?_); refine sec_load secT1 rfl _ rfl wa.heap.size 0 rfl s LS.out Jwb.out.sec ?_)
                | ((with_reducible refine is_slice1 rfl ?_); refine sec_slice1 rfl _ rfl s LS.out rfl ?_; try simp only [World.size_alloc])
                | (at_builtin; refine list_app rfl (.tmp 92) (.tmp 94) 68 rfl w2.heap.size 55 (.agg (sc zsec).toArray) 64 64 secInfo Try.underlying68 (by show (sc zsec).toArray.size = 64; rw [List.size_toArray, sc_len, zsec_len]) (by omega) u12 k _ rfl (ownsRow_below Ob.out ((Below.refl _ _).alloc (Nat.le_refl _) _)) ⟨wb.heap.size, 0, none⟩ 1 1 (sc s) rfl HCL.out ?_ (sc_one s) ?_ ?_ ?_ ?_; (intro j u hj; have hz := Blk.cell (Blk.newAt wb (sc s).toArray 55 wb.heap.size rfl) j; rw [Addr.add_mid, Nat.zero_add, hz]; simpa using hj); (unfold maxLen; omega); (omega); (simp; omega); intro v6 w6 O6 G6; have HO6 := Lib.hid O6; have HG6 := Lib.hid G6; clear O6 G6))
              go_roundw
              case rel =>
                refine ⟨k + 1, by omega, by go_num, Lib.hid ?_, Lib.hid ?_⟩
                · rw [HFS.out]; exact HO6.out
                · exact (Bb.out.alloc zb _).grown HG6.out (by simp; omega) (fun j hj => (Ob.out.lt j hj).1)
              case measure => simp [intOf]; omega
            · have hkk : k = n := by omega
              subst hkk
              have hO2 := hO.out
              rw [List.take_of_length_le (by rw [D2.out.len]; exact Nat.le_refl _)] at hO2
              obtain ⟨gO, gc, rfl, hgO, hsafe⟩ := SafeIs.of_row hO2 (row_notnil hO2 hn1) D2.out.len D2.out.each
              have HSF := Lib.hid hsafe; clear hO2 hsafe
              go_wp2
              go_meet
              case rel => exact ⟨gO, gc, rfl, hgO, HSF, hBk⟩
        case rest =>
          obtain ⟨gO, gc, rfl, hgO, hSF, hBk⟩ := hcut
          obtain ⟨k, rfl⟩ : ∃ k, k = n := ⟨_, rfl⟩
          obtain ⟨wr, rfl⟩ : ∃ wr : World, wr = wc := ⟨_, rfl⟩
          have F3 := hSF; have D3 := Lib.hid (D2.out.below hBk.out); have B3 := Lib.hid (B2.out.trans (hBk.out.mono z2)); have z3 := B3.out.size; have hzz := hBk.out.size
          have BL := Lib.hid (Blk.new wr (bl (List.replicate k false)) 4)
          have bq : Below wr.heap.size wr (wr.alloc (.cells (bl (List.replicate k false)) 4)) := (Below.refl _ _).alloc (Nat.le_refl _) _
          have D4 := Lib.hid (D3.out.below bq); have F4 := Lib.hid (F3.out.keep (bq.block gO F3.out.lt)); have B4 := Lib.hid (B3.out.trans (bq.mono z3))
          have hgOl := F3.out.lt
          clear bq
          go_upto_block 4 with fail
          generalize hgB : wr.heap.size = gB at *
          have HGB := Lib.hid hgB; clear hgB
          generalize wr.alloc (.cells (bl (List.replicate k false)) 4) = w4 at *
          have hdl4 := D4.out.lt
          go_cut [17] from 98 to 137 (fun _ wc => ∃ df, Hid (DiskIs wc d sb mb k sf df) ∧ Hid (Blk wc gB (bl (isDs k df)) 4) ∧ Hid (SafeIs wc gO sf) ∧ Hid (Below w.heap.size w wc))
          case first =>
            go_wp2_with fail
            obtain ⟨wo, rfl⟩ : ∃ wo : World, wo = wr := ⟨_, rfl⟩
            go_loopw [17] (fun i wr => ∃ (j : Nat) (df : Int → Option Sec), j ≤ q2 ∧ i = .int .i64 j ∧ Hid (DiskIs wr d sb mb k sf df) ∧ Hid (Blk wr gB (bl (isDs k df)) 4) ∧ Hid (SafeIs wr gO sf) ∧ Hid (Below w.heap.size w wr)) (fun i _ => q2 - (intOf i).toNat)
            case atStart => exact ⟨0, _, Nat.zero_le _, rfl, D4, Lib.hid (by rw [isDs_none]; exact BL.out), F4, B4⟩
            case round =>
              obtain ⟨j, df, hjm, rfl, hD, hG, hF, hB⟩ := hrel
              have zr := hB.out.size
              have hGl := hG.out.lt
              by_cases hlt : j < q2
              · have hlt2 : (j : Int) < q2 := by omega
                by_cases h100 : j < 100
                · have h100i : (j : Int) < 100 := by omega
                  obtain ⟨b, off, a, bA, bc, kA', kc', rfl, hact⟩ := HA2.out.at hlt
                  have HACT := Lib.hid hact
                  have hb0 := hact.2.2.2.2.2.2
                  obtain ⟨e0, e1, e2, e3, hbB, hkK, hbl⟩ := hact.below hB.out
                  clear hact
                  have hk0 : (0 : Int) ≤ (j : Int) := by omega
                  have HBB := Lib.hid hbB; clear hbB hkK e0 e3
                  by_cases hlen : (a.b.length : Int) ≤ 100
                  · have hbmb : b ≠ mb := by omega
                    have X2 := Lib.hid (hB.out.drew)
                    have D2 : Hid (DiskIs wr.drew d sb mb k sf df) := Lib.hid (hD.out.keep rfl rfl rfl)
                    have G2 : Hid (Blk wr.drew gB (bl (isDs k df)) 4) := hG
                    have F2 : Hid (SafeIs wr.drew gO sf) := Lib.hid (hF.out.keep rfl)
                    have NEG := Lib.hid (hD.out.map.ne hG.out)
                    cases hin : inD k a.i with
                    | true =>
                      obtain ⟨ki, hki, hkk⟩ := inD_true hin
                      rw [hki] at e1
                      have hw := fun (W : World) (hW : DiskIs W d sb mb k sf df) => write_any d sb mb k sf df ki (fillS a.b) W hW (fillS_len _)
                      rw [errD_in hkk] at hw
                      have HW := Lib.hid hw; have HKI := Lib.hid hki
                      have hwr := isDs_wr df ki (fillS a.b) hkk
                      have HWR := Lib.hid hwr
                      clear hw hin hki hwr
                      go_wp2_with fail
                      go_region_held3 (fun W => W.cell? ⟨b, off + j * 4 + 1, none⟩ = some (.int .i64 ki) ∧ W.cell? ⟨b, off + j * 4 + 2, none⟩ = some (.slice bA a.b.length bc)) (first | exact ⟨r1, r2⟩ | go_keep)
                        (first
                          | (go_at_call 31; refine (fill_any bA _ bc a.b _ (RdU8.keep (w' := wr.drew) HBB.out (fun _ _ _ _ => rfl) (Nat.le_refl _))).mono ?_; rintro e w5 ⟨rfl, hb4⟩
                             have r1 := (hb4.cell (p := ⟨b, off + j * 4 + 1, none⟩) hbl).trans e1; have r2 := (hb4.cell (p := ⟨b, off + j * 4 + 2, none⟩) hbl).trans e2
                             have B5 := Lib.hid (X2.out.trans (hb4.mono zr)); have D5 := Lib.hid (D2.out.below hb4); have G5 := Lib.hid (G2.out.below hb4); have F5 := Lib.hid (F2.out.keep (hb4.block gO F2.out.lt)); have z5 := B5.out.size; clear hb4)
                          | (go_at_call 30; refine (HW.out w5 D5.out).mono ?_; rintro e w6 ⟨rfl, hD6, hg6⟩
                             have B6 := Lib.hid (B5.out.trans (grown_low hg6 z5 L3)); have D6 := Lib.hid hD6; have G6 := Lib.hid (G5.out.grown hg6 (fun e => NEG.out (Option.some.inj e))); have F6 := Lib.hid (F5.out.keep (hg6.block gO F5.out.lt (fun e => D5.out.ne.2.2 (by have := Option.some.inj e; omega))))
                             have r1 := ((gcell hg6).1 b (off + j * 4 + 1) (by omega) hbmb).trans r1; have r2 := ((gcell hg6).1 b (off + j * 4 + 2) (by omega) hbmb).trans r2; clear hD6 hg6))
                      have hact6 := HACT.out.below B6.out
                      obtain ⟨_, i1, i2, _, _, _, hbl6⟩ := hact6
                      rw [HKI.out] at i1
                      have hgk := G6.out.cell ki
                      rw [bl_get (by rw [isDs_len]; exact hkk)] at hgk
                      generalize (isDs k df)[ki]'(by rw [isDs_len]; exact hkk) = bq at *
                      have hgf := G6.out.fr ki
                      have hgl6 := G6.out.lt
                      have hki0 : (0 : Int) ≤ (ki : Int) := by omega
                      have hkin : (ki : Int) < (k : Int) := by omega
                      go_wp2
                      go_roundw
                      case rel =>
                        refine ⟨j + 1, _, by omega, by go_num, Lib.hid (D6.out.keep (Below.heap_setCell _ _ _ _ ?_) (Below.heap_setCell _ _ _ _ ?_) (Below.heap_setCell _ _ _ _ ?_)), Lib.hid (by rw [← HWR.out, ← bl_set]; exact G6.out.set ki _), Lib.hid (F6.out.keep (Below.heap_setCell _ _ _ _ ?_)), Lib.hid (B6.out.setCell (by simp; omega) _)⟩
                        · intro e; have := D6.out.blk; obtain ⟨cp, hb⟩ := this; exact blk_ne hb G6.out (by decide) e
                        · intro e; obtain ⟨⟨cu, hs⟩, _⟩ := D6.out.safe; exact blk_ne hs G6.out (by decide) e
                        · intro e; exact D6.out.map.ne G6.out e.symm
                        · intro e; obtain ⟨⟨cu, hs⟩, _⟩ := F6.out; exact blk_ne hs G6.out (by decide) e
                      case measure => simp [intOf]; omega
                    | false =>
                      have hw := fun (W : World) (hW : DiskIs W d sb mb k sf df) => write_any d sb mb k sf df a.i (fillS a.b) W hW (fillS_len _)
                      have hee : errD k a.i = 41 := by unfold errD; rw [hin]; rfl
                      have hww : wrD k df a.i (fillS a.b) = df := by unfold wrD; rw [hin]; rfl
                      rw [hee, hww] at hw
                      have HW := Lib.hid hw
                      clear hw hin hee hww
                      go_wp2_with fail
                      go_region_held3 (fun W => W.cell? ⟨b, off + j * 4 + 1, none⟩ = some (.int .i64 a.i) ∧ W.cell? ⟨b, off + j * 4 + 2, none⟩ = some (.slice bA a.b.length bc)) (first | exact ⟨r1, r2⟩ | go_keep)
                        (first
                          | (go_at_call 31; refine (fill_any bA _ bc a.b _ (RdU8.keep (w' := wr.drew) HBB.out (fun _ _ _ _ => rfl) (Nat.le_refl _))).mono ?_; rintro e w5 ⟨rfl, hb4⟩
                             have r1 := (hb4.cell (p := ⟨b, off + j * 4 + 1, none⟩) hbl).trans e1; have r2 := (hb4.cell (p := ⟨b, off + j * 4 + 2, none⟩) hbl).trans e2
                             have B5 := Lib.hid (X2.out.trans (hb4.mono zr)); have D5 := Lib.hid (D2.out.below hb4); have G5 := Lib.hid (G2.out.below hb4); have F5 := Lib.hid (F2.out.keep (hb4.block gO F2.out.lt)); have z5 := B5.out.size; clear hb4)
                          | (go_at_call 30; refine (HW.out w5 D5.out).mono ?_; rintro e w6 ⟨rfl, hD6, hg6⟩
                             have B6 := Lib.hid (B5.out.trans (grown_low hg6 z5 L3)); have D6 := Lib.hid hD6; have G6 := Lib.hid (G5.out.grown hg6 (fun e => NEG.out (Option.some.inj e))); have F6 := Lib.hid (F5.out.keep (hg6.block gO F5.out.lt (fun e => D5.out.ne.2.2 (by have := Option.some.inj e; omega))))
                             have r1 := ((gcell hg6).1 b (off + j * 4 + 1) (by omega) hbmb).trans r1; have r2 := ((gcell hg6).1 b (off + j * 4 + 2) (by omega) hbmb).trans r2; clear hD6 hg6))
                      go_wp2
                      go_roundw
                      case rel => exact ⟨j + 1, _, by omega, by go_num, D6, G6, F6, B6⟩
                      case measure => simp [intOf]; omega
                  · have hlen' : decide ((a.b.length : Int) ≤ 100) = false := decide_eq_false hlen
                    go_wp2_with fail
                    go_quiet (fail)
                    rename_i nq
                    have BN := Lib.hid (below_drewN (Below.refl wr.heap.size wr) nq)
                    go_wp2
                    go_roundw
                    case rel => exact ⟨j + 1, df, by omega, by go_num, Lib.hid (hD.out.below BN.out), Lib.hid (hG.out.below BN.out), Lib.hid (hF.out.keep (BN.out.block gO hF.out.lt)), Lib.hid (below_drewN hB.out nq)⟩
                    case measure => simp [intOf]; omega
                · have h100i : ¬ (j : Int) < 100 := by omega
                  go_wp2
                  go_meet
                  case rel => exact ⟨df, hD, hG, hF, hB⟩
              · have hge : ¬ (j : Int) < q2 := by omega
                go_wp2
                go_meet
                case rel => exact ⟨df, hD, hG, hF, hB⟩
          case rest =>
            obtain ⟨df, hD5, hG5, hF5, hB5⟩ := hcut
            have z5 := hB5.out.size
            have HK5 := Lib.hid (HK.out.below hB5.out)
            go_wp2_with fail
            refine (crash_any d sb mb k sf df kA kn kc ks _ hD5.out HK5.out).mono ?_
            rintro e w6 ⟨x, xs, xm, rfl, hX, _, _, _, hb⟩
            have X6 := Lib.hid hX; have D6 := Lib.hid (hD5.out.below hb); have G6 := Lib.hid (hG5.out.below hb); have F6 := Lib.hid (hF5.out.keep (hb.block gO hF5.out.lt)); have B6 := Lib.hid (hB5.out.trans (hb.mono z5)); have K6 := Lib.hid (HK5.out.below hb); have z6 := B6.out.size
            clear hX hb
            go_wp2_with fail
            refine (crash_any x xs xm k _ _ kA kn kc ks w6 X6.out K6.out).mono ?_
            rintro e w7 ⟨y, ys, ym, rfl, hY, _, _, _, hb⟩
            have Y7 := Lib.hid hY; have X7 := Lib.hid (X6.out.below hb); have D7 := Lib.hid (D6.out.below hb); have G7 := Lib.hid (G6.out.below hb); have F7 := Lib.hid (F6.out.keep (hb.block gO F6.out.lt)); have B7 := Lib.hid (B6.out.trans (hb.mono z6)); have z7 := B7.out.size
            clear hY hb
            go_wp2_with fail
            refine (dirty_any x xs xm k _ _ w7 X7.out).mono ?_
            rintro e w8 ⟨va, vc, rfl, -, hb⟩
            rw [dirtyI_none]
            have Y8 := Lib.hid (Y7.out.below hb); have X8 := Lib.hid (X7.out.below hb); have D8 := Lib.hid (D7.out.below hb); have G8 := Lib.hid (G7.out.below hb); have F8 := Lib.hid (F7.out.keep (hb.block gO F7.out.lt)); have B8 := Lib.hid (B7.out.trans (hb.mono z7)); have z8 := B8.out.size
            clear hb
            go_upto_block 6 with fail
            go_cut [20, 21, 22, 23, 24, 25, 26] from 154 to 211 (fun _ _ _ _ _ _ _ wc => Hid (Below w8.heap.size w8 wc))
            case first =>
              go_wp2_with fail
              obtain ⟨wo, rfl⟩ : ∃ wo : World, wo = wr := ⟨_, rfl⟩
              go_loopw [20, 21, 22, 23, 24, 25, 26] (fun i _ _ _ _ _ _ wr => ∃ j : Nat, j ≤ k ∧ i = .int .i64 j ∧ Hid (Below w8.heap.size w8 wr)) (fun i _ _ _ _ _ _ _ => k - (intOf i).toNat)
              case atStart => exact ⟨0, Nat.zero_le _, rfl, Lib.hid (Below.refl _ _)⟩
              case round =>
                obtain ⟨j, hjk, rfl, hBj⟩ := hrel
                have zj := hBj.out.size
                by_cases hltj : j < k
                · have hltj2 : (j : Int) < k := by omega
                  have hj0 : (0 : Int) ≤ (j : Int) := by omega
                  obtain ⟨s1, HS1⟩ : ∃ s, Hid (s = curS sf df j) := ⟨_, Lib.hid rfl⟩
                  obtain ⟨s2, HS2⟩ : ∃ s, Hid (s = sf.getD j zsec) := ⟨_, Lib.hid rfl⟩
                  obtain ⟨s3, HS3⟩ : ∃ s, Hid (s = crashAt sf df ks j) := ⟨_, Lib.hid rfl⟩
                  have LS1 : Hid (s1.length = 64) := Lib.hid (by rw [HS1.out]; exact curS_len D8.out.len D8.out.each D8.out.sup hltj)
                  have hjl : j < sf.length := by rw [D8.out.len]; exact hltj
                  have hgd : sf.getD j zsec = sf[j] := by simp [List.getD_eq_getElem?_getD, hjl]
                  have LS2 : Hid (s2.length = 64) := Lib.hid (by rw [HS2.out, hgd]; exact D8.out.each _ (List.getElem_mem hjl))
                  have hor : s3 = s1 ∨ s3 = s2 := by rw [HS1.out, HS2.out, HS3.out]; exact crashAt_or sf df ks j
                  have LS3 : Hid (s3.length = 64) := Lib.hid (by rcases hor with e | e; rw [e]; exact LS1.out; rw [e]; exact LS2.out)
                  have hfr : ∀ W, Below w8.heap.size w8 W → W.rangeAt gO (j * 64) (sc s2) := fun W hW => by
                    rw [HS2.out, hgd]; exact (F8.out.keep (hW.block gO F8.out.lt)).2 j hjl
                  have HFR := Lib.hid hfr
                  have hld : j < (isDs k df).length := by rw [isDs_len]; exact hltj
                  have hag : ∀ W, Below w8.heap.size w8 W → W.cell? ⟨gB, j, none⟩ = some (.bool (isD df j)) := fun W hW => by
                    rw [(G8.out.below hW).cell, bl_get hld, isDs_get df hld]
                  have hcl : isD df j = false → s3 = s2 := fun h => by rw [HS2.out, HS3.out]; exact crashAt_clean sf df ks j h
                  have HAG := Lib.hid hag; have HCL := Lib.hid hcl; have HOR := Lib.hid hor
                  clear hjl hgd hfr hld hag hcl hor
                  have hr1 := read_any d sb mb k sf df j wr (D8.out.below hBj.out)
                  rw [errD_in hltj, rdD_in sf df hltj, ← HS1.out] at hr1
                  have HR1 := Lib.hid hr1; clear hr1
                  go_wp2_with fail
                  refine HR1.out.mono ?_
                  rintro e wa ⟨rfl, hba⟩
                  have Ba := Lib.hid (hBj.out.trans (hba.mono zj)); have za := Ba.out.size
                  clear hba
                  go_wp2_with (first
                    | ((with_reducible refine sec_alloc secT1 HZ rfl rfl ?_); try simp only [World.size_alloc])
                    | ((with_reducible refine is_store 55 (x := .tmp 21) rfl ?_); refine sec_store secT1 rfl _ _ rfl wa.heap.size 0 s1 LS1.out rfl rfl ((Blk.new _ _ _).secThere Hz.out) ?_;
                       have bW : Below wa.heap.size wa ((wa.alloc (.cells (sc z).toArray 55)).setCells wa.heap.size 0 (sc s1)) := below_cells ((Below.refl _ _).alloc (Nat.le_refl _) _) (Nat.le_refl _) _ _;
                       have Jwa2 := Lib.hid ((Blk.new wa (sc z).toArray 55).secStore (s' := s1) (Hz.out.trans LS1.out.symm));
                       have Ba2 := Lib.hid (Ba.out.trans (bW.mono za));
                       have za2 := Ba2.out.size; clear bW; generalize ((wa.alloc (.cells (sc z).toArray 55)).setCells wa.heap.size 0 (sc s1)) = wa2 at *))
                  have hr2 := read_any x xs xm k _ _ j wa2 (X8.out.below Ba2.out)
                  rw [errD_in hltj, rdD_in _ _ hltj, curS_none, crashS_get _ _ _ hltj, ← HS3.out] at hr2
                  have HR2 := Lib.hid hr2; clear hr2
                  refine HR2.out.mono ?_
                  rintro e wb ⟨rfl, hbb⟩
                  have Bb := Lib.hid (Ba2.out.trans (hbb.mono za2)); have Jb := Lib.hid (Jwa2.out.below hbb); have zb := Bb.out.size
                  clear hbb
                  generalize hg3 : wa.heap.size = g3 at *
                  have hG3 := Lib.hid hg3; clear hg3
                  go_wp2_with (first
                    | ((with_reducible refine sec_alloc secT1 HZ rfl rfl ?_); try simp only [World.size_alloc])
                    | ((with_reducible refine is_store 55 (x := .tmp 23) rfl ?_); refine sec_store secT1 rfl _ _ rfl wb.heap.size 0 s3 LS3.out rfl rfl ((Blk.new _ _ _).secThere Hz.out) ?_;
                       have bW : Below wb.heap.size wb ((wb.alloc (.cells (sc z).toArray 55)).setCells wb.heap.size 0 (sc s3)) := below_cells ((Below.refl _ _).alloc (Nat.le_refl _) _) (Nat.le_refl _) _ _;
                       have Jwb2 := Lib.hid ((Blk.new wb (sc z).toArray 55).secStore (s' := s3) (Hz.out.trans LS3.out.symm));
                       have Bb2 := Lib.hid (Bb.out.trans (bW.mono zb));
                       have Jb2 := Lib.hid (Jb.out.below bW);
                       have zb2 := Bb2.out.size; clear bW; generalize ((wb.alloc (.cells (sc z).toArray 55)).setCells wb.heap.size 0 (sc s3)) = wb2 at *))
                  have hr3 := read_any y ys ym k _ _ j wb2 (Y8.out.below Bb2.out)
                  have hcc : crashAt (crashS k sf df ks) (fun _ => none) ks j = s3 := by rw [crashAt_clean _ _ _ _ rfl, crashS_get _ _ _ hltj, HS3.out]
                  rw [errD_in hltj, rdD_in _ _ hltj, curS_none, crashS_get _ _ _ hltj, hcc] at hr3
                  have HR3 := Lib.hid hr3; clear hr3 hcc
                  refine HR3.out.mono ?_
                  rintro e wd ⟨rfl, hbd⟩
                  have Bd := Lib.hid (Bb2.out.trans (hbd.mono zb2)); have Jd := Lib.hid (Jb2.out.below hbd); have Id := Lib.hid (Jwb2.out.below hbd); have zd := Bd.out.size
                  clear hbd
                  generalize hg4 : wb.heap.size = g4 at *
                  have hG4 := Lib.hid hg4; clear hg4
                  go_wp2_with (first
                    | ((with_reducible refine sec_alloc secT1 HZ rfl rfl ?_); try simp only [World.size_alloc])
                    | ((with_reducible refine is_store 55 (x := .tmp 25) rfl ?_); refine sec_store secT1 rfl _ _ rfl wd.heap.size 0 s3 LS3.out rfl rfl ((Blk.new _ _ _).secThere Hz.out) ?_;
                       have bW : Below wd.heap.size wd ((wd.alloc (.cells (sc z).toArray 55)).setCells wd.heap.size 0 (sc s3)) := below_cells ((Below.refl _ _).alloc (Nat.le_refl _) _) (Nat.le_refl _) _ _;
                       have Jwd2 := Lib.hid ((Blk.new wd (sc z).toArray 55).secStore (s' := s3) (Hz.out.trans LS3.out.symm));
                       have Bd2 := Lib.hid (Bd.out.trans (bW.mono zd));
                       have Jd2 := Lib.hid (Jd.out.below bW);
                       have Id2 := Lib.hid (Id.out.below bW);
                       have zd2 := Bd2.out.size; clear bW; generalize ((wd.alloc (.cells (sc z).toArray 55)).setCells wd.heap.size 0 (sc s3)) = wd2 at *))
                  generalize hg5 : wd.heap.size = g5 at *
                  have hG5 := Lib.hid hg5; clear hg5
                  obtain ⟨v1, HV1⟩ : ∃ v : Value, Hid (v = .agg (sc s1).toArray) := ⟨_, Lib.hid rfl⟩
                  obtain ⟨v2, HV2⟩ : ∃ v : Value, Hid (v = .agg (sc s2).toArray) := ⟨_, Lib.hid rfl⟩
                  obtain ⟨v3, HV3⟩ : ∃ v : Value, Hid (v = .agg (sc s3).toArray) := ⟨_, Lib.hid rfl⟩
                  have Q1 := Lib.hid Jd2.out.sec; have Q2 := Lib.hid Id2.out.sec; have Q3 := Lib.hid Jwd2.out.sec; have Q4 := Lib.hid (HFR.out _ Bd2.out.drew)
                  have q5 := HAG.out _ Bd2.out.drew
                  have NE33 : Hid ((!decide (s3 = s3)) = false) := Lib.hid (by simp)
                  by_cases h32 : s3 = s2
                  · have NE32 : Hid ((!decide (s3 = s2)) = false) := Lib.hid (by simp [h32])
                    clear h32
                    cases hd : isD df j with
                    | true =>
                      rw [hd] at q5
                      clear hd
                      refine region_ws (by kernel_rfl) (by kernel_rfl) ?_
                      (refine ws_yes ?_ fun K hK => ?_; kernel_rfl; go_simp; refine hK _ ?_; clear hK K)
                      (refine ws_yes ?_ fun K hK => ?_; kernel_rfl; go_simp; refine hK _ ?_; clear hK K)
                      (refine ws_yes ?_ fun K hK => ?_; kernel_rfl; go_simp; refine hK _ ?_; clear hK K)
                      refine ws_sec secT1 ?_ _ rfl g4 0 rfl s3 LS3.out Q2.out _ HV3 ?_; kernel_rfl
                      (refine ws_yes ?_ fun K hK => ?_; kernel_rfl; go_simp; refine hK _ ?_; clear hK K)
                      (refine ws_yes ?_ fun K hK => ?_; kernel_rfl; go_simp; refine hK _ ?_; clear hK K)
                      (refine ws_yes ?_ fun K hK => ?_; kernel_rfl; go_simp; refine hK _ ?_; clear hK K)
                      refine ws_sec secT1 ?_ _ rfl gO (j * 64) rfl s2 LS2.out Q4.out _ HV2 ?_; kernel_rfl
                      refine ws_neq ?_ _ _ rfl s3 s2 LS3.out LS2.out v3 v2 HV3 HV2 ?_ ?_ false NE32.out ?_; kernel_rfl; kernel_rfl; kernel_rfl
                      (refine ws_yes ?_ fun K hK => ?_; kernel_rfl; go_simp; refine hK _ ?_; clear hK K)
                      refine ws_no ?_ ?_; kernel_rfl
                      refine ws_no ?_ ?_; kernel_rfl
                      refine ws_no ?_ ?_; kernel_rfl
                      (refine ws_yes ?_ fun K hK => ?_; kernel_rfl; go_simp; refine hK _ ?_; clear hK K)
                      (refine ws_yes ?_ fun K hK => ?_; kernel_rfl; go_simp; refine hK _ ?_; clear hK K)
                      (refine ws_yes ?_ fun K hK => ?_; kernel_rfl; go_simp; refine hK _ ?_; clear hK K)
                      (refine ws_yes ?_ fun K hK => ?_; kernel_rfl; go_simp; refine hK _ ?_; clear hK K)
                      (refine ws_yes ?_ fun K hK => ?_; kernel_rfl; go_simp; refine hK _ ?_; clear hK K)
                      (refine ws_yes ?_ fun K hK => ?_; kernel_rfl; go_simp; refine hK _ ?_; clear hK K)
                      (refine ws_yes ?_ fun K hK => ?_; kernel_rfl; go_simp; refine hK _ ?_; clear hK K)
                      (refine ws_yes ?_ fun K hK => ?_; kernel_rfl; go_simp; refine hK _ ?_; clear hK K)
                      (refine ws_yes ?_ fun K hK => ?_; kernel_rfl; go_simp; refine hK _ ?_; clear hK K)
                      refine ws_no ?_ ?_; kernel_rfl
                      refine ws_no ?_ ?_; kernel_rfl
                      refine ws_no ?_ ?_; kernel_rfl
                      refine ws_no ?_ ?_; kernel_rfl
                      refine ws_no ?_ ?_; kernel_rfl
                      refine ws_no ?_ ?_; kernel_rfl
                      (refine ws_yes ?_ fun K hK => ?_; kernel_rfl; go_simp; refine hK _ ?_; clear hK K)
                      (refine ws_yes ?_ fun K hK => ?_; kernel_rfl; go_simp; refine hK _ ?_; clear hK K)
                      (refine ws_yes ?_ fun K hK => ?_; kernel_rfl; go_simp; refine hK _ ?_; clear hK K)
                      refine ws_sec secT1 ?_ _ rfl g5 0 rfl s3 LS3.out Q3.out _ HV3 ?_; kernel_rfl
                      refine ws_sec secT1 ?_ _ rfl g4 0 rfl s3 LS3.out Q2.out _ HV3 ?_; kernel_rfl
                      refine ws_neq ?_ _ _ rfl s3 s3 LS3.out LS3.out v3 v3 HV3 HV3 ?_ ?_ false NE33.out ?_; kernel_rfl; kernel_rfl; kernel_rfl
                      (refine ws_yes ?_ fun K hK => ?_; kernel_rfl; go_simp; refine hK _ ?_; clear hK K)
                      refine ws_nil ?_
                      go_wp2_with fail
                      go_roundw
                      case rel => exact ⟨j + 1, by omega, by go_num, Lib.hid Bd2.out.drew⟩
                      case measure => simp [intOf]; omega
                    | false =>
                      rw [hd] at q5
                      clear hd
                      refine region_ws (by kernel_rfl) (by kernel_rfl) ?_
                      (refine ws_yes ?_ fun K hK => ?_; kernel_rfl; go_simp; refine hK _ ?_; clear hK K)
                      (refine ws_yes ?_ fun K hK => ?_; kernel_rfl; go_simp; refine hK _ ?_; clear hK K)
                      (refine ws_yes ?_ fun K hK => ?_; kernel_rfl; go_simp; refine hK _ ?_; clear hK K)
                      refine ws_sec secT1 ?_ _ rfl g4 0 rfl s3 LS3.out Q2.out _ HV3 ?_; kernel_rfl
                      (refine ws_yes ?_ fun K hK => ?_; kernel_rfl; go_simp; refine hK _ ?_; clear hK K)
                      (refine ws_yes ?_ fun K hK => ?_; kernel_rfl; go_simp; refine hK _ ?_; clear hK K)
                      (refine ws_yes ?_ fun K hK => ?_; kernel_rfl; go_simp; refine hK _ ?_; clear hK K)
                      refine ws_sec secT1 ?_ _ rfl gO (j * 64) rfl s2 LS2.out Q4.out _ HV2 ?_; kernel_rfl
                      refine ws_neq ?_ _ _ rfl s3 s2 LS3.out LS2.out v3 v2 HV3 HV2 ?_ ?_ false NE32.out ?_; kernel_rfl; kernel_rfl; kernel_rfl
                      (refine ws_yes ?_ fun K hK => ?_; kernel_rfl; go_simp; refine hK _ ?_; clear hK K)
                      refine ws_no ?_ ?_; kernel_rfl
                      refine ws_no ?_ ?_; kernel_rfl
                      refine ws_no ?_ ?_; kernel_rfl
                      (refine ws_yes ?_ fun K hK => ?_; kernel_rfl; go_simp; refine hK _ ?_; clear hK K)
                      (refine ws_yes ?_ fun K hK => ?_; kernel_rfl; go_simp; refine hK _ ?_; clear hK K)
                      (refine ws_yes ?_ fun K hK => ?_; kernel_rfl; go_simp; refine hK _ ?_; clear hK K)
                      (refine ws_yes ?_ fun K hK => ?_; kernel_rfl; go_simp; refine hK _ ?_; clear hK K)
                      (refine ws_yes ?_ fun K hK => ?_; kernel_rfl; go_simp; refine hK _ ?_; clear hK K)
                      (refine ws_yes ?_ fun K hK => ?_; kernel_rfl; go_simp; refine hK _ ?_; clear hK K)
                      (refine ws_yes ?_ fun K hK => ?_; kernel_rfl; go_simp; refine hK _ ?_; clear hK K)
                      (refine ws_yes ?_ fun K hK => ?_; kernel_rfl; go_simp; refine hK _ ?_; clear hK K)
                      (refine ws_yes ?_ fun K hK => ?_; kernel_rfl; go_simp; refine hK _ ?_; clear hK K)
                      refine ws_sec secT1 ?_ _ rfl g4 0 rfl s3 LS3.out Q2.out _ HV3 ?_; kernel_rfl
                      (refine ws_yes ?_ fun K hK => ?_; kernel_rfl; go_simp; refine hK _ ?_; clear hK K)
                      (refine ws_yes ?_ fun K hK => ?_; kernel_rfl; go_simp; refine hK _ ?_; clear hK K)
                      (refine ws_yes ?_ fun K hK => ?_; kernel_rfl; go_simp; refine hK _ ?_; clear hK K)
                      refine ws_sec secT1 ?_ _ rfl gO (j * 64) rfl s2 LS2.out Q4.out _ HV2 ?_; kernel_rfl
                      refine ws_neq ?_ _ _ rfl s3 s2 LS3.out LS2.out v3 v2 HV3 HV2 ?_ ?_ false NE32.out ?_; kernel_rfl; kernel_rfl; kernel_rfl
                      (refine ws_yes ?_ fun K hK => ?_; kernel_rfl; go_simp; refine hK _ ?_; clear hK K)
                      (refine ws_yes ?_ fun K hK => ?_; kernel_rfl; go_simp; refine hK _ ?_; clear hK K)
                      (refine ws_yes ?_ fun K hK => ?_; kernel_rfl; go_simp; refine hK _ ?_; clear hK K)
                      refine ws_sec secT1 ?_ _ rfl g5 0 rfl s3 LS3.out Q3.out _ HV3 ?_; kernel_rfl
                      refine ws_sec secT1 ?_ _ rfl g4 0 rfl s3 LS3.out Q2.out _ HV3 ?_; kernel_rfl
                      refine ws_neq ?_ _ _ rfl s3 s3 LS3.out LS3.out v3 v3 HV3 HV3 ?_ ?_ false NE33.out ?_; kernel_rfl; kernel_rfl; kernel_rfl
                      (refine ws_yes ?_ fun K hK => ?_; kernel_rfl; go_simp; refine hK _ ?_; clear hK K)
                      refine ws_nil ?_
                      go_wp2_with fail
                      go_roundw
                      case rel => exact ⟨j + 1, by omega, by go_num, Lib.hid Bd2.out.drew⟩
                      case measure => simp [intOf]; omega
                  · have h31 : s3 = s1 := HOR.out.resolve_right h32
                    have hd : isD df j = true := by
                      cases h : isD df j with
                      | true => rfl
                      | false => exact absurd (HCL.out h) h32
                    have NE32 : Hid ((!decide (s3 = s2)) = true) := Lib.hid (by simp [h32])
                    have NE31 : Hid ((!decide (s3 = s1)) = false) := Lib.hid (by simp [h31])
                    rw [hd] at q5
                    clear hd h31 h32
                    refine region_ws (by kernel_rfl) (by kernel_rfl) ?_
                    (refine ws_yes ?_ fun K hK => ?_; kernel_rfl; go_simp; refine hK _ ?_; clear hK K)
                    (refine ws_yes ?_ fun K hK => ?_; kernel_rfl; go_simp; refine hK _ ?_; clear hK K)
                    (refine ws_yes ?_ fun K hK => ?_; kernel_rfl; go_simp; refine hK _ ?_; clear hK K)
                    refine ws_sec secT1 ?_ _ rfl g4 0 rfl s3 LS3.out Q2.out _ HV3 ?_; kernel_rfl
                    (refine ws_yes ?_ fun K hK => ?_; kernel_rfl; go_simp; refine hK _ ?_; clear hK K)
                    (refine ws_yes ?_ fun K hK => ?_; kernel_rfl; go_simp; refine hK _ ?_; clear hK K)
                    (refine ws_yes ?_ fun K hK => ?_; kernel_rfl; go_simp; refine hK _ ?_; clear hK K)
                    refine ws_sec secT1 ?_ _ rfl gO (j * 64) rfl s2 LS2.out Q4.out _ HV2 ?_; kernel_rfl
                    refine ws_neq ?_ _ _ rfl s3 s2 LS3.out LS2.out v3 v2 HV3 HV2 ?_ ?_ true NE32.out ?_; kernel_rfl; kernel_rfl; kernel_rfl
                    (refine ws_yes ?_ fun K hK => ?_; kernel_rfl; go_simp; refine hK _ ?_; clear hK K)
                    refine ws_sec secT1 ?_ _ rfl g4 0 rfl s3 LS3.out Q2.out _ HV3 ?_; kernel_rfl
                    refine ws_sec secT1 ?_ _ rfl g3 0 rfl s1 LS1.out Q1.out _ HV1 ?_; kernel_rfl
                    refine ws_neq ?_ _ _ rfl s3 s1 LS3.out LS1.out v3 v1 HV3 HV1 ?_ ?_ false NE31.out ?_; kernel_rfl; kernel_rfl; kernel_rfl
                    (refine ws_yes ?_ fun K hK => ?_; kernel_rfl; go_simp; refine hK _ ?_; clear hK K)
                    (refine ws_yes ?_ fun K hK => ?_; kernel_rfl; go_simp; refine hK _ ?_; clear hK K)
                    (refine ws_yes ?_ fun K hK => ?_; kernel_rfl; go_simp; refine hK _ ?_; clear hK K)
                    (refine ws_yes ?_ fun K hK => ?_; kernel_rfl; go_simp; refine hK _ ?_; clear hK K)
                    (refine ws_yes ?_ fun K hK => ?_; kernel_rfl; go_simp; refine hK _ ?_; clear hK K)
                    (refine ws_yes ?_ fun K hK => ?_; kernel_rfl; go_simp; refine hK _ ?_; clear hK K)
                    (refine ws_yes ?_ fun K hK => ?_; kernel_rfl; go_simp; refine hK _ ?_; clear hK K)
                    (refine ws_yes ?_ fun K hK => ?_; kernel_rfl; go_simp; refine hK _ ?_; clear hK K)
                    (refine ws_yes ?_ fun K hK => ?_; kernel_rfl; go_simp; refine hK _ ?_; clear hK K)
                    refine ws_no ?_ ?_; kernel_rfl
                    refine ws_no ?_ ?_; kernel_rfl
                    refine ws_no ?_ ?_; kernel_rfl
                    refine ws_no ?_ ?_; kernel_rfl
                    refine ws_no ?_ ?_; kernel_rfl
                    refine ws_no ?_ ?_; kernel_rfl
                    (refine ws_yes ?_ fun K hK => ?_; kernel_rfl; go_simp; refine hK _ ?_; clear hK K)
                    (refine ws_yes ?_ fun K hK => ?_; kernel_rfl; go_simp; refine hK _ ?_; clear hK K)
                    (refine ws_yes ?_ fun K hK => ?_; kernel_rfl; go_simp; refine hK _ ?_; clear hK K)
                    refine ws_sec secT1 ?_ _ rfl g5 0 rfl s3 LS3.out Q3.out _ HV3 ?_; kernel_rfl
                    refine ws_sec secT1 ?_ _ rfl g4 0 rfl s3 LS3.out Q2.out _ HV3 ?_; kernel_rfl
                    refine ws_neq ?_ _ _ rfl s3 s3 LS3.out LS3.out v3 v3 HV3 HV3 ?_ ?_ false NE33.out ?_; kernel_rfl; kernel_rfl; kernel_rfl
                    (refine ws_yes ?_ fun K hK => ?_; kernel_rfl; go_simp; refine hK _ ?_; clear hK K)
                    refine ws_nil ?_
                    go_wp2_with fail
                    go_roundw
                    case rel => exact ⟨j + 1, by omega, by go_num, Lib.hid Bd2.out.drew⟩
                    case measure => simp [intOf]; omega
                · have hjj : j = k := by omega
                  go_wp2
                  go_meet
                  case rel => exact hBj
            case rest =>
              have hBj := hcut
              have BJ := Lib.hid (B8.out.trans (hBj.out.mono z8)); have zJ := BJ.out.size
              go_wp2_with fail
              refine (alive_any _).mono ?_
              rintro e wk ⟨rfl, hbk⟩
              have Bk := Lib.hid (BJ.out.trans (hbk.mono zJ))
              clear hbk
              go_wp2
              go_ret
              exact ⟨rfl, Bk.out⟩
end Go.Proofs.Ytlgimhhhlpmjcaa
