/- The tape: Open, whole. -/
import Derived.Test.YtlgimhhhlpmjcaaTapJ
set_option linter.unusedVariables false
set_option linter.unusedSimpArgs false
namespace Go.Proofs.Ytlgimhhhlpmjcaa
open Go.RowKit Go.Maps Go.WideMaps Go.Shelf

set_option maxRecDepth 100000 in
set_option maxHeartbeats 4000000 in
theorem open_d (d sb mb n : Nat) (sf : List Sec) (df : Int → Option Sec) (w : World) (H : DiskIs w d sb mb n sf df) (hn : 3 ≤ n) (hby : BytesS sf df) (hA : ¬ 1 < (curS sf df 0).getD 0 0) (hB : curS sf df 0 = superB ((curS sf df 0).getD 0 0) (numB (((curS sf df 0).drop 1).take 4)) (numB (((curS sf df 0).drop 5).take 4))) (hC : ¬ (allB n : Int) < numB (((curS sf df 0).drop 5).take 4)) :
    Calls Try.prog 16 #[.pointer (some ⟨d, 0, none⟩)] w (OpenPost w d sb mb n sf df) := by
  have hsm := H.small
  obtain ⟨s, HS⟩ : ∃ s, Hid (s = curS sf df 0) := ⟨_, Lib.hid rfl⟩
  have hs64 : s.length = 64 := by rw [HS.out]; exact curS_len H.len H.each H.sup (by omega)
  have hsb : okB s := by rw [HS.out]; exact hby.cur 0
  obtain ⟨r, hr⟩ : ∃ r : Nat, numB ((s.drop 1).take 4) = r := ⟨(numB ((s.drop 1).take 4)).toNat, by have := numB_nonneg (okB_take (okB_drop hsb 1) 4); omega⟩
  obtain ⟨u, hu⟩ : ∃ u : Nat, numB ((s.drop 5).take 4) = u := ⟨(numB ((s.drop 5).take 4)).toNat, by have := numB_nonneg (okB_take (okB_drop hsb 5) 4); omega⟩
  have hrl : r < 4294967296 := by have h1 := numB_lt _ (okB_take (okB_drop hsb 1) 4); rw [show ((s.drop 1).take 4).length = 4 by simp; omega] at h1; omega
  have hul : u < 4294967296 := by have h1 := numB_lt _ (okB_take (okB_drop hsb 5) 4); rw [show ((s.drop 5).take 4).length = 4 by simp; omega] at h1; omega
  obtain ⟨h, hh⟩ : ∃ h : Nat, s.getD 0 0 = h := ⟨(s.getD 0 0).toNat, by have := (hsb (s.getD 0 0) (by rw [List.getD_eq_getElem?_getD, List.getElem?_eq_getElem (by omega : 0 < s.length)]; exact List.getElem_mem _)).1; omega⟩
  have hh256 : h < 256 := by have := (hsb (s.getD 0 0) (by rw [List.getD_eq_getElem?_getD, List.getElem?_eq_getElem (by omega : 0 < s.length)]; exact List.getElem_mem _)).2; omega
  have hop : openP n sf df = if 1 < (h : Int) then none else if s = superB h r u then (if (allB n : Int) < u then none else match splitB u ((halfB n sf df h).take u) with | none => none | some L => if (L.length : Int) = r then some (h, L) else none) else none := by
    unfold openP
    rw [← HS.out, hh, hr, hu]
    simp only [Int.toNat_natCast]
    rfl
  have hs0 : (sc s)[0]? = some (.int .u8 h) := by
    have := hh
    rw [List.getD_eq_getElem?_getD, List.getElem?_eq_getElem (by omega : 0 < s.length)] at this
    simp only [Option.getD_some] at this
    simp [sc, List.getElem?_map, List.getElem?_eq_getElem (by omega : 0 < s.length), this]
  have HOP := Lib.hid hop; have HS64 := Lib.hid hs64; have HSB := Lib.hid hsb; have HR := Lib.hid hr; have HU := Lib.hid hu; have HBY := Lib.hid hby; have HS0 := Lib.hid hs0
  have HD := Lib.hid H
  have HOPH := Lib.hid hh
  clear hop hs64 hsb hr hu hby hs0 H hh
  obtain ⟨z, HZ, hz⟩ := zsec_named
  have Hz := Lib.hid hz; clear hz
  go_enter Try.func16, Try.ntmps16
  go_wp2_with (first
    | (go_at_call 42; refine (len_any d sb mb n sf df _ HD.out).mono ?_; rintro e w1 ⟨rfl, rfl⟩)
    | (go_at_call 39; refine (read_in d sb mb n sf df 0 _ (HD.out.alloc _) (by omega)).mono ?_; rintro e w2 ⟨rfl, hb2⟩; rw [← HS.out]
       have K2 := Lib.hid ((Blk.new w1 (TC0 d) 89).below hb2); have B2 := Lib.hid (bthen (balloc (Below.refl w1.heap.size w1) _) hb2); have D2 := Lib.hid ((HD.out.alloc _).below hb2); clear hb2)
    | ((with_reducible refine sec_alloc secT1 HZ rfl rfl ?_); try simp only [World.size_alloc])
    | ((with_reducible refine is_store 55 (x := .tmp 5) rfl ?_); refine sec_store secT1 rfl _ _ rfl w2.heap.size 0 s HS64.out rfl rfl ((Blk.new _ _ _).secThere Hz.out) ?_;
       have bW : Below w2.heap.size w2 ((w2.alloc (.cells (sc z).toArray 55)).setCells w2.heap.size 0 (sc s)) := below_cells ((Below.refl _ _).alloc (Nat.le_refl _) _) (Nat.le_refl _) _ _;
       have Jw3 := Lib.hid ((Blk.new w2 (sc z).toArray 55).secStore (s' := s) (Hz.out.trans HS64.out.symm));
       have K3 := Lib.hid (K2.out.below bW);
       have B3 := Lib.hid (bthen B2.out bW);
       have D3 := Lib.hid (D2.out.below bW);
       have zw3 := bW.size; clear bW; generalize ((w2.alloc (.cells (sc z).toArray 55)).setCells w2.heap.size 0 (sc s)) = w3 at *))
  have rd1 := Lib.hid (sec_rd Jw3.out HS64.out 1 4 (by omega)); have rd5 := Lib.hid (sec_rd Jw3.out HS64.out 5 4 (by omega))
  have n1 : ∀ k, Calls Try.prog 48 #[.slice (some ⟨w2.heap.size, 1, none⟩) 4 63] (w3.drewN k) fun e w' => e = .returned (.int .i64 r) ∧ w' = w3.drewN k := fun k => by
    have := number_any (some ⟨w2.heap.size, 1, none⟩) 4 63 _ (w3.drewN k) (rd1.out.keep (fun _ _ _ _ => rfl) (Nat.le_refl _)) (by omega) (okB_take (okB_drop HSB.out 1) 4)
    rwa [HR.out] at this
  have n5 : ∀ k, Calls Try.prog 48 #[.slice (some ⟨w2.heap.size, 5, none⟩) 4 59] (w3.drewN k) fun e w' => e = .returned (.int .i64 u) ∧ w' = w3.drewN k := fun k => by
    have := number_any (some ⟨w2.heap.size, 5, none⟩) 4 59 _ (w3.drewN k) (rd5.out.keep (fun _ _ _ _ => rfl) (Nat.le_refl _)) (by omega) (okB_take (okB_drop HSB.out 5) 4)
    rwa [HU.out] at this
  have N1 := Lib.hid n1; have N5 := Lib.hid n5; clear n1 n5
  have c5 : w3.cell? ⟨w2.heap.size, 0, none⟩ = some (.int .u8 h) := by rw [Jw3.out.cell]; simpa using HS0.out
  have f1 := K3.out.fr 1
  have k1 : w3.cell? ⟨w1.heap.size, 1, none⟩ = some (.int .i64 0) := by rw [K3.out.cell]; rfl
  have kl := K3.out.lt
  go_quiet (first
    | (go_at_call 48; with_reducible refine Calls.quiet_of_same (N1.out _))
    | (go_at_call 48; with_reducible refine Calls.quiet_of_same (N5.out _)))
  rename_i nq
  go_wp2
  have hne : w2.heap.size ≠ w1.heap.size := by have := K2.out.lt; omega
  have K4 := Lib.hid (show Blk ((w3.drewN nq).setCell ⟨w1.heap.size, 1, none⟩ (.int .i64 h)) w1.heap.size (TC d h (.slice none 0 0) 0 (.slice none 0 0) false 0) 89 from (K3.out.keep (w' := w3.drewN nq) rfl).set 1 _)
  have J4 := Lib.hid ((Jw3.out.keep (w' := w3.drewN nq) rfl).setOther hne 1 (.int .i64 h))
  obtain ⟨dl1, dl2, dl3⟩ := HD.out.lt
  have HDL := Lib.hid HD.out.lt
  have D4 := Lib.hid (D3.out.keep (w' := (w3.drewN nq).setCell ⟨w1.heap.size, 1, none⟩ (.int .i64 h)) (Below.heap_setCell _ _ _ _ (by show d ≠ w1.heap.size; omega)) (Below.heap_setCell _ _ _ _ (by show sb ≠ w1.heap.size; omega)) (Below.heap_setCell _ _ _ _ (by show mb ≠ w1.heap.size; omega)))
  have B4 := Lib.hid ((below_drewN B3.out nq).setCell (p := ⟨w1.heap.size, 1, none⟩) (Nat.le_refl _) (.int .i64 h))
  clear c5 f1 k1 kl N1 N5 rd1 rd5 K3 Jw3 D3 B3 K2 B2 D2 zw3
  generalize hw4 : (w3.drewN nq).setCell ⟨w1.heap.size, 1, none⟩ (.int .i64 h) = w4 at *
  clear hw4
  generalize hg : w2.heap.size = g at *
  clear hg
  obtain ⟨t, ht⟩ : ∃ t, t = w1.heap.size := ⟨_, rfl⟩
  rw [← ht] at K4 ⊢
  have HT := Lib.hid ht; clear ht hne
  have c41 := K4.out.cell 1; have c42 := K4.out.cell 2
  simp [TC] at c41 c42
  have tl := K4.out.lt; have gl := J4.out.lt
  have hC2 : ¬ (allB n : Int) < u := by have e3 := HU.out; rw [← HS.out, e3] at hC; omega
  clear hC
  have hB2 : s = superB h r u := by have e1 := HOPH.out; have e2 := HR.out; have e3 := HU.out; rw [← HS.out, e1, e2, e3] at hB; exact hB
  have hh1 : h ≤ 1 := by have e := HOPH.out; rw [← HS.out, e] at hA; omega
  have hd : decide ((1 : Int) < (h : Int)) = false := decide_eq_false (by omega)
  clear hA
  obtain ⟨q, hq⟩ : ∃ q, superB h r u = q := ⟨_, rfl⟩
  have hq64 : q.length = 64 := by rw [← hq]; exact fillS_len _
  have hsup : ∀ W, Calls Try.prog 49 #[.int .i64 h, .int .i64 r, .int .i64 u] W fun e w' => e = .returned (.agg (sc q).toArray) ∧ Below W.heap.size W w' := fun W => by
    rw [← hq]; exact super_any h r u W (by omega) (by omega) (by omega) (by omega)
  have HSUP := Lib.hid hsup; have HQ := Lib.hid hq; have HQ64 := Lib.hid hq64
  clear hsup hq hq64
  have hu' := Try.underlying55
  have hi : (Try.prog.info? 55).map (·.size) = some (sc s).length := by rw [sc_len, HS64.out]; exact secSize
  have hl : (sc s).length = 64 := by rw [sc_len, HS64.out]
  have hone := sc_one s
  have hr4 := J4.out.sec
  have heq : ∀ W : World, (Op.equalIn 10000 55 (.agg (sc s).toArray) (.agg (sc q).toArray)).run Try.prog W = .ok true W := fun W => by
    rw [sec_eq Try.underlying55 s q HS64.out HQ64.out W]
    have : s = q := by rw [← HQ.out]; exact hB2
    simp [this]
  have HB2 := Lib.hid hB2
  clear hB hB2
  have hall : ∀ W, Below w4.heap.size w4 W → Calls Try.prog 50 #[.pointer (some ⟨t, 0, none⟩)] W fun e w' => e = .returned (.int .i64 (allB n : Nat)) ∧ w' = W := fun W hW =>
    all_any t d sb mb n sf df W ((⟨⟨_, K4.out, rfl⟩, D4.out⟩ : TapeD w4 t d sb mb n sf df).below hW) (by omega)
  have HALL := Lib.hid hall; clear hall
  have hab := allB_le hsm
  have X4 := Lib.hid (bdrew (Below.refl w4.heap.size w4))
  first | go_region_held3 (fun W => W.cell? ⟨t, 1, none⟩ = some (.int .i64 h) ∧ W.rangeAt g 0 (sc s)) (first | exact ⟨r1, r2⟩ | go_keep)
    (first
      | (go_at_call 49; refine (HSUP.out _).mono ?_; rintro e w5 ⟨rfl, hb5⟩
         have r1 := (hb5.cell (p := ⟨t, 1, none⟩) tl).trans c41; have r2 : w5.rangeAt g 0 (sc s) := rangeAt_keep hr4 (hb5.block _ gl)
         have B5 := Lib.hid (bthen (bdrew B4.out) hb5); have K5 := Lib.hid (K4.out.drew.below hb5); have D5 := Lib.hid (((D4.out.keep (w' := w4.drew) rfl rfl rfl)).below hb5); have z5 : w4.heap.size ≤ w5.heap.size := hb5.size; have B45 := Lib.hid (bthen X4.out hb5); clear hb5)
      | (go_at_call 50; refine (HALL.out _ ?_).mono ?_; exact B45.out; rintro e w6 ⟨rfl, rfl⟩)) | fail
  all_goals
    have c51 := K5.out.cell 1; have c52 := K5.out.cell 2; have c53 := K5.out.cell 3; have f52 := K5.out.fr 2; have f53 := K5.out.fr 3
    simp [TC] at c51 c52 c53
    have TD5 : TapeD _ t d sb mb n sf df := ⟨⟨_, K5.out, rfl⟩, D5.out⟩
    have HTD5 := Lib.hid TD5
    have hlen : ((halfB n sf df h).take u).length = u := by
      have := halfTo_len TD5 hn hh1 (secs n) (Nat.le_refl _)
      unfold allB at hC2
      unfold halfB
      simp; omega
    have HLEN := Lib.hid hlen
    have tl5 := K5.out.lt
    have b5 := B5.out
    have z15 := B5.out.size
    have B5' := Lib.hid b5
    clear r1 r2 c41 c42 tl gl TD5 hlen b5 B5 B4 X4 HALL HSUP hi hl hone hr4 heq hu'
    go_wp2_with (first
      | (go_at_call 52; refine (content_any t d sb mb n sf df h u _ HTD5.out hn hh1 (by omega)).mono ?_; rintro e w7 ⟨v7, rfl, O7, B7⟩; obtain ⟨a7, c7, rfl⟩ := O7.form; rw [HLEN.out] at O7 ⊢
         have K7 := Lib.hid (K5.out.below B7); have D7 := Lib.hid (D5.out.below B7); have B17 := Lib.hid (bthen B5'.out B7); have z7 := B7.size; have HO7 := Lib.hid O7; have cap7 := Lib.hid O7.cap; clear O7 B7))
    refine (split_any _ u _ _ _ HO7.out.rd (okB_take (HBY.out.half n h) u) (by omega) cap7.out.1 cap7.out.2).mono ?_
    rintro e w8 ⟨B8, M8⟩
    have K8 := Lib.hid (K7.out.below B8); have D8 := Lib.hid (D7.out.below B8); have B18 := Lib.hid (bthen B17.out B8); have z8 := B8.size
    have e := HOP.out
    rw [if_neg (by omega), if_pos HB2.out, if_neg (show ¬ (allB n : Int) < u by omega)] at e
    cases hsp : splitB u ((halfB n sf df h).take u) with
    | none =>
      rw [hsp] at M8
      obtain rfl := M8
      rw [hsp] at e
      have E := Lib.hid e
      clear e hsp B8 K7 D7 HO7 cap7
      go_wp2
      go_ret2
      unfold OpenPost
      rw [E.out]
      exact ⟨B18.out, rfl⟩
    | some L =>
      rw [hsp] at M8
      obtain ⟨v8, rfl, R8⟩ := M8
      obtain ⟨a8, c8, rfl⟩ := R8.form
      rw [hsp] at e
      have E := Lib.hid e
      obtain ⟨s1, s2⟩ := splitB_sound _ _ _ (okB_take (HBY.out.half n h) u) hsp
      have hsz : sizeB L = u := by rw [← framesB_len, s1, HLEN.out]
      have hLl := sizeB_len L
      have HSZ := Lib.hid hsz; have HS2 := Lib.hid s2; have HR8 := Lib.hid R8
      have hLb : L.length ≤ 32704 := by omega
      clear e hsp B8 K7 D7 HO7 cap7 s1 s2 hsz R8 hLl
      by_cases hLr : (L.length : Int) = r
      · have HLR := Lib.hid hLr
        have k82 := K8.out.cell 2; have k83 := K8.out.cell 3; have f82 := K8.out.fr 2; have f83 := K8.out.fr 3
        simp [TC] at k82 k83
        have tl8 := K8.out.lt
        clear c51 c52 c53 f52 f53 K5 D5
        go_wp2
        go_ret2
        unfold OpenPost
        rw [E.out, if_pos HLR.out]
        refine ⟨?_, t, fun k => k = d ∨ k = sb ∨ k = mb ∨ (w1.heap.size ≤ k ∧ k < w8.heap.size), rfl, ?_, fun k hk => ?_⟩
        · exact (B18.out.setCell (p := ⟨t, 2, none⟩) (by have := HT.out; show w1.heap.size ≤ t; omega) _).setCell (p := ⟨t, 3, none⟩) (by have := HT.out; show w1.heap.size ≤ t; omega) _
        · have hT := HT.out
          obtain ⟨dl1, dl2, dl3⟩ := HDL.out
          have z18 := B18.out.size
          have hnt : ∀ k, k ≠ t → (((w8.setCell ⟨t, 2, none⟩ (.slice a8 L.length c8)).setCell ⟨t, 3, none⟩ (.int .i64 u)).heap[k]? = w8.heap[k]?) := fun k hk => (Below.heap_setCell _ _ _ _ hk).trans (Below.heap_setCell _ _ _ _ hk)
          refine ⟨fun k hk => ?_, ⟨.slice a8 L.length c8, .slice none 0 0, ?_, ?_, RowR.nil _ _, fun g _ hg => by cases hg⟩, ?_, .inr (.inr (.inr ⟨by omega, by omega⟩)), .inl rfl, .inr (.inl rfl), .inr (.inr (.inl rfl)), ⟨hn, hh1, by show 0 ≤ 4; omega, HS2.out, fun x hx => (by cases hx), by show sizeB L ≤ allB n; rw [HSZ.out]; omega, by show sizeB L + 0 ≤ allB n; rw [HSZ.out]; omega, fun hx => by exact absurd hx (by show ¬ 0 < 0; omega)⟩⟩
          · show k < _
            simp [World.setCell]
            rcases hk with hk | hk | hk | hk <;> omega
          · have := (K8.out.set 2 (.slice a8 L.length c8)).set 3 (.int .i64 u)
            rw [← HSZ.out] at this ⊢
            exact this
          · refine (HR8.out.same (fun k hk => hnt k ?_)).mono (fun k hk => .inr (.inr (.inr ⟨?_, hk.2⟩)))
            · have := hk.1; omega
            · have := hk.1; have := B17.out.size; omega
          · exact D8.out.keep (hnt d (by omega)) (hnt sb (by omega)) (hnt mb (by omega))
        · rcases hk with hk | hk | hk | hk
          · exact .inl hk
          · exact .inr (.inl hk)
          · exact .inr (.inr (.inl hk))
          · exact .inr (.inr (.inr hk.1))
      · have E2 := Lib.hid (E.out.trans (if_neg hLr))
        go_wp2
        go_ret2
        unfold OpenPost
        rw [E2.out]
        exact ⟨B18.out, rfl⟩

theorem open_any (d sb mb n : Nat) (sf : List Sec) (df : Int → Option Sec) (w : World) (H : DiskIs w d sb mb n sf df) (hn : 3 ≤ n) (hby : BytesS sf df) :
    Calls Try.prog 16 #[.pointer (some ⟨d, 0, none⟩)] w (OpenPost w d sb mb n sf df) := by
  by_cases hA : 1 < (curS sf df 0).getD 0 0
  · exact open_a d sb mb n sf df w H hn hby hA
  · by_cases hB : curS sf df 0 = superB ((curS sf df 0).getD 0 0) (numB (((curS sf df 0).drop 1).take 4)) (numB (((curS sf df 0).drop 5).take 4))
    · by_cases hC : (allB n : Int) < numB (((curS sf df 0).drop 5).take 4)
      · exact open_c d sb mb n sf df w H hn hby hA hB hC
      · exact open_d d sb mb n sf df w H hn hby hA hB hC
    · exact open_b d sb mb n sf df w H hn hby hA hB
end Go.Proofs.Ytlgimhhhlpmjcaa
