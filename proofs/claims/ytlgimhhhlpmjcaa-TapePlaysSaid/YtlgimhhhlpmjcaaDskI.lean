/- A live disk. -/
import Derived.Test.YtlgimhhhlpmjcaaDskH
set_option linter.unusedVariables false
set_option linter.unusedSimpArgs false
namespace Go.Proofs.Ytlgimhhhlpmjcaa
open Go.RowKit Go.Maps Go.WideMaps Go.Shelf

theorem Kept.low {w w' : World} {sb mb B : Nat} (h : Kept w w' (fun k => k = sb ∨ k = mb)) (hB : B ≤ w.heap.size) (h1 : B ≤ sb) (h2 : B ≤ mb) : Below B w w' :=
  h.below hB (fun k hk => by rcases hk with rfl | rfl <;> assumption)
theorem grown_low {w w' : World} {mb B : Nat} (h : w.grownBy w' (some mb)) (hB : B ≤ w.heap.size) (h2 : B ≤ mb) : Below B w w' := below_of_grownBy h hB (fun k e => by cases e; exact h2)

set_option maxRecDepth 100000 in
set_option maxHeartbeats 2000000 in
theorem alive_any (w : World) : Calls Try.prog 29 #[] w fun e w' => e = .returned (.bool true) ∧ Below w.heap.size w w' := by
  have kc := fun (W : World) (C : Array Value) (n c : Nat) => Lib.run_convert_bytes_const (P := Try.prog) W 31 5 C n c Try.underlying31 Try.underlying5
  obtain ⟨Z, HZ⟩ : ∃ Z, Hid (Z = List.replicate 3 zsec) := ⟨_, Lib.hid rfl⟩
  obtain ⟨so, HO⟩ : ∃ s, Hid (s = fillS old3) := ⟨_, Lib.hid rfl⟩
  obtain ⟨sn, HN⟩ : ∃ s, Hid (s = fillS new3) := ⟨_, Lib.hid rfl⟩
  obtain ⟨z, HZZ⟩ : ∃ s, Hid (s = zsec) := ⟨_, Lib.hid rfl⟩
  have LO : Hid (so.length = 64) := Lib.hid (by rw [HO.out]; exact fillS_len _)
  have LN : Hid (sn.length = 64) := Lib.hid (by rw [HN.out]; exact fillS_len _)
  have LZ : Hid (z.length = 64) := Lib.hid (by rw [HZZ.out]; exact zsec_len)
  go_enter Try.func29, Try.ntmps29
  go_wp2_with fail
  refine (show Calls Try.prog 15 #[.int .i64 3] w (NewPost w 3) from new_ok 3 w (by omega) (by omega)).mono ?_
  rintro e w1 ⟨d, sb, mb, rfl, hD, l1, l2, l3, hb⟩
  rw [← HZ.out] at hD
  have D1 := Lib.hid hD; have B1 := Lib.hid hb; have z1 := hb.size; clear hD hb
  go_wp2_with fail
  refine (fill_any _ 3 3 old3 _ (litBytes w1 old3 3 rfl (3, 4))).mono ?_
  rintro e w2 ⟨rfl, hb⟩
  rw [← HO.out]
  have B2 := Lib.hid ((B1.out.alloc z1 _).trans (hb.mono (by simp; omega))); have D2 := Lib.hid ((D1.out.alloc _).below hb); have z2 := B2.out.size; clear hb
  go_wp2_with fail
  refine (write_any d sb mb 3 Z _ 1 so w2 D2.out LO.out).mono ?_
  rintro e w3 ⟨rfl, hD, hg⟩
  have D3 := Lib.hid hD; have B3 := Lib.hid (B2.out.trans (grown_low hg z2 l3)); have z3 := B3.out.size; clear hD hg
  go_wp2_with fail
  refine (flush_any d sb mb 3 Z _ w3 D3.out).mono ?_
  rintro e w4 ⟨rfl, hD, hk⟩
  have D4 := Lib.hid hD; have B4 := Lib.hid (B3.out.trans (hk.low z3 l2 l3)); have z4 := B4.out.size; clear hD hk
  go_wp2_with fail
  refine (fill_any _ 3 3 new3 _ (litBytes w4 new3 3 rfl (3, 4))).mono ?_
  rintro e w5 ⟨rfl, hb⟩
  rw [← HN.out]
  have B5 := Lib.hid ((B4.out.alloc z4 _).trans (hb.mono (by simp; omega))); have D5 := Lib.hid ((D4.out.alloc _).below hb); have z5 := B5.out.size; clear hb
  go_wp2_with fail
  refine (write_any d sb mb 3 _ _ 1 sn w5 D5.out LN.out).mono ?_
  rintro e w6 ⟨rfl, hD, hg⟩
  have D6 := Lib.hid hD; have B6 := Lib.hid (B5.out.trans (grown_low hg z5 l3)); have z6 := B6.out.size; clear hD hg
  go_wp2_with fail
  refine (fill_nil _).mono ?_
  rintro e w7 ⟨rfl, hb⟩
  rw [← HZZ.out]
  have B7 := Lib.hid (B6.out.trans (hb.mono z6)); have D7 := Lib.hid (D6.out.below hb); have z7 := B7.out.size; clear hb
  go_wp2_with fail
  refine (write_any d sb mb 3 _ _ 3 z w7 D7.out LZ.out).mono ?_
  rintro e w8 ⟨rfl, hD, hg⟩
  have D8 := Lib.hid hD; have B8 := Lib.hid (B7.out.trans (grown_low hg z7 l3)); have z8 := B8.out.size; clear hD hg
  have E41 : errD 3 3 = 41 := by decide
  rw [E41]
  go_wp2_with fail
  refine (crash_any d sb mb 3 _ _ none 0 0 [] w8 D8.out (RdBo.nil _ _)).mono ?_
  rintro e w9 ⟨x, xs, xm, rfl, hX, _, _, _, hb⟩
  have X9 := Lib.hid hX; have D9 := Lib.hid (D8.out.below hb); have B9 := Lib.hid (B8.out.trans (hb.mono z8)); have z9 := B9.out.size; clear hX hb
  go_wp2_with fail
  refine (read_any x xs xm 3 _ _ 1 w9 X9.out).mono ?_
  rintro e w10 ⟨rfl, hb⟩
  rw [show rdD 3 _ (fun _ => none) 1 = so by rw [HO.out, HZ.out, HN.out, HZZ.out]; exact live_old]
  have D10 := Lib.hid (D9.out.below hb); have B10 := Lib.hid (B9.out.trans (hb.mono z9)); have z10 := B10.out.size; clear hb X9
  have k10 := Blk.new w10 (sc z).toArray 55
  have K11 := Lib.hid (k10.secStore (s' := so) (LZ.out.trans LO.out.symm))
  have bW : Below w10.heap.size w10 ((w10.alloc (.cells (sc z).toArray 55)).setCells w10.heap.size 0 (sc so)) := below_cells ((Below.refl _ _).alloc (Nat.le_refl _) _) (Nat.le_refl _) _ _
  have D11 := Lib.hid (D10.out.below bW); have B11 := Lib.hid (B10.out.trans (bW.mono z10)); have T10 := Lib.hid (k10.secThere LZ.out)
  have z11 := B11.out.size
  clear bW k10
  go_wp2_with (first
    | ((with_reducible refine sec_alloc secT1 HZZ rfl rfl ?_); try simp only [World.size_alloc])
    | ((with_reducible refine is_store 55 (x := .tmp 4) rfl ?_); refine sec_store secT1 rfl _ _ rfl w10.heap.size 0 so LO.out rfl rfl T10.out ?_;
       generalize ((w10.alloc (.cells (sc z).toArray 55)).setCells w10.heap.size 0 (sc so)) = w11 at *))
  have RB := Lib.hid (litBools w11 [true] 1 rfl)
  have D11a := Lib.hid (D11.out.alloc (.cells #[.bool true] 4))
  refine (crash_any d sb mb 3 _ _ _ 1 1 [true] _ D11a.out RB.out).mono ?_
  rintro e w12 ⟨y, ys, ym, rfl, hX, _, _, _, hb⟩
  have ba : Below w11.heap.size w11 (w11.alloc (.cells #[.bool true] 4)) := (Below.refl _ _).alloc (Nat.le_refl _) _
  have bb := ba.trans (hb.mono ba.size)
  have X12 := Lib.hid hX; have D12 := Lib.hid (D11.out.below bb); have B12 := Lib.hid (B11.out.trans (bb.mono z11)); have K12 := Lib.hid (K11.out.below bb); have z12 := B12.out.size; clear hX hb ba bb RB D11a K11
  go_wp2_with fail
  refine (read_any y ys ym 3 _ _ 1 w12 X12.out).mono ?_
  rintro e w13 ⟨rfl, hb⟩
  rw [show rdD 3 _ (fun _ => none) 1 = sn by rw [HO.out, HZ.out, HN.out, HZZ.out]; exact live_new]
  have D13 := Lib.hid (D12.out.below hb); have B13 := Lib.hid (B12.out.trans (hb.mono z12)); have K13 := Lib.hid (K12.out.below hb); have z13 := B13.out.size; clear hb X12
  have k13 := Blk.new w13 (sc z).toArray 55
  have J14 := Lib.hid (k13.secStore (s' := sn) (LZ.out.trans LN.out.symm))
  have bW : Below w13.heap.size w13 ((w13.alloc (.cells (sc z).toArray 55)).setCells w13.heap.size 0 (sc sn)) := below_cells ((Below.refl _ _).alloc (Nat.le_refl _) _) (Nat.le_refl _) _ _
  have D14 := Lib.hid (D13.out.below bW); have B14 := Lib.hid (B13.out.trans (bW.mono z13)); have K14 := Lib.hid (K13.out.below bW); have T13 := Lib.hid (k13.secThere LZ.out)
  have z14 := B14.out.size
  clear bW k13
  go_wp2_with (first
    | ((with_reducible refine sec_alloc secT1 HZZ rfl rfl ?_); try simp only [World.size_alloc])
    | ((with_reducible refine is_store 55 (x := .tmp 6) rfl ?_); refine sec_store secT1 rfl _ _ rfl w13.heap.size 0 sn LN.out rfl rfl T13.out ?_;
       generalize ((w13.alloc (.cells (sc z).toArray 55)).setCells w13.heap.size 0 (sc sn)) = w14 at *;
       have c4 := sec_string (m := 4) (c := 64) K14.out (by rw [LO.out]; omega);
       have c6 := sec_string (m := 3) (c := 64) J14.out (by rw [LN.out]; omega);
       rw [show strOfNums (so.take 4) = ⟨#[111, 108, 100, 0]⟩ by rw [HO.out]; decide +kernel] at c4;
       rw [show strOfNums (sn.take 3) = ⟨#[110, 101, 119]⟩ by rw [HN.out]; decide +kernel] at c6)
    | (go_at_call 42; refine (len_any d sb mb 3 _ _ _ D14.out).mono ?_; rintro e w15 ⟨rfl, rfl⟩)
    | (go_at_call 41; refine (dirty_any d sb mb 3 _ _ _ D14.out).mono ?_; rintro e w16 ⟨da, dc, rfl, -, hb16⟩; have B16 := Lib.hid (B14.out.trans (hb16.mono z14)); clear hb16; rw [show (dirtyI 3 _).length = 1 by rw [HN.out, HZZ.out, live_dirty]; rfl]))
  go_ret
  exact ⟨rfl, B16.out⟩
end Go.Proofs.Ytlgimhhhlpmjcaa
