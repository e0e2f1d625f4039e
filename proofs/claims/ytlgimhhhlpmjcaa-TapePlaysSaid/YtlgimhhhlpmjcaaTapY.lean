/- The tape: the live question. -/
import Derived.Test.YtlgimhhhlpmjcaaTapX
import Derived.Laws.BytesArg
set_option linter.unusedVariables false
set_option linter.unusedSimpArgs false
namespace Go.Proofs.Ytlgimhhhlpmjcaa
open Go.RowKit Go.Maps Go.WideMaps Go.Shelf

theorem own8_string {W : World} {base : Nat} {v : Value} {xs : Bs} (h : Own8 W base v xs) : (convert 31 9 v).run Try.prog W = .ok (.string (strOfNums xs)) W := by
  rcases h.2 with ⟨rfl, h0⟩ | ⟨g, cap, cur, rfl, hb, hg, _⟩
  · have : xs = [] := List.eq_nil_of_length_eq_zero h0
    subst this
    exact run_convert_bytes_nil W 31 5 Try.underlying31 Try.underlying5 0 0 9 Try.underlying9
  · refine run_convert_bytes_arg W 31 5 Try.underlying31 Try.underlying5 g 0 xs.length cap _ rfl (fun i hi => ?_) 9 Try.underlying9
    have hc := h.cells (g := g) rfl i (.int .u8 xs[i]) (by simp [sc, hi])
    rw [add_none] at hc
    rw [hc]
    simp [List.getD_eq_getElem?_getD, hi]
theorem zs_bytes (n : Nat) : BytesS (List.replicate n zsec) (fun _ => none) := ⟨fun s hs => by rw [(List.mem_replicate.1 hs).2]; exact okB_replicate 64, fun i s h => by cases h⟩
theorem cur_zs (n i : Nat) : curS (List.replicate n zsec) (fun _ => none) i = zsec := by
  unfold curS
  simp only [Option.getD_none]
  rw [List.getD_eq_getElem?_getD, List.getElem?_replicate]
  split <;> rfl
theorem open_new (n : Nat) : openP n (List.replicate n zsec) (fun _ => none) = some (0, []) := by
  unfold openP
  rw [cur_zs]
  rw [if_neg (by decide +kernel), if_pos (by decide +kernel)]
  have e0 : numB ((zsec.drop 5).take 4) = 0 := by decide +kernel
  have e1 : numB ((zsec.drop 1).take 4) = 0 := by decide +kernel
  have e2 : zsec.getD 0 0 = 0 := by decide +kernel
  rw [e0, e1, e2, if_neg (by omega)]
  rfl
def hi2 : Bs := [104, 105]
def lv0 : TD := ⟨5, List.replicate 5 zsec, fun _ => none, 0, [], [], false, 0⟩
def lv1 : TD := ⟨5, List.replicate 5 zsec, fun _ => none, 0, [], [hi2], false, 0⟩
theorem lv_err : errA lv0 hi2 = 0 := by decide +kernel
theorem lv_app : appP lv0 hi2 = lv1 := by unfold appP; rw [lv_err]; rfl
theorem lv_L : (commitP lv1).L = [hi2] := by decide +kernel
theorem lv_dn : (commitP lv1).n = 5 := by decide +kernel
theorem lv_room : roomP (commitP lv1) = 124 := by decide +kernel
theorem lv_sec : (curS (commitP lv1).sf (commitP lv1).df 1).take 5 = [0, 2, 104, 105, 0] := by decide +kernel
theorem str5 : strOfNums [0, 2, 104, 105, 0] = ⟨#[0, 2, 104, 105, 0]⟩ := by decide +kernel
theorem str2 : strOfNums hi2 = ⟨#[104, 105]⟩ := by decide +kernel

set_option maxRecDepth 100000 in
set_option maxHeartbeats 4000000 in
theorem talive_any (w : World) : Calls Try.prog 14 #[] w fun e w' => e = .returned (.bool true) ∧ Below w.heap.size w w' := by
  obtain ⟨z, HZ, hz⟩ := zsec_named
  have Hz := Lib.hid hz; clear hz
  go_enter Try.func14, Try.ntmps14
  go_wp2_with fail
  refine (new_ok 5 w (by omega) (by omega)).mono ?_
  rintro e w1 ⟨d, sb, mb, rfl, hD, l1, l2, l3, hB⟩
  have HD := Lib.hid hD; have HL := Lib.hid (And.intro l1 (And.intro l2 l3)); have HB := Lib.hid hB
  clear hD l1 l2 l3 hB
  go_wp2_with fail
  refine (open_any d sb mb 5 _ _ w1 HD.out (by omega) (zs_bytes 5)).mono ?_
  rintro e w2 hO
  unfold OpenPost at hO
  rw [open_new 5] at hO
  obtain ⟨hB2, t, F, rfl, hT, hF⟩ := hO
  have HT := Lib.hid (show TapeIs w2 F t d sb mb lv0 from hT); have HB2 := Lib.hid (bthen HB.out hB2)
  have hF2 : ∀ k, F k → w.heap.size ≤ k := fun k hk => by
    have hl := HL.out
    have hz := HB.out.size
    rcases hF k hk with e | e | e | e <;> omega
  have HF := Lib.hid hF2
  clear hT hF hB2 hF2
  have kcv := fun (W : World) (C : Array Value) (n c : Nat) => Lib.run_convert_bytes_const (P := Try.prog) W 31 5 C n c Try.underlying31 Try.underlying5
  go_wp2_with fail
  have HTa := Lib.hid (HT.out.below (balloc (Below.refl w2.heap.size w2) (.cells #[.int .u8 104, .int .u8 105] 5 (2, 3))))
  have hrd : RdU8 (w2.alloc (.cells #[.int .u8 104, .int .u8 105] 5 (2, 3))) (some ⟨w2.heap.size, 0, none⟩) 2 hi2 := litBytes w2 hi2 2 rfl (2, 3)
  refine (append_any t d sb mb F lv0 (some ⟨w2.heap.size, 0, none⟩) 2 2 hi2 _ HTa.out hrd (okB_cons (by omega) (by omega) (okB_cons (by omega) (by omega) okB_nil)) (by omega) (fun h => by cases h)).mono ?_
  rintro e w3 ⟨rfl, hP⟩
  rw [lv_err, lv_app] at *
  obtain ⟨hk3, F3, hT3, hF3⟩ := hP
  have HT3 := Lib.hid hT3
  have HB3 := Lib.hid (hk3.below (B := w.heap.size) (by have := HB2.out.size; simp; omega) HF.out)
  have HB03 := Lib.hid ((balloc HB2.out (.cells #[.int .u8 104, .int .u8 105] 5 (2, 3))).trans HB3.out)
  have HF3 := Lib.hid (fun k (hk : F3 k) => (by rcases hF3 k hk with e | e; exact HF.out k e; have := HB2.out.size; simp at e; omega : w.heap.size ≤ k))
  clear hk3 hT3 hF3 hrd
  go_wp2_with fail
  refine (commit_any t d sb mb F3 lv1 w3 HT3.out (by show 0 ≤ 3; omega)).mono ?_
  rintro e w4 ⟨rfl, hP⟩
  obtain ⟨hk4, F4, hT4, hF4⟩ := hP
  have HT4 := Lib.hid hT4
  have HB4 := Lib.hid (HB03.out.trans (hk4.below (B := w.heap.size) HB03.out.size HF3.out))
  clear hk4 hT4 hF4
  go_wp2_with fail
  have h5 := lv_dn
  refine (read_in d sb mb _ _ _ 1 w4 HT4.out.disk (by rw [h5]; omega)).mono ?_
  rintro e w4' ⟨rfl, hB5⟩
  obtain ⟨s, hs⟩ : ∃ s, curS (commitP lv1).sf (commitP lv1).df 1 = s := ⟨_, rfl⟩
  rw [hs]
  have hs64 : s.length = 64 := by rw [← hs]; exact HT4.out.td.curLen (by rw [h5]; omega)
  have hs5 : s.take 5 = [0, 2, 104, 105, 0] := by rw [← hs]; exact lv_sec
  have HS64 := Lib.hid hs64; have HS5 := Lib.hid hs5
  have HT4' := Lib.hid (HT4.out.below hB5); have HB4' := Lib.hid (bthen HB4.out hB5)
  clear hs64 hs5 hs h5 HT4 HB4 hB5
  clear kcv
  go_wp2_with (first
    | ((with_reducible refine sec_alloc secT1 HZ rfl rfl ?_); try simp only [World.size_alloc])
    | ((with_reducible refine is_store 55 (x := .tmp 7) rfl ?_); refine sec_store secT1 rfl _ _ rfl w4'.heap.size 0 s HS64.out rfl rfl ((Blk.new _ _ _).secThere Hz.out) ?_;
       have bW : Below w4'.heap.size w4' ((w4'.alloc (.cells (sc z).toArray 55)).setCells w4'.heap.size 0 (sc s)) := below_cells ((Below.refl _ _).alloc (Nat.le_refl _) _) (Nat.le_refl _) _ _;
       have Jw5 := Lib.hid ((Blk.new w4' (sc z).toArray 55).secStore (s' := s) (Hz.out.trans HS64.out.symm));
       have T5 := Lib.hid (HT4'.out.below bW);
       have B5 := Lib.hid (bthen HB4'.out bW);
       have zw5 := bW.size; clear bW; generalize ((w4'.alloc (.cells (sc z).toArray 55)).setCells w4'.heap.size 0 (sc s)) = w5 at *)    )
  have hl0 : 0 < (commitP lv1).L.length := by rw [lv_L]; decide
  have hL0 : (commitP lv1).L[0] = hi2 := (List.getElem_of_eq lv_L hl0).trans rfl
  refine (tread_in t d sb mb F4 (commitP lv1) 0 w5 T5.out hl0).mono ?_
  rintro e w6 ⟨v6, rfl, O6, B6⟩
  rw [hL0] at O6
  obtain ⟨a6, c6, rfl⟩ := O6.form
  have hcv2 := own8_string O6
  rw [str2, show hi2.length = 2 from rfl] at hcv2
  rw [show hi2.length = 2 from rfl]
  have hcv1 := sec_string (m := 5) (c := 64) (Jw5.out.below B6) (by rw [HS64.out]; omega)
  rw [HS5.out, str5] at hcv1
  have HT6 := Lib.hid (T5.out.below B6); have HB6 := Lib.hid (bthen B5.out B6)
  have hlen := congrArg List.length lv_L
  have HLEN := Lib.hid (show (((commitP lv1).L.length : Nat) : Int) = 1 by rw [hlen]; rfl)
  clear O6 B6 hl0 hL0 hlen zw5
  go_wp2_with (first
    | (go_at_call 23; refine (room_any t d sb mb F4 (commitP lv1) _ HT6.out).mono ?_; rintro e w7 ⟨rfl, B7⟩; rw [lv_room]; have HT7 := Lib.hid (HT6.out.below B7); have HB7 := Lib.hid (bthen HB6.out B7); clear B7)
    | (go_at_call 19; refine (tlen_any t d sb mb F4 (commitP lv1) _ HT7.out).mono ?_; rintro e w8 ⟨rfl, hw8⟩; rw [hw8, HLEN.out]; clear hw8 w8))
  go_ret
  exact ⟨rfl, HB7.out⟩
end Go.Proofs.Ytlgimhhhlpmjcaa
