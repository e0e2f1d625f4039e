/- The tape: content. -/
import Derived.Test.YtlgimhhhlpmjcaaTapE
set_option linter.unusedVariables false
set_option linter.unusedSimpArgs false
namespace Go.Proofs.Ytlgimhhhlpmjcaa
open Go.RowKit Go.Maps Go.WideMaps Go.Shelf

theorem TapeD.curLen {w : World} {t d sb mb n : Nat} {sf : List Sec} {df : Int → Option Sec} (h : TapeD w t d sb mb n sf df) {i : Nat} (hi : i < n) : (curS sf df i).length = 64 :=
  curS_len h.disk.len h.disk.each h.disk.sup hi
theorem sec_in {n h k : Nat} (hn : 3 ≤ n) (hh : h ≤ 1) (hk : k < secs n) : 1 + h * secs n + k < n := by
  have : h = 0 ∨ h = 1 := by omega
  rcases this with rfl | rfl <;> unfold secs at * <;> omega
theorem halfTo_len {w : World} {t d sb mb n : Nat} {sf : List Sec} {df : Int → Option Sec} (H : TapeD w t d sb mb n sf df) {h : Nat} (hn : 3 ≤ n) (hh : h ≤ 1) : ∀ k, k ≤ secs n → (halfTo n sf df h k).length = 64 * k := by
  intro k
  induction k with
  | zero => intro _; rfl
  | succ k ih =>
    intro hk
    rw [halfTo_succ, List.length_append, ih (by omega), H.curLen (sec_in hn hh hk)]
    omega

theorem half_pre (n : Nat) (sf : List Sec) (df : Int → Option Sec) (h j : Nat) : ∀ m, ∃ r, halfTo n sf df h (j + m) = halfTo n sf df h j ++ r := by
  intro m
  induction m with
  | zero => exact ⟨[], by simp⟩
  | succ m ih =>
    obtain ⟨r, hr⟩ := ih
    exact ⟨r ++ curS sf df (1 + h * secs n + (j + m)), by rw [← Nat.add_assoc, halfTo_succ, hr, List.append_assoc]⟩
theorem half_take {n : Nat} {sf : List Sec} {df : Int → Option Sec} {h j k : Nat} (hj : j ≤ secs n) (hk : k ≤ (halfTo n sf df h j).length) : (halfTo n sf df h j).take k = (halfB n sf df h).take k := by
  obtain ⟨r, hr⟩ := half_pre n sf df h j (secs n - j)
  rw [show j + (secs n - j) = secs n by omega] at hr
  unfold halfB
  rw [hr, List.take_append_of_le_length hk]
theorem Own8.cap {w : World} {base m c : Nat} {a : Option Addr} {xs : Bs} (h : Own8 w base (.slice a m c) xs) : m ≤ c ∧ c ≤ maxLen := by
  rcases h.2 with ⟨e, e0⟩ | ⟨g, cap, cur, e, e1, e2, e3, e4, _⟩
  · cases e; unfold maxLen; omega
  · cases e; exact ⟨e3, e4⟩
/-- The first of them. -/
theorem cut_own {w : World} {base m k c : Nat} {a : Option Addr} {xs : Bs} (h : Own8 w base (.slice a m c) xs) (hm : xs.length = m) (hk : k ≤ m) : Own8 w base (.slice a k c) (xs.take k) := by
  have hl : (xs.take k).length = k := by simp; omega
  unfold Own8
  rw [hl]
  obtain ⟨h1, h2⟩ := h
  refine ⟨by simp [sc_len, hl], ?_⟩
  rcases h2 with ⟨e, e0⟩ | ⟨g, cap, cur, e, e1, e2, e3, e4, e5, e6⟩
  · cases e
    have : k = 0 := by omega
    subst this
    exact .inl ⟨rfl, rfl⟩
  · cases e
    refine .inr ⟨g, c, cur, rfl, e1, e2, by omega, e4, e5, ?_⟩
    have : sc (xs.take k) = (sc xs).take k := by simp [sc]
    rw [this, ← e6, List.take_take]
    congr 1
    omega

set_option maxRecDepth 100000 in
set_option maxHeartbeats 2000000 in
theorem content_any (t d sb mb n : Nat) (sf : List Sec) (df : Int → Option Sec) (h k : Nat) (w : World) (H : TapeD w t d sb mb n sf df) (hn : 3 ≤ n) (hh : h ≤ 1) (hk : k ≤ allB n) :
    Calls Try.prog 52 #[.pointer (some ⟨t, 0, none⟩), .int .i64 h, .int .i64 k] w fun e w' => ∃ v, e = .returned v ∧ Own8 w' w.heap.size v ((halfB n sf df h).take k) ∧ Below w.heap.size w w' := by
  have hs := secs_le n H.disk.small
  have hka : k ≤ secs n * 64 := hk
  have HD := Lib.hid H; have HLEN := Lib.hid (halfTo_len H hn hh); have HCUR := Lib.hid (fun j (hj : j < secs n) => H.curLen (sec_in hn hh hj))
  have hn1 : 1 ≤ n := by omega
  obtain ⟨z, HZ, hz⟩ := zsec_named
  have Hz := Lib.hid hz; clear hz
  clear H hk
  go_enter Try.func52, Try.ntmps52
  go_wp2
  go_loopw [7, 8] (fun v i wr => ∃ j : Nat, j ≤ secs n ∧ i = .int .i64 j ∧ Hid (Own8 wr w.heap.size v (halfTo n sf df h j)) ∧ Hid (Below w.heap.size w wr)) (fun _ i _ => secs n - (intOf i).toNat)
  case atStart => exact ⟨0, Nat.zero_le _, rfl, Lib.hid (Own8.nil _ _), Lib.hid (Below.refl _ _)⟩
  case round =>
    obtain ⟨j, hj, rfl, hO, hB⟩ := hrel
    have hlen := HLEN.out j hj
    obtain ⟨va, vc, rfl⟩ := hO.out.form
    by_cases hlt : 64 * j < k
    · have hjs : j < secs n := by omega
      rw [hlen] at hO
      rw [hlen]
      have HL := Lib.hid hlen; clear hlen
      have hD := HD.out.below hB.out
      have c0 := hD.c0
      have tl := World.block_lt_of_cell? wr _ c0
      have HC0 := Lib.hid c0
      have X1 : Hid (Below wr.heap.size wr wr.drew) := Lib.hid (bdrew (Below.refl _ _))
      obtain ⟨s, HS⟩ : ∃ s, Hid (s = curS sf df (1 + h * secs n + j)) := ⟨_, Lib.hid rfl⟩
      have hsl : s.length = 64 := by rw [HS.out]; exact HCUR.out j hjs
      have HSL := Lib.hid hsl; clear hsl
      have hin := sec_in hn hh hjs
      have hsec : ∀ W, Below wr.heap.size wr W → Calls Try.prog 80 #[.pointer (some ⟨t, 0, none⟩), .int .i64 h, .int .i64 j] W fun e w' => e = .returned (.int .i64 (1 + h * secs n + j : Nat)) ∧ w' = W := fun W hW => sector_any t d sb mb n sf df h j W (hD.below hW) hn1 hh (by omega)
      have hrd : ∀ W, Below wr.heap.size wr W → Calls Try.prog 39 #[.pointer (some ⟨d, 0, none⟩), .int .i64 (1 + h * secs n + j : Nat)] W fun e w' => e = .returned (.tuple #[.agg (sc s).toArray, .int .i64 0]) ∧ Below wr.heap.size wr w' ∧ Below W.heap.size W w' := fun W hW =>
        (read_in d sb mb n sf df (1 + h * secs n + j) W (hD.below hW).disk hin).mono fun e w' h => ⟨by rw [HS.out]; exact h.1, hW.trans (h.2.mono hW.size), h.2⟩
      have HSEC := Lib.hid hsec; have HRD := Lib.hid hrd; clear hsec hrd hD
      have zr := hB.out.size
      have hlit : (#[.int .u8 0, .int .u8 0, .int .u8 0, .int .u8 0, .int .u8 0, .int .u8 0, .int .u8 0, .int .u8 0, .int .u8 0, .int .u8 0, .int .u8 0, .int .u8 0, .int .u8 0, .int .u8 0, .int .u8 0, .int .u8 0, .int .u8 0, .int .u8 0, .int .u8 0, .int .u8 0, .int .u8 0, .int .u8 0, .int .u8 0, .int .u8 0, .int .u8 0, .int .u8 0, .int .u8 0, .int .u8 0, .int .u8 0, .int .u8 0, .int .u8 0, .int .u8 0, .int .u8 0, .int .u8 0, .int .u8 0, .int .u8 0, .int .u8 0, .int .u8 0, .int .u8 0, .int .u8 0, .int .u8 0, .int .u8 0, .int .u8 0, .int .u8 0, .int .u8 0, .int .u8 0, .int .u8 0, .int .u8 0, .int .u8 0, .int .u8 0, .int .u8 0, .int .u8 0, .int .u8 0, .int .u8 0, .int .u8 0, .int .u8 0, .int .u8 0, .int .u8 0, .int .u8 0, .int .u8 0, .int .u8 0, .int .u8 0, .int .u8 0, .int .u8 0] : Array Value) = (sc z).toArray := by rw [HZ.out]; kernel_rfl
      have hone := sc_one s
      have hl64 : (sc s).length = 64 := by rw [sc_len, HSL.out]
      have hi : (Try.prog.info? 55).map (·.size) = some (sc s).length := by rw [hl64]; exact secSize
      have HLIT := Lib.hid hlit; have HL64 := Lib.hid hl64; clear hlit hl64
      have X2' := bdrew (balloc (Below.refl wr.heap.size wr) (.cells (sc z).toArray 55))
      have NB' := Blk.drew (Blk.new wr (sc z).toArray 55)
      rw [← HLIT.out] at X2'
      rw [← HLIT.out] at NB'
      have X2 := Lib.hid X2'; have NB := Lib.hid NB'; clear X2' NB'
      go_wp2_with fail
      go_region_held3 (fun W => W.cell? ⟨t, 0, none⟩ = some (.pointer (some ⟨d, 0, none⟩))) (first | exact r0 | exact r1 | exact r2 | go_keep)
        (first
          | (go_at_call 80; refine (HSEC.out _ ?_).mono ?_; (first | exact X1.out | exact X2.out); rintro e w3 ⟨rfl, rfl⟩)
          | (go_at_call 39; refine (HRD.out _ ?_).mono ?_; (first | exact X1.out | exact X2.out); rintro e w4 ⟨rfl, hbA, hbB⟩
             have r0 := (hbA.cell (p := ⟨t, 0, none⟩) tl).trans HC0.out
             have tT := (Blk.new w4 (sc z).toArray 55).secThere Hz.out
             have bW : Below w4.heap.size w4 ((w4.alloc (.cells (sc z).toArray 55)).setCells w4.heap.size 0 (sc s)) := below_cells ((Below.refl _ _).alloc (Nat.le_refl _) _) (Nat.le_refl _) _ _
             have r1 := (bW.cell (p := ⟨t, 0, none⟩) (Nat.lt_of_lt_of_le tl hbA.size)).trans r0
             have JW := Lib.hid ((Blk.new w4 (sc z).toArray 55).secStore (s' := s) (Hz.out.trans HSL.out.symm))
             rw [← HLIT.out] at tT bW r1
             rw [← HL64.out] at tT
             have BW := Lib.hid (bthen hbA bW); clear bW
             try (have nb := NB.out.below hbB; rw [HLIT.out] at nb; have tT2 := nb.secThere Hz.out; rw [← HL64.out] at tT2; have JW2 := Lib.hid (nb.secStore (s' := s) (Hz.out.trans HSL.out.symm)); have bW2 : Below wr.heap.size wr (w4.setCells wr.heap.size 0 (sc s)) := below_cells hbA (Nat.le_refl _) _ _; have r2 := (bW2.cell (p := ⟨t, 0, none⟩) tl).trans HC0.out; have BW2 := Lib.hid bW2; clear nb bW2)
             clear hbA hbB))
      all_goals
        first
          | (have BX := BW2; have JX := JW2; generalize w4.setCells wr.heap.size 0 (sc s) = wX at BX JX ⊢; generalize wr.heap.size = L at JX ⊢)
          | (have BX := BW; have JX := JW; rw [← HLIT.out] at JX; generalize (w4.alloc (.cells #[.int .u8 0, .int .u8 0, .int .u8 0, .int .u8 0, .int .u8 0, .int .u8 0, .int .u8 0, .int .u8 0, .int .u8 0, .int .u8 0, .int .u8 0, .int .u8 0, .int .u8 0, .int .u8 0, .int .u8 0, .int .u8 0, .int .u8 0, .int .u8 0, .int .u8 0, .int .u8 0, .int .u8 0, .int .u8 0, .int .u8 0, .int .u8 0, .int .u8 0, .int .u8 0, .int .u8 0, .int .u8 0, .int .u8 0, .int .u8 0, .int .u8 0, .int .u8 0, .int .u8 0, .int .u8 0, .int .u8 0, .int .u8 0, .int .u8 0, .int .u8 0, .int .u8 0, .int .u8 0, .int .u8 0, .int .u8 0, .int .u8 0, .int .u8 0, .int .u8 0, .int .u8 0, .int .u8 0, .int .u8 0, .int .u8 0, .int .u8 0, .int .u8 0, .int .u8 0, .int .u8 0, .int .u8 0, .int .u8 0, .int .u8 0, .int .u8 0, .int .u8 0, .int .u8 0, .int .u8 0, .int .u8 0, .int .u8 0, .int .u8 0, .int .u8 0] 55)).setCells w4.heap.size 0 (sc s) = wX at BX JX ⊢; generalize w4.heap.size = L at JX ⊢)
      all_goals
        have O1 : Hid (wX.ownsRow w.heap.size 5 1 (.slice va (64 * j) vc) (64 * j) (sc (halfTo n sf df h j))) := Lib.hid (by have := hO.out.below BX.out; unfold Own8 at this; rwa [HL.out] at this)
        have zx := BX.out.size
        have j0 := hin
        clear r0 r1 tT BW JW X1 X2 NB HC0 HLIT hone hi c0 tl
        try clear BW2 JW2 r2 tT2
        go_wp2_with (at_builtin; refine list_app rfl (.tmp 29) (.tmp 30) 31 rfl w.heap.size 5 (.int .u8 0) 1 1 u8Info Try.underlying31 rfl (by omega) _ (64 * j) _ rfl O1.out ⟨L, 0, none⟩ 64 64 (sc s) rfl ?_ ?_ ?_ ?_ ?_ ?_ ?_; (rw [HL64.out]); (intro i u hu; rw [add_none, JX.out.cell]; simpa using hu); (exact sc_one _); (unfold maxLen; omega); (omega); (omega); intro v6 w6 O6 G6; have HO6 := Lib.hid (app_sc2 O6 HL.out HSL.out); have HG6 := Lib.hid G6; clear O6 G6)
        go_roundw
        case rel => exact ⟨j + 1, by omega, by go_num, Lib.hid (by rw [halfTo_succ, ← HS.out]; exact HO6.out), Lib.hid ((bthen hB.out BX.out).grown HG6.out (Nat.le_trans zr zx) (fun j hj => (hO.out.lt j hj).1))⟩
        case measure => simp [intOf]; omega
    · rw [hlen] at hO
      rw [hlen]
      have hle : k ≤ 64 * j := by omega
      have HO2 := Lib.hid (cut_own hO.out hlen hle)
      have hcap := hO.out.cap
      obtain ⟨hcap, hcmax⟩ := hcap
      have hkc : k ≤ vc := by omega
      unfold maxLen at hcmax
      go_wp2
      go_ret
      exact ⟨_, rfl, by rw [← half_take hj (by rw [hlen]; exact hle)]; exact HO2.out, hB.out⟩
end Go.Proofs.Ytlgimhhhlpmjcaa
