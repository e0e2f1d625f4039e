/- The tape: flush, mark. -/
import Derived.Test.YtlgimhhhlpmjcaaTapM
set_option linter.unusedVariables false
set_option linter.unusedSimpArgs false
namespace Go.Proofs.Ytlgimhhhlpmjcaa
open Go.RowKit Go.Maps Go.WideMaps Go.Shelf

theorem DiskIs.ne_u8 {w : World} {d sb mb n : Nat} {sf : List Sec} {df : Int → Option Sec} (h : DiskIs w d sb mb n sf df) {g : Nat} {cs : Array Value} {fr : Nat × Nat} (hb : w.heap[g]? = some (.cells cs 5 fr)) : g ≠ d ∧ g ≠ sb ∧ g ≠ mb := by
  obtain ⟨cap, hd⟩ := h.blk
  obtain ⟨⟨cur, hs⟩, _⟩ := h.safe
  obtain ⟨D, ⟨es, clock, hm, _⟩, _⟩ := h.map
  refine ⟨?_, ?_, ?_⟩
  · rintro rfl
    rw [show w.heap[g]? = _ from hd] at hb; simp at hb
  · rintro rfl
    rw [show w.heap[g]? = _ from hs] at hb; simp at hb
  · rintro rfl
    rw [hm] at hb; cases hb
/-- The disk of a tape has changed. -/
theorem tape_disk {w w' : World} {F : Nat → Prop} {t d sb mb : Nat} {p : TD} {sf' : List Sec} {df' : Int → Option Sec} (H : TapeIs w F t d sb mb p) (D : DiskIs w' d sb mb p.n sf' df') (K : Kept w w' (fun k => k = sb ∨ k = mb)) :
    TPost w F t d sb mb { p with sf := sf', df := df' } w' := by
  obtain ⟨A, c, A', c', Kb, R, R', hd⟩ := H.open
  obtain ⟨dt1, dt2, dt3⟩ := H.disk.ne_blk Kb (by decide) (by decide)
  have hrow : ∀ {v : Value} {L : List Bs}, RowR w F v L → ∀ g, v.ownBlock = some g → ¬ (g = sb ∨ g = mb) := fun hR g hg => by
    obtain ⟨cs, hb⟩ := row_isBlk hR hg
    have := H.disk.ne_blk hb (by decide) (by decide)
    rintro (e | e)
    · exact this.2.1 e
    · exact this.2.2 e
  have h2 : ∀ g cs fr, w.heap[g]? = some (.cells cs 5 fr) → ¬ (g = sb ∨ g = mb) := fun g cs fr hb => by
    have := H.disk.ne_u8 hb
    rintro (e | e)
    · exact this.2.1 e
    · exact this.2.2 e
  refine ⟨K.mono (fun k _ hk => by rcases hk with rfl | rfl; exact H.fs; exact H.fm), F, ⟨fun k hk => Nat.lt_of_lt_of_le (H.lt k hk) K.size, ⟨_, _, Kb.kept K (by rintro (e | e); exact dt2 e; exact dt3 e), R.keptS K H.lt (hrow R) h2, R'.keptS K H.lt (hrow R') h2, hd⟩, D, H.ft, H.fd, H.fs, H.fm, ⟨H.ok.n3, H.ok.h1, H.ok.dn3, H.ok.rl, H.ok.rw, H.ok.fitL, H.ok.fitW, H.ok.act⟩⟩, fun k hk => .inl hk⟩

def flushP (p : TD) : TD := { p with sf := flushS p.n p.sf p.df, df := fun _ => none }
theorem tflush_any (t d sb mb : Nat) (F : Nat → Prop) (p : TD) (w : World) (H : TapeIs w F t d sb mb p) :
    Calls Try.prog 59 #[.pointer (some ⟨t, 0, none⟩)] w fun e w' => e = .returned (.tuple #[]) ∧ TPost w F t d sb mb (flushP p) w' := by
  have c0 := H.td.c0
  have HH := Lib.hid H
  obtain ⟨A, c, A', c', K, _⟩ := H.open
  have tl := K.lt
  clear H K
  go_enter Try.func59, Try.ntmps59
  go_wp2_with (go_at_call 34; refine (flush_any d sb mb p.n p.sf p.df _ HH.out.disk).mono ?_; rintro e w1 ⟨rfl, hD, hK⟩; have HD := Lib.hid hD; have HK := Lib.hid hK; clear hD hK)
  go_end0
  exact ⟨rfl, tape_disk HH.out HD.out HK.out⟩

/-- How many are marked. -/
def cntP (p : TD) : Nat := p.W.length + (if p.fr then 0 else p.L.length)
def markP (p : TD) : TD := { p with df := putL p.df 0 (superB (placeH p : Nat) (cntP p : Nat) (placeU p + sizeB p.W : Nat)) }
set_option maxRecDepth 100000 in
set_option maxHeartbeats 2000000 in
theorem mark_any (t d sb mb : Nat) (F : Nat → Prop) (p : TD) (w : World) (H : TapeIs w F t d sb mb p) :
    Calls Try.prog 60 #[.pointer (some ⟨t, 0, none⟩)] w fun e w' => e = .returned (.tuple #[]) ∧ TPost w F t d sb mb (markP p) w' := by
  have c0 := H.td.c0
  have HH := Lib.hid H
  obtain ⟨A, c, A', c', K, R, R', _⟩ := H.open
  have k2 := K.cell 2; have k4 := K.cell 4; have k5 := K.cell 5
  simp [TC] at k2 k4 k5
  have tl := K.lt
  have HKB := Lib.hid K
  have hwl := sizeB_len p.W; have hll := sizeB_len p.L
  have hfl := H.ok.fitL; have hfw := H.ok.fitW
  have hab := allB_le H.small
  have hW : sizeB p.W ≤ 32704 := by split at hfw <;> omega
  have hU : placeU p ≤ 32704 := by unfold placeU; split <;> omega
  have hL1 : p.L.length ≤ 32704 := by omega
  have hL2 : p.W.length ≤ 32704 := by omega
  have hn3 := H.ok.n3
  have HRD := Lib.hid R'.rd; have HHW := Lib.hid hW
  obtain ⟨q, hq⟩ : ∃ q, superB (placeH p : Nat) (cntP p : Nat) (placeU p + sizeB p.W : Nat) = q := ⟨_, rfl⟩
  have HQ64 : Hid (q.length = 64) := Lib.hid (by rw [← hq]; exact fillS_len _)
  have hcnt : cntP p = p.W.length + (if p.fr then 0 else p.L.length) := rfl
  have hmark : ∀ w', TPost w F t d sb mb { p with df := putL p.df 0 q } w' → TPost w F t d sb mb (markP p) w' := fun w' h => by unfold markP; rw [hq]; exact h
  have HMARK := Lib.hid hmark
  obtain ⟨cn, hcn⟩ : ∃ cn, cntP p = cn := ⟨_, rfl⟩
  rw [hcn] at hq hcnt
  have hcb : cn ≤ 70000 := by rw [hcnt]; split <;> omega
  obtain ⟨u, hu⟩ : ∃ u, placeU p = u := ⟨_, rfl⟩
  rw [hu] at hq hU
  have HU := Lib.hid hu
  obtain ⟨h, hh⟩ : ∃ h, placeH p = h := ⟨_, rfl⟩
  rw [hh] at hq
  have HHP := Lib.hid hh
  obtain ⟨sz, hsz⟩ : ∃ sz, sizeB p.W = sz := ⟨_, rfl⟩
  rw [hsz] at hq hW
  have HSZ := Lib.hid hsz; have HQ := Lib.hid hq
  clear hq hmark hcn hu hh hsz hfw hfl hwl hll hab H K R R'
  have e1 : ((u + sz : Nat) : Int) = (u : Int) + sz := by omega
  have hsup : ∀ W, Calls Try.prog 49 #[.int .i64 h, .int .i64 cn, .int .i64 ((u : Int) + sz)] W fun e w' => e = .returned (.agg (sc q).toArray) ∧ Below W.heap.size W w' := fun W => by
    have := super_any h cn (u + sz : Nat) W (by omega) (by omega) (by omega) (by omega)
    rw [HQ.out] at this
    rwa [e1] at this
  clear e1
  have hwr : ∀ W, Below w.heap.size w W → Calls Try.prog 30 #[.pointer (some ⟨d, 0, none⟩), .int .i64 0, .agg (sc q).toArray] W fun e w' => e = .returned (.int .i64 0) ∧ DiskIs w' d sb mb p.n p.sf (putL p.df 0 q) ∧ W.grownBy w' (some mb) := fun W hW => by
    have h0 : inD p.n 0 = true := inD_of (by omega) (by omega)
    refine (write_any d sb mb p.n p.sf p.df 0 q W (HH.out.disk.below hW) HQ64.out).mono ?_
    rintro e w' ⟨a1, a2, a3⟩
    rw [errD, if_pos h0] at a1
    rw [wrD, if_pos h0] at a2
    exact ⟨a1, a2, a3⟩
  have HWR := Lib.hid hwr; clear hwr
  have HSUP := Lib.hid hsup; clear hsup
  go_enter Try.func60, Try.ntmps60
  have hsz2 : ∀ W, Below w.heap.size w W → Calls Try.prog 55 #[.slice A' p.W.length c'] W fun e w' => e = .returned (.int .i64 sz) ∧ w' = W := fun W hW => by
    have := size_any A' p.W.length c' p.W W (HRD.out.below hW) (by have := HSZ.out; omega)
    rwa [HSZ.out] at this
  have HSIZE := Lib.hid hsz2; clear hsz2
  have hw1 : wrap64 ((p.W.length : Int) + (p.L.length : Int)) = p.W.length + p.L.length := by unfold wrap64; omega
  have hwu : IntKind.i64.wrap ((u : Int) + sz) = u + sz := by rw [IntKind.wrap_i64]; omega
  cases hfr : p.fr with
  | true =>
    rw [hfr] at k5 hcnt
    simp only [if_true, Nat.add_zero] at hcnt
    go_wp2_with (first
      | (go_at_call 82; refine (place_any t d sb mb F p _ HH.out).mono ?_; rintro e w2 ⟨rfl, B2⟩; rw [HHP.out, HU.out]
         have c20 := (B2.cell (p := ⟨t, 0, none⟩) tl).trans c0; have k22 := (B2.cell (p := ⟨t, 2, none⟩) tl).trans k2; have k24 := (B2.cell (p := ⟨t, 4, none⟩) tl).trans k4; have k25 := (B2.cell (p := ⟨t, 5, none⟩) tl).trans k5; have tl2 := Nat.lt_of_lt_of_le tl B2.size; have HB2 := Lib.hid B2; clear B2))
    have X2 := Lib.hid (bdrew HB2.out)
    have HSUP2 := Lib.hid (show ∀ W, Calls Try.prog 49 #[.int .i64 h, .int .i64 ((p.W.length : Int)), .int .i64 ((u : Int) + sz)] W fun e w' => e = .returned (.agg (sc q).toArray) ∧ Below W.heap.size W w' by rw [show ((p.W.length : Int) : Int) = (cn : Nat) by omega]; exact HSUP.out)
    have hsq : (sc q).length = 64 := by rw [sc_len, HQ64.out]
    have tmb := (HH.out.disk.ne_blk HKB.out (by decide) (by decide)).2.2
    go_region_held3 (fun W => W.cell? ⟨t, 0, none⟩ = some (.pointer (some ⟨d, 0, none⟩)) ∧ W.cell? ⟨t, 4, none⟩ = some (.slice A' p.W.length c')) (first | exact ⟨r0, r4⟩ | go_keep)
      (first
        | (go_at_call 55; with_reducible refine (HSIZE.out _ ?_).mono ?_; (exact X2.out); rintro e w3 ⟨rfl, rfl⟩)
        | (go_at_call 49; with_reducible refine (HSUP2.out _).mono ?_; rintro e w5 ⟨rfl, B5⟩
           have r0 := (B5.cell (p := ⟨t, 0, none⟩) tl2).trans c20; have r4 := (B5.cell (p := ⟨t, 4, none⟩) tl2).trans k24
           have HB5 := Lib.hid (bthen X2.out B5); have tl5 := Nat.lt_of_lt_of_le tl2 B5.size; clear B5)
        | (go_at_call 30; with_reducible refine (HWR.out _ ?_).mono ?_; (exact HB5.out); rintro e w6 ⟨rfl, D6, G6⟩
           have r0 := ((gcell G6).1 t 0 tl5 tmb).trans r0; have r4 := ((gcell G6).1 t 4 tl5 tmb).trans r4
           have HD6 := Lib.hid D6; have HG6 := Lib.hid G6; clear D6 G6))
    go_wp2
    go_end0
    exact ⟨rfl, HMARK.out _ (tape_disk HH.out HD6.out ((Kept.of_below HB5.out _).trans (Kept.of_grown HG6.out (fun k e => .inr (Option.some.inj e).symm))))⟩
  | false =>
    rw [hfr] at k5 hcnt
    simp only [Bool.false_eq_true, if_false] at hcnt
    go_wp2_with (first
      | (go_at_call 82; refine (place_any t d sb mb F p _ HH.out).mono ?_; rintro e w2 ⟨rfl, B2⟩; rw [HHP.out, HU.out]
         have c20 := (B2.cell (p := ⟨t, 0, none⟩) tl).trans c0; have k22 := (B2.cell (p := ⟨t, 2, none⟩) tl).trans k2; have k24 := (B2.cell (p := ⟨t, 4, none⟩) tl).trans k4; have k25 := (B2.cell (p := ⟨t, 5, none⟩) tl).trans k5; have tl2 := Nat.lt_of_lt_of_le tl B2.size; have HB2 := Lib.hid B2; clear B2))
    have X2 := Lib.hid (bdrew HB2.out)
    have HSUP2 := Lib.hid (show ∀ W, Calls Try.prog 49 #[.int .i64 h, .int .i64 ((p.W.length : Int) + (p.L.length : Int)), .int .i64 ((u : Int) + sz)] W fun e w' => e = .returned (.agg (sc q).toArray) ∧ Below W.heap.size W w' by rw [show ((p.W.length : Int) + (p.L.length : Int) : Int) = (cn : Nat) by omega]; exact HSUP.out)
    have hsq : (sc q).length = 64 := by rw [sc_len, HQ64.out]
    have tmb := (HH.out.disk.ne_blk HKB.out (by decide) (by decide)).2.2
    go_region_held3 (fun W => W.cell? ⟨t, 0, none⟩ = some (.pointer (some ⟨d, 0, none⟩)) ∧ W.cell? ⟨t, 4, none⟩ = some (.slice A' p.W.length c')) (first | exact ⟨r0, r4⟩ | go_keep)
      (first
        | (go_at_call 55; with_reducible refine (HSIZE.out _ ?_).mono ?_; (exact X2.out); rintro e w3 ⟨rfl, rfl⟩)
        | (go_at_call 49; with_reducible refine (HSUP2.out _).mono ?_; rintro e w5 ⟨rfl, B5⟩
           have r0 := (B5.cell (p := ⟨t, 0, none⟩) tl2).trans c20; have r4 := (B5.cell (p := ⟨t, 4, none⟩) tl2).trans k24
           have HB5 := Lib.hid (bthen X2.out B5); have tl5 := Nat.lt_of_lt_of_le tl2 B5.size; clear B5)
        | (go_at_call 30; with_reducible refine (HWR.out _ ?_).mono ?_; (exact HB5.out); rintro e w6 ⟨rfl, D6, G6⟩
           have r0 := ((gcell G6).1 t 0 tl5 tmb).trans r0; have r4 := ((gcell G6).1 t 4 tl5 tmb).trans r4
           have HD6 := Lib.hid D6; have HG6 := Lib.hid G6; clear D6 G6))
    go_wp2
    go_end0
    exact ⟨rfl, HMARK.out _ (tape_disk HH.out HD6.out ((Kept.of_below HB5.out _).trans (Kept.of_grown HG6.out (fun k e => .inr (Option.some.inj e).symm))))⟩
end Go.Proofs.Ytlgimhhhlpmjcaa
