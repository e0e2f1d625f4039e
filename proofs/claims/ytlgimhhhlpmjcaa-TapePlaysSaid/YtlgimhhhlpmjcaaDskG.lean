/- The disk: Crash. -/
import Derived.Test.YtlgimhhhlpmjcaaDskD
import Derived.Test.YtlgimhhhlpmjcaaDskF
set_option linter.unusedVariables false
set_option linter.unusedSimpArgs false
namespace Go.Proofs.Ytlgimhhhlpmjcaa
open Go.RowKit Go.Maps Go.WideMaps Go.Shelf

/-- A slice of bools, read. -/
structure RdBo (w : World) (A : Option Addr) (n : Nat) (xs : List Bool) : Prop where
  len : xs.length = n
  at' : 0 < n → ∃ b off, A = some ⟨b, off, none⟩ ∧ b < w.heap.size ∧ ∀ i (h : i < xs.length), w.cell? ⟨b, off + i, none⟩ = some (.bool xs[i])
theorem RdBo.keep {w w' : World} {A : Option Addr} {n : Nat} {xs : List Bool} (h : RdBo w A n xs) (hb : ∀ b off, A = some ⟨b, off, none⟩ → b < w.heap.size → w'.heap[b]? = w.heap[b]?) (hz : w.heap.size ≤ w'.heap.size) : RdBo w' A n xs :=
  ⟨h.len, fun hn => by
    obtain ⟨b, off, e, hlt, hc⟩ := h.at' hn
    refine ⟨b, off, e, by omega, fun i hi => ?_⟩
    rw [← hc i hi]
    exact World.cell?_of_block (a := ⟨b, off + i, none⟩) (hb b off e hlt)⟩
theorem RdBo.below {w w' : World} {A : Option Addr} {n : Nat} {xs : List Bool} (h : RdBo w A n xs) (hb : Below w.heap.size w w') : RdBo w' A n xs := h.keep (fun b off _ hlt => hb.block b hlt) hb.size
theorem RdBo.nil (w : World) (A : Option Addr) : RdBo w A 0 [] := ⟨rfl, fun h => by omega⟩

/-- slices.Clone at this dump. -/
def cl2Ren : Ren := ⟨fun | 41 => 63 | n => n, fun | 22 => 68 | 23 => 55 | n => n, fun | n => n⟩
theorem cl2Lays : SlLaysE0.n41 Try.prog cl2Ren := {
  mixed := by kernel_rfl
  f41 := ⟨"slices.Clone[[]rotulet/disk.Sector,rotulet/disk.Sector]", by kernel_rfl, Try.func63.trans (congrArg some (by kernel_rfl))⟩
  t4 := Try.underlying4
  a4 := Try.isAgg4
  z4 := Try.sizeOf4
  v4 := Try.zeroValue4
  t22 := Try.underlying68
  a22 := Try.isAgg68
  z22 := Try.sizeOf68
  v22 := Try.zeroValue68 }

/-- All cells. -/
def flatS (sf : List Sec) : List Value := sf.flatMap sc
theorem flatS_len : ∀ {sf : List Sec}, (∀ x ∈ sf, x.length = 64) → (flatS sf).length = sf.length * 64
  | [], _ => rfl
  | a :: r, h => by
    show (sc a ++ flatS r).length = _
    rw [List.length_append, sc_len, h a (by simp), flatS_len (fun x hx => h x (by simp [hx]))]
    simp; omega
theorem flatS_get : ∀ {sf : List Sec}, (∀ x ∈ sf, x.length = 64) → ∀ i (hi : i < sf.length) j, j < 64 → (flatS sf)[i * 64 + j]? = (sc sf[i])[j]?
  | [], _, i, hi, _, _ => by simp at hi
  | a :: r, h, 0, hi, j, hj => by
    show (sc a ++ flatS r)[0 * 64 + j]? = _
    rw [List.getElem?_append_left (by rw [sc_len, h a (by simp)]; omega)]
    simp
  | a :: r, h, i + 1, hi, j, hj => by
    show (sc a ++ flatS r)[(i + 1) * 64 + j]? = _
    rw [List.getElem?_append_right (by rw [sc_len, h a (by simp)]; omega), sc_len, h a (by simp), show (i + 1) * 64 + j - 64 = i * 64 + j by omega]
    exact flatS_get (fun x hx => h x (by simp [hx])) i (by simpa using hi) j hj
theorem flatS_one (sf : List Sec) : ∀ v ∈ flatS sf, v.oneCell' = true := by
  intro v hv
  obtain ⟨x, _, hx⟩ := List.mem_flatMap.1 hv
  exact sc_one x v hx
theorem flatS_cell {w : World} {sb : Nat} {sf : List Sec} (h : SafeIs w sb sf) (hall : ∀ x ∈ sf, x.length = 64) (j : Nat) (u : Value) (hj : (flatS sf)[j]? = some u) : w.cell? ⟨sb, 0 + j, none⟩ = some u := by
  have hlt : j < sf.length * 64 := by
    have := (List.getElem?_eq_some_iff.1 hj).1
    rwa [flatS_len hall] at this
  have hi : j / 64 < sf.length := by omega
  have := flatS_get hall (j / 64) hi (j % 64) (Nat.mod_lt _ (by omega))
  rw [show j / 64 * 64 + j % 64 = j by omega, hj] at this
  have h2 := h.2 (j / 64) hi (j % 64) u this.symm
  rwa [show j / 64 * 64 + j % 64 = 0 + j by omega] at h2
theorem SafeIs.of_row {w : World} {base n : Nat} {v : Value} {sf : List Sec} (h : w.ownsRow base 55 64 v n (flatS sf)) (hv : v ≠ .slice none 0 0) (hl : sf.length = n) (hall : ∀ x ∈ sf, x.length = 64) :
    ∃ g cap, v = .slice (some ⟨g, 0, none⟩) n cap ∧ base ≤ g ∧ SafeIs w g sf := by
  rcases h.2 with ⟨rfl, _⟩ | ⟨g, cap, cur, rfl, hb, hh, h1, h2, h3, h4⟩
  · exact absurd rfl hv
  · refine ⟨g, cap, rfl, hb, ⟨cur, hh⟩, fun i hi j u hj => ?_⟩
    have hj64 : j < 64 := by
      have := (List.getElem?_eq_some_iff.1 hj).1
      rwa [sc_len, hall _ (List.getElem_mem hi)] at this
    rw [← flatS_get hall i hi j hj64] at hj
    rw [show w.cell? ⟨g, i * 64 + j, none⟩ = cur[i * 64 + j]? from Blk.cell (t := 55) hh _]
    rw [← h4] at hj
    rw [List.getElem?_take] at hj
    split at hj
    · simpa using hj
    · cases hj

theorem crash_nil (A : Option Addr) (m c : Nat) (w : World) :
    Calls Try.prog 36 #[.pointer none, .slice A m c] w fun e w' => e = .returned (.pointer none) ∧ w' = w := by
  go_enter Try.func36, Try.ntmps36
  go_wp2
  go_ret
  exact ⟨rfl, rfl⟩

theorem row_cell {w : World} {base e L c k : Nat} {a : Option Addr} {xs : List Value} (h : w.ownsRow base e 1 (.slice a L c) L xs) (hk : k < L) : ∃ g, a = some ⟨g, 0, none⟩ ∧ base ≤ g ∧ g < w.heap.size ∧ w.cell? ⟨g, k, none⟩ = xs[k]? := by
  rcases h.2 with ⟨e, h0⟩ | ⟨g, cap, cur, e, hb, hh, h1, h2, h3, h4⟩
  · omega
  · injection e with e1 e2 e3
    refine ⟨g, e1, hb, (Array.getElem?_eq_some_iff.1 hh).1, ?_⟩
    rw [show w.cell? ⟨g, k, none⟩ = cur[k]? from Blk.cell (t := _) hh _, ← h4, List.getElem?_take, if_pos (by omega)]
    simp

/-- What Crash leaves. -/
def CrashPost (w : World) (n : Nat) (sf : List Sec) (df : Int → Option Sec) (keep : List Bool) (e : Ending) (w' : World) : Prop :=
  ∃ d sb mb, e = .returned (.pointer (some ⟨d, 0, none⟩)) ∧ DiskIs w' d sb mb n (crashS n sf df keep) (fun _ => none) ∧ w.heap.size ≤ d ∧ w.heap.size ≤ sb ∧ w.heap.size ≤ mb ∧ Below w.heap.size w w'

set_option maxRecDepth 100000 in
set_option maxHeartbeats 1000000 in
theorem crash_any (d sb mb n : Nat) (sf : List Sec) (df : Int → Option Sec) (A : Option Addr) (m c : Nat) (keep : List Bool) (w : World) (h : DiskIs w d sb mb n sf df) (hk : RdBo w A m keep) :
    Calls Try.prog 36 #[.pointer (some ⟨d, 0, none⟩), .slice A m c] w (CrashPost w n sf df keep) := by
  have hn := h.small
  obtain ⟨cap, hb⟩ := h.blk
  have c0 := hb.cell 0
  simp at c0
  obtain ⟨i0, hi, hzz⟩ := Option.map_eq_some_iff.1 secInfo
  simp only [Prod.mk.injEq] at hzz
  obtain ⟨hz, hsize, hby⟩ := hzz
  have hcl := AnyE.slices_Clone cl2Lays i0 _ 64 64 hi hz hsize hby (by simp [Value.cells, sc_len, zsec_len]) (by omega) Try.sizeOf55 sb 0 n cap (flatS sf) w (by rw [flatS_len h.each, h.len]) (by unfold maxLen; omega) (by omega) (flatS_cell h.safe h.each) (flatS_one sf)
  have HCL := Lib.hid hcl; clear hcl hi hz hsize hby
  have hmm := @run_makeMap Try.prog
  have HD := Lib.hid h; have HK := Lib.hid hk
  clear h hk hb
  go_enter Try.func36, Try.ntmps36
  go_wp2_with fail
  refine HCL.out.mono ?_
  rintro e w1 ⟨v, rfl, hrow, hnil, hb1⟩
  obtain ⟨g, gc, rfl, hg, hsafe⟩ := SafeIs.of_row hrow hnil HD.out.len HD.out.each
  have HS1 := Lib.hid hsafe; have B1 := Lib.hid hb1; have HD1 := Lib.hid (HD.out.below hb1); have HK1 := Lib.hid (HK.out.below hb1)
  have hz1 : w.heap.size ≤ w1.heap.size := hb1.size
  clear hrow hnil hsafe hb1 c0
  have b2 : Below w1.heap.size w1 ((w1.alloc (.map #[] 0)).alloc (.cells #[.slice (some ⟨g, 0, none⟩) n gc, .map (some w1.heap.size)] 87)) := ((Below.refl w1.heap.size w1).alloc (Nat.le_refl _) _).alloc (by simp) _
  have HD2 := Lib.hid (HD1.out.below b2)
  have HB2 := Lib.hid b2; clear b2
  have HM2 : Hid (MapS ((w1.alloc (.map #[] 0)).alloc (.cells #[.slice (some ⟨g, 0, none⟩) n gc, .map (some w1.heap.size)] 87)) w1.heap.size 0 (fun _ => none)) := Lib.hid ((MapS.made w1).keep (Below.heap_alloc _ _ _ (by simp)))
  have HN2 : Hid (Blk ((w1.alloc (.map #[] 0)).alloc (.cells #[.slice (some ⟨g, 0, none⟩) n gc, .map (some w1.heap.size)] 87)) (w1.heap.size + 1) #[.slice (some ⟨g, 0, none⟩) n gc, .map (some w1.heap.size)] 87) := Lib.hid (Blk.newAt _ _ _ _ (by simp))
  have hz2 : ((w1.alloc (.map #[] 0)).alloc (.cells #[.slice (some ⟨g, 0, none⟩) n gc, .map (some w1.heap.size)] 87)).heap.size = w1.heap.size + 2 := by simp
  have HZ2 := Lib.hid hz2; clear hz2
  have HDY := Lib.hid (dirty_any d sb mb n sf df _ HD2.out)
  go_wp2_with fail
  refine HDY.out.mono ?_
  rintro e w3 ⟨a, dc, rfl, hrow, hb3⟩
  have hL : (dirtyI n df).length ≤ 1024 := by rw [dirtyI_len]; have := dirtyN_le n df; omega
  have ha1 := (HB2.out.trans (hb3.mono (by rw [HZ2.out]; omega)))
  have HD3 := Lib.hid (HD2.out.below hb3); have HM3 := Lib.hid (HM2.out.keep (hb3.block _ HM2.out.lt)); have HN3 := Lib.hid (HN2.out.below hb3)
  have HS3 := Lib.hid (HS1.out.keep (ha1.block g HS1.out.lt)); have HK3 := Lib.hid (HK1.out.below ha1); have B3 := Lib.hid (B1.out.trans (ha1.mono hz1))
  have HR3 := Lib.hid hrow
  have hgl : g < w1.heap.size := HS1.out.lt
  have hz3 : w1.heap.size + 2 ≤ w3.heap.size := by have := hb3.size; rw [HZ2.out] at this; exact this
  have hdl := HD.out.lt
  have HDL := Lib.hid hdl
  clear hrow hb3 ha1 HD2 HM2 HN2 HS1 HK1 B1 HD1 HCL HDY HB2 hdl
  go_wp2_with fail
  go_loopw [6, 7, 21] (fun _ _ i wr => ∃ k : Nat, k ≤ (dirtyI n df).length ∧ i = .int .i64 k ∧ Hid (Kept w3 wr (fun x => x = g)) ∧ Hid (SafeIs wr g (crashTo n sf df keep k))) (fun _ _ i _ => (dirtyI n df).length - (intOf i).toNat)
  case atStart => exact ⟨0, Nat.zero_le _, rfl, Lib.hid (Kept.refl _ _), Lib.hid (by rw [crashTo_zero HD3.out.len]; exact HS3.out)⟩
  case round =>
    obtain ⟨k, hkL, rfl, hkp, hsf⟩ := hrel
    by_cases hlt : k < (dirtyI n df).length
    · have hkn : k < (dirtyN n df).length := by rw [← dirtyI_len]; exact hlt
      obtain ⟨i, hi⟩ : ∃ i, (dirtyN n df)[k]? = some i := ⟨_, List.getElem?_eq_getElem hkn⟩
      obtain ⟨hin, hdi, hrk⟩ := dirtyN_get hi
      obtain ⟨s, hs⟩ := Option.isSome_iff_exists.1 (show (df (i : Int)).isSome = true from hdi)
      have hcur : curS sf df i = s := by unfold curS; rw [hs]; rfl
      have hstep := crashTo_succ sf df keep hi
      rw [hcur] at hstep
      have hcellI : ((dirtyI n df).map (Value.int .i64))[k]? = some (.int .i64 i) := by
        unfold dirtyI
        rw [List.getElem?_map, List.getElem?_map, hi]; rfl
      obtain ⟨gd, rfl, hgd, hgdl, hcell⟩ := row_cell HR3.out hlt
      rw [HZ2.out] at hgd
      rw [hcellI] at hcell
      have hkb : Below w.heap.size w3 wr := hkp.out.below (by omega) (fun k e => by subst e; exact hg)
      have hbw : Below w.heap.size w wr := B3.out.trans hkb
      have hcw : wr.cell? ⟨gd, k, none⟩ = some (.int .i64 i) := by
        rw [← hcell]; exact World.cell?_of_block (a := ⟨gd, k, none⟩) (hkp.out.block gd hgdl (by omega))
      have hDr := HD3.out.kept hkp.out (by have := HDL.out; omega) (by have := HDL.out; omega) (by have := HDL.out; omega)
      have hNr := HN3.out.kept hkp.out (by omega)
      have hs64 := (HD.out.sup _ _ hs).2.2
      have HSTEP := Lib.hid hstep; have HBW := Lib.hid hbw; have HDR := Lib.hid hDr; have HNR := Lib.hid hNr; have HL := Lib.hid hs64; have HSs := Lib.hid hs
      have hzr : w3.heap.size ≤ wr.heap.size := hkp.out.size
      clear hi hdi hrk hs hcur hstep hcellI hcell hkb hbw hDr hNr hs64
      have hk0 : (0 : Int) ≤ (k : Int) := by omega
      have hkL2 : (k : Int) < ((dirtyI n df).length : Int) := by omega
      have HKW := Lib.hid (HK.out.below HBW.out)
      by_cases hkm : k < m
      · obtain ⟨kb, koff, rfl, hkbl, hkc⟩ := HKW.out.at' (by omega)
        have hkk := hkc k (by rw [HKW.out.len]; exact hkm)
        have hka : keepAt keep k = keep[k]'(by rw [HKW.out.len]; exact hkm) := by unfold keepAt; simp [List.getD_eq_getElem?_getD, HKW.out.len, hkm]
        generalize keep[k]'(by rw [HKW.out.len]; exact hkm) = bq at *
        have HKA := Lib.hid hka
        clear hkc hka
        cases bq with
        | true =>
          have HST := Lib.hid (HSTEP.out.trans (by rw [HKA.out]; rfl : _ = (crashTo n sf df keep k).set i s))
          clear HSTEP
          have n0 := HNR.out.cell 0
          obtain ⟨cp, hbk⟩ := HDR.out.blk
          have d1 := hbk.cell 1
          simp at n0 d1
          have hdr := hbk.lt
          clear hbk
          have hnl := HNR.out.lt
          have hlk := MapS.look1 (w := wr.drew) (HDR.out.map.keep rfl) i (wfI (by omega) (by omega))
          rw [HSs.out] at hlk
          simp only [Option.getD_some] at hlk
          have hi0 : (0 : Int) ≤ (i : Int) := by omega
          have hin2 : (i : Int) < (n : Int) := by omega
          have hml : i < (crashTo n sf df keep k).length := by simp [crashTo]; exact hin
          have HML := Lib.hid hml; clear hml
          have hgr := hsf.out.lt
          go_wp2
          refine region_tail 12 (by kernel_rfl) (by kernel_rfl) ?_
          simp only [List.take_succ_cons, List.take_zero, List.drop_succ_cons, List.drop_zero]
          repeat still_step
          refine wpStill_nil ?_
          have hall : ∀ x ∈ crashTo n sf df keep k, x.length = 64 := by
            intro x hx
            unfold crashTo at hx
            obtain ⟨j, hj, rfl⟩ := List.mem_map.1 hx
            have hj : j < n := by simpa using hj
            split
            · exact curS_len HD.out.len HD.out.each HD.out.sup hj
            · have hj' : j < sf.length := by rw [HD.out.len]; exact hj
              have := HD.out.each sf[j] (List.getElem_mem hj')
              simpa [List.getD_eq_getElem?_getD, hj'] using this
          have HALL := Lib.hid hall; clear hall
          have HSF3 := Lib.hid (SafeIs.store (w := wr.drew) (hsf.out.keep rfl) i HML.out HALL.out s HL.out)
          refine sec_store secT1 rfl _ _ rfl g (i * 64) s HL.out rfl rfl (hsf.out.there i HML.out (HALL.out _ (List.getElem_mem HML.out))) ?_
          have hg3 : wr.grownBy (wr.drew.setCells g (i * 64) (sc s)) (some g) := below_grownBy (show Below wr.heap.size wr wr.drew from ⟨rfl, rfl, rfl, Nat.le_refl _, fun _ _ => rfl⟩) (grownBy_cells _ _ _ _)
          have HG3 := Lib.hid hg3; clear hg3
          go_wp2
          try go_frame
          go_roundw
          case rel => exact ⟨k + 1, by omega, by go_num, Lib.hid (hkp.out.trans2 (Kept.of_grown (S := fun x => x = g) HG3.out (fun k hk => (Option.some.inj hk).symm)) (fun i _ e => e)), Lib.hid (by rw [HST.out]; exact HSF3.out)⟩
          case measure => simp [intOf]; omega
        | false =>
          have HST := Lib.hid (HSTEP.out.trans (by rw [HKA.out]; rfl : _ = crashTo n sf df keep k))
          go_wp2
          go_roundw
          case rel => exact ⟨k + 1, by omega, by go_num, hkp, Lib.hid (by rw [HST.out]; exact hsf.out)⟩
          case measure => simp [intOf]; omega
      · have hka : keepAt keep k = false := by
          unfold keepAt
          rw [List.getD_eq_getElem?_getD, List.getElem?_eq_none (by rw [HK.out.len]; omega)]; rfl
        have HST := Lib.hid (HSTEP.out.trans (by rw [hka]; rfl : _ = crashTo n sf df keep k))
        clear hka
        have hkm2 : ¬ (k : Int) < (m : Int) := by omega
        go_wp2
        go_roundw
        case rel => exact ⟨k + 1, by omega, by go_num, hkp, Lib.hid (by rw [HST.out]; exact hsf.out)⟩
        case measure => simp [intOf]; omega
    · have hkk : k = (dirtyI n df).length := by omega
      subst hkk
      go_wp2
      go_ret
      refine ⟨w1.heap.size + 1, g, w1.heap.size, rfl, ⟨⟨gc, HN3.out.kept hkp.out (by omega)⟩, ?_, (HM3.out.keep (hkp.out.block _ HM3.out.lt (by omega))).mono (Nat.zero_le _), crashS_len _ _ _ _, hn, ?_, fun i s hs => by cases hs⟩, by omega, hg, hz1, ?_⟩
      · rw [← crashTo_all, ← dirtyI_len]; exact hsf.out
      · intro x hx
        unfold crashS at hx
        obtain ⟨i, hi, rfl⟩ := List.mem_map.1 hx
        have hi : i < n := by simpa using hi
        rcases crashAt_or sf df keep i with e | e
        · rw [e]; exact curS_len HD.out.len HD.out.each HD.out.sup hi
        · rw [e]
          have hi' : i < sf.length := by rw [HD.out.len]; exact hi
          have := HD.out.each sf[i] (List.getElem_mem hi')
          simpa [List.getD_eq_getElem?_getD, hi'] using this
      · exact B3.out.trans (hkp.out.below (by omega) (fun k e => by subst e; exact hg))
end Go.Proofs.Ytlgimhhhlpmjcaa
