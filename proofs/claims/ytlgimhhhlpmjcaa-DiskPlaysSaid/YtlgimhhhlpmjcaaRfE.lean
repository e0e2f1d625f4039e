/- The document's disk: Crash (printed by genRfE.py). -/
import Derived.Test.YtlgimhhhlpmjcaaRfD
set_option linter.unusedVariables false
set_option linter.unusedSimpArgs false
namespace Go.Proofs.Ytlgimhhhlpmjcaa
open Go.RowKit Go.Maps Go.WideMaps Go.Shelf

def RCrashPost (w : World) (n : Nat) (cs : List Sec) (e : Ending) (w' : World) : Prop :=
  ∃ m ab bb cb, e = .returned (.pointer (some ⟨m, 0, none⟩)) ∧ RefIs w' m ab bb cb n cs cs (List.replicate n false) ∧ w.heap.size ≤ m ∧ w.heap.size ≤ ab ∧ w.heap.size ≤ bb ∧ w.heap.size ≤ cb ∧ Below w.heap.size w w'
theorem keepAt_lt {ks : List Bool} {k : Nat} (h : k < ks.length) : keepAt ks k = ks[k] := by simp [keepAt, List.getD_eq_getElem?_getD, h]
theorem keepAt_ge {ks : List Bool} {k : Nat} (h : ¬ k < ks.length) : keepAt ks k = false := by
  unfold keepAt; rw [List.getD_eq_getElem?_getD, List.getElem?_eq_none (by omega)]; rfl
theorem crashAt_len {n : Nat} {sf : List Sec} {df : Int → Option Sec} {keep : List Bool} (hl : sf.length = n) (he : ∀ x ∈ sf, x.length = 64) (hs : ∀ i s, df i = some s → 0 ≤ i ∧ i < (n : Int) ∧ s.length = 64) {i : Nat} (hi : i < n) : (crashAt sf df keep i).length = 64 := by
  rcases crashAt_or sf df keep i with e | e
  · rw [e]; exact curS_len hl he hs hi
  · rw [e]
    have hi' : i < sf.length := by omega
    have := he sf[i] (List.getElem_mem hi')
    simpa [List.getD_eq_getElem?_getD, hi'] using this

set_option maxRecDepth 100000 in
set_option maxHeartbeats 2000000 in
theorem rcrash_any (m ab bb cb n : Nat) (sf : List Sec) (df : Int → Option Sec) (A : Option Addr) (kn c : Nat) (keep : List Bool) (w : World) (h : RefIs w m ab bb cb n (flushS n sf df) sf (isDs n df)) (hk : RdBo w A kn keep) (h1 : 1 ≤ n) (hsup : ∀ i s, df i = some s → 0 ≤ i ∧ i < (n : Int) ∧ s.length = 64) :
    Calls Try.prog 38 #[.pointer (some ⟨m, 0, none⟩), .slice A kn c] w (RCrashPost w n (crashS n sf df keep)) := by
  obtain ⟨z, HZ, hz⟩ := zsec_named
  have Hz := Lib.hid hz; clear hz
  have hn := h.small
  obtain ⟨c1, c2, c3, hb⟩ := h.blk
  have k0 := hb.cell 0
  simp at k0
  have H := Lib.hid h; have HK := Lib.hid hk; have HSUP := Lib.hid hsup; clear h hk hb hsup
  have hml := H.out.lt
  have HML := Lib.hid hml; clear hml
  have hce : ∀ x ∈ crashS n sf df keep, x.length = 64 := by
    intro x hx
    unfold crashS at hx
    obtain ⟨i, hi, rfl⟩ := List.mem_map.1 hx
    exact crashAt_len H.out.lb H.out.eb HSUP.out (by simpa using hi)
  have HCE := Lib.hid hce; clear hce
  go_enter Try.func38, Try.ntmps38
  go_wp2_with fail
  refine (made_ok n w h1 hn).mono ?_
  rintro e w1 ⟨x, xa, xb, xc, rfl, hX, m1, m2, m3, m4, hb⟩
  have X1 := Lib.hid hX; have B1 := Lib.hid hb; have z1 := hb.size; clear hX hb k0
  go_wp2_with fail
  go_loopw [7, 8, 9] (fun t i _ wr => ∃ k : Nat, k ≤ n ∧ i = .int .i64 k ∧ t = .int .i64 (rk df k) ∧ Hid (RefIs wr x xa xb xc n (mixS k (crashS n sf df keep) (List.replicate n zsec)) (mixS k (crashS n sf df keep) (List.replicate n zsec)) (List.replicate n false)) ∧ Hid (Below w.heap.size w wr)) (fun _ i _ _ => n - (intOf i).toNat)
  case atStart => exact ⟨0, Nat.zero_le _, rfl, rfl, X1, B1⟩
  case round =>
    obtain ⟨k, hkn, rfl, rfl, hX, hB⟩ := hrel
    have hR := H.out.below hB.out
    obtain ⟨c1, c2, c3, hb⟩ := hR.blk
    have k0 := hb.cell 0; have k1 := hb.cell 1; have k2 := hb.cell 2
    simp at k0 k1 k2
    have HR := Lib.hid hR; have HBL := Lib.hid hb
    clear hR hb
    have zr := hB.out.size
    have hrk : rk df k ≤ n := Nat.le_trans (rk_mono df hkn) (by unfold rk; exact dirtyN_le n df)
    by_cases hlt : k < n
    · have hlt2 : (k : Int) < n := by omega
      have hk0 : (0 : Int) ≤ (k : Int) := by omega
      have hlb : k < sf.length := by rw [H.out.lb]; exact hlt
      have hgd : sf.getD k zsec = sf[k] := by simp [List.getD_eq_getElem?_getD, hlb]
      have hrb := HR.out.b.2 k hlb
      rw [← hgd] at hrb
      have hla : k < (flushS n sf df).length := by rw [flushS_len]; exact hlt
      have hra := HR.out.a.2 k hla
      have hga : (flushS n sf df)[k] = curS sf df k := by simp [flushS]
      rw [hga] at hra
      have hld : k < (isDs n df).length := by rw [isDs_len]; exact hlt
      have e2 := HR.out.c.cell k
      rw [bl_get hld, isDs_get df hld] at e2
      obtain ⟨s1, HS1⟩ : ∃ s, Hid (s = curS sf df k) := ⟨_, Lib.hid rfl⟩
      obtain ⟨s2, HS2⟩ : ∃ s, Hid (s = sf.getD k zsec) := ⟨_, Lib.hid rfl⟩
      obtain ⟨s3, HS3⟩ : ∃ s, Hid (s = crashAt sf df keep k) := ⟨_, Lib.hid rfl⟩
      rw [← HS1.out] at hra
      rw [← HS2.out] at hrb
      have LS1 : Hid (s1.length = 64) := Lib.hid (by rw [HS1.out]; exact curS_len H.out.lb H.out.eb HSUP.out hlt)
      have LS2 : Hid (s2.length = 64) := Lib.hid (by rw [HS2.out, hgd]; exact H.out.eb _ (List.getElem_mem hlb))
      have LS3 : Hid (s3.length = 64) := Lib.hid (by rw [HS3.out]; exact crashAt_len H.out.lb H.out.eb HSUP.out hlt)
      have HRA := Lib.hid hra; have HRB := Lib.hid hrb
      have hrs := rk_succ k df
      have hcr : s3 = if isD df k && keepAt keep (rk df k) then s1 else s2 := by rw [HS3.out, HS1.out, HS2.out]; rfl
      have HRS := Lib.hid hrs; have HCR := Lib.hid hcr
      have hxl := hX.out.lt
      have HXL := Lib.hid hxl
      clear hgd hlb hla hra hga hrb hld hrs hcr hxl
      go_upto_if 41 with (first
        | ((with_reducible refine is_load 58 (x := .tmp 33) rfl ?_); refine sec_load secT2 rfl _ rfl bb (k * 64) rfl s2 LS2.out HRB.out ?_)
        | ((with_reducible refine sec_alloc secT2 HZ rfl rfl ?_); try simp only [World.size_alloc])
        | ((with_reducible refine is_store 58 (x := .tmp 9) rfl ?_); refine sec_store secT2 rfl _ _ rfl wr.heap.size 0 s2 LS2.out rfl rfl ((Blk.new _ _ _).secThere Hz.out) ?_;
           have bW : Below wr.heap.size wr ((wr.alloc (.cells (sc z).toArray 58)).setCells wr.heap.size 0 (sc s2)) := below_cells ((Below.refl _ _).alloc (Nat.le_refl _) _) (Nat.le_refl _) _ _;
           have Jw9 := Lib.hid ((Blk.new wr (sc z).toArray 58).secStore (s' := s2) (Hz.out.trans LS2.out.symm));
           have HM9 := Lib.hid ((HBL.out.below bW));
           have HK9 := Lib.hid ((HK.out.below hB.out).below bW);
           have HRA9 := Lib.hid (rangeAt_keep HRA.out (bW.block ab HR.out.lt.2.1));
           have E29 := Lib.hid ((bW.cell (p := ⟨cb, k, none⟩) HR.out.lt.2.2.2).trans e2);
           have zw9 := bW.size; have bw9 := bW; clear bW k0 k1 k2 e2; generalize ((wr.alloc (.cells (sc z).toArray 58)).setCells wr.heap.size 0 (sc s2)) = w9 at *; have e2 := E29.out; have k2 := HM9.out.cell 2; simp at k2; have hcbl := HR.out.lt.2.2.2; have hmml := HM9.out.lt))
      generalize hg9 : wr.heap.size = g9 at *
      have HG9 := Lib.hid hg9; clear hg9
      have BW9 := Lib.hid bw9; clear bw9
      have hg9l := Jw9.out.lt
      go_cut [7] from 35 to 60 (fun t wc => t = .int .i64 (rk df (k + 1)) ∧ Hid (Blk wc g9 (sc s3).toArray 58) ∧ Hid (Below g9 wr wc))
      case first =>
        by_cases hd : isD df k = true
        · rw [hd]
          have hrs : rk df (k + 1) = rk df k + 1 := by rw [HRS.out, if_pos hd]
          have hrk2 : rk df k < 1024 := by
            have := rk_mono df (show k + 1 ≤ n by omega)
            have h2 : rk df n ≤ n := by unfold rk; exact dirtyN_le n df
            omega
          have k0 := HM9.out.cell 0
          simp at k0
          have HRS2 := Lib.hid hrs; clear hrs
          by_cases hkm : rk df k < kn
          · have hkm2 : (rk df k : Int) < kn := by omega
            have hrk0 : (0 : Int) ≤ (rk df k : Int) := by omega
            obtain ⟨kb, koff, rfl, hkbl, hkc⟩ := (HK9.out).at' (by omega)
            have hkk := hkc (rk df k) (by rw [HK9.out.len]; exact hkm)
            have hka := keepAt_lt (ks := keep) (k := rk df k) (by rw [HK9.out.len]; exact hkm)
            generalize keep[rk df k]'(by rw [HK9.out.len]; exact hkm) = bq at *
            have HKA := Lib.hid hka; clear hkc hka
            cases bq with
            | true =>
              have e3 : s3 = s1 := by rw [HCR.out, hd, HKA.out]; rfl
              subst e3
              generalize rk df k = K at *
              go_wp2_with (first
                | ((with_reducible refine is_load 58 (x := .tmp 57) rfl ?_); refine sec_load secT2 rfl _ rfl ab (k * 64) rfl s3 LS1.out HRA9.out ?_)
                | ((with_reducible refine is_store 58 (x := .tmp 9) rfl ?_); refine sec_store secT2 rfl _ _ rfl g9 0 s3 LS1.out rfl rfl (Jw9.out.secThere LS2.out) ?_))
              go_meet
              case rel => exact ⟨by rw [HRS2.out]; go_num, Lib.hid (Jw9.out.secStore (LS2.out.trans LS1.out.symm)), Lib.hid (below_cells BW9.out (Nat.le_refl _) _ _)⟩
            | false =>
              have e3 : s3 = s2 := by rw [HCR.out, hd, HKA.out]; rfl
              subst e3
              generalize rk df k = K at *
              go_wp2
              go_meet
              case rel => exact ⟨by rw [HRS2.out]; go_num, Jw9, BW9⟩
          · have hka : keepAt keep (rk df k) = false := keepAt_ge (by rw [HK9.out.len]; exact hkm)
            have e3 : s3 = s2 := by rw [HCR.out, hd, hka]; rfl
            subst e3
            have hge : ¬ (rk df k : Int) < kn := by omega
            clear hka
            generalize rk df k = K at *
            go_wp2
            go_meet
            case rel => exact ⟨by rw [HRS2.out]; go_num, Jw9, BW9⟩
        · have hd' : isD df k = false := by simpa using hd
          rw [hd']
          have hrs : rk df (k + 1) = rk df k := by rw [HRS.out, hd']; rfl
          have e3 : s3 = s2 := by rw [HCR.out, hd']; rfl
          subst e3
          have HRS2 := Lib.hid hrs; clear hrs hd
          go_wp2
          go_meet
          case rel => exact ⟨by rw [HRS2.out], Jw9, BW9⟩
      case rest =>
        obtain ⟨rfl, hJ, hBc⟩ := hcut
        have zc := hBc.out.size
        have hXc : RefIs wc x xa xb xc n (mixS k (crashS n sf df keep) (List.replicate n zsec)) (mixS k (crashS n sf df keep) (List.replicate n zsec)) (List.replicate n false) := hX.out.below (by rw [HG9.out]; exact hBc.out)
        obtain ⟨d1, d2, d3, hbx⟩ := hXc.blk
        have j0 := hbx.cell 0; have j1 := hbx.cell 1
        simp at j0 j1
        have hmix := mixS_succ (a := crashS n sf df keep) (b := List.replicate n zsec) (k := k) (by rw [crashS_len]; exact hlt) (by simp; exact hlt)
        have hcg : (crashS n sf df keep)[k]'(by rw [crashS_len]; exact hlt) = s3 := by rw [HS3.out]; simp [crashS]
        rw [hcg] at hmix
        have hlm : k < (mixS k (crashS n sf df keep) (List.replicate n zsec)).length := by rw [hXc.la]; exact hlt
        have HXC := Lib.hid hXc; have HBX := Lib.hid hbx; have HMIX := Lib.hid hmix; have HLM := Lib.hid hlm
        have hxl := hXc.lt
        clear hXc hbx hmix hlm hcg
        go_wp2_with fail
        refine region_tail 7 (by kernel_rfl) (by kernel_rfl) ?_
        simp only [List.take_succ_cons, List.take_zero, List.drop_succ_cons, List.drop_zero]
        still_step; still_step; still_step; still_step; still_step
        refine sec_still_w secT2 (by rfl) _ rfl g9 0 rfl s3 LS3.out hJ.out.sec ?_
        still_step
        refine wpStill_nil ?_
        refine sec_store secT2 rfl _ _ rfl xa (k * 64) s3 LS3.out rfl rfl (HXC.out.a.there k HLM.out (HXC.out.ea _ (List.getElem_mem HLM.out))) ?_
        have hkp : Kept wc (wc.drew.setCells xa (k * 64) (sc s3)) (fun y => y = xa) := Kept.setCells (S := fun y => y = xa) (Kept.refl _ _).drew rfl _ _
        have ha3 := SecsT.store (w := wc.drew) (HXC.out.a.keep rfl) k HLM.out HXC.out.ea s3 LS3.out
        rw [← HMIX.out] at ha3
        have hzz : wc.heap.size ≤ (wc.drew.setCells xa (k * 64) (sc s3)).heap.size := by rw [size_setCells]; exact Nat.le_refl _
        obtain ⟨n1, n2, n3, n4, n5, n6⟩ := HXC.out.ns
        have hm3 := HBX.out.kept hkp n1
        have hb3 := HXC.out.b.keep (hkp.block xb hxl.2.2.1 n6.symm)
        have hc3 := HXC.out.c.kept hkp n4.symm
        have hJ3 := hJ.out.kept hkp (by have := HXL.out; omega)
        have HKP := Lib.hid hkp; have HA3 := Lib.hid ha3; have HM3 := Lib.hid hm3; have HB3 := Lib.hid hb3; have HC3 := Lib.hid hc3; have HJ3 := Lib.hid hJ3
        clear hkp ha3 hm3 hb3 hc3 hJ3 j0 j1 hJ
        generalize wc.drew.setCells xa (k * 64) (sc s3) = w3 at *
        have i1 := HM3.out.cell 1
        simp at i1
        have him := HM3.out.lt
        go_wp2_with fail
        refine region_tail 7 (by kernel_rfl) (by kernel_rfl) ?_
        simp only [List.take_succ_cons, List.take_zero, List.drop_succ_cons, List.drop_zero]
        still_step; still_step; still_step; still_step; still_step
        refine sec_still_w secT2 (by rfl) _ rfl g9 0 rfl s3 LS3.out HJ3.out.sec ?_
        still_step
        refine wpStill_nil ?_
        refine sec_store secT2 rfl _ _ rfl xb (k * 64) s3 LS3.out rfl rfl (HB3.out.there k HLM.out (HXC.out.ea _ (List.getElem_mem HLM.out))) ?_
        have hkp : Kept w3 (w3.drew.setCells xb (k * 64) (sc s3)) (fun y => y = xb) := Kept.setCells (S := fun y => y = xb) (Kept.refl _ _).drew rfl _ _
        have hb4 := SecsT.store (w := w3.drew) (HB3.out.keep rfl) k HLM.out HXC.out.ea s3 LS3.out
        rw [← HMIX.out] at hb4
        have hR4 : RefIs (w3.drew.setCells xb (k * 64) (sc s3)) x xa xb xc n (mixS (k + 1) (crashS n sf df keep) (List.replicate n zsec)) (mixS (k + 1) (crashS n sf df keep) (List.replicate n zsec)) (List.replicate n false) := by
          refine ⟨⟨d1, d2, d3, HM3.out.kept hkp n2⟩, HA3.out.keep (hkp.block xa HA3.out.lt n6), hb4, HC3.out.kept hkp n5.symm, ?_, ?_, by simp, hn, ?_, ?_, n6⟩
          · rw [mixS_len (by rw [crashS_len]; simp) (by simp; omega)]; simp
          · rw [mixS_len (by rw [crashS_len]; simp) (by simp; omega)]; simp
          · exact mixS_each HCE.out (fun y hy => by rw [List.eq_of_mem_replicate hy]; exact zsec_len)
          · exact mixS_each HCE.out (fun y hy => by rw [List.eq_of_mem_replicate hy]; exact zsec_len)
        have hB4 : Below w.heap.size w (w3.drew.setCells xb (k * 64) (sc s3)) := ((hB.out.trans (hBc.out.mono zr)).trans (HKP.out.below (by omega) (fun y e => by subst e; exact m2))).trans (hkp.below (by omega) (fun y e => by subst e; exact m3))
        have HR4 := Lib.hid hR4; have HB4 := Lib.hid hB4; clear hR4 hB4 hb4 hkp
        go_wp2_with fail
        try go_frame
        go_roundw
        case rel => exact ⟨k + 1, by omega, by go_num, rfl, HR4, HB4⟩
        case measure => simp [intOf]; omega
    · have hkk : k = n := by omega
      subst hkk
      go_wp2
      go_ret
      have hX2 := hX.out
      rw [mixS_all (crashS_len _ _ _ _) (by simp)] at hX2
      exact ⟨x, xa, xb, xc, rfl, hX2, m1, m2, m3, m4, hB.out⟩
end Go.Proofs.Ytlgimhhhlpmjcaa
