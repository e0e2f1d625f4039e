/- TapePlays: both, sectors, alike, and the walk. -/
import Derived.Test.YtlgimhhhlpmjcaaTapMc
import Derived.Test.YtlgimhhhlpmjcaaTapFit
import Derived.BigQuiet
set_option linter.unusedVariables false
set_option linter.unusedSimpArgs false
namespace Go.Proofs.Ytlgimhhhlpmjcaa
open Go.RowKit Go.Maps Go.WideMaps Go.Shelf

/-- A tape and the document's, as they lie behind w1. -/
def BS (w1 : World) (F0 G0 : Nat → Prop) (t d sb mb r m ab bb cb : Nat) (P Q : TD) (w : World) : Prop :=
  Kept w1 w (fun k => F0 k ∨ G0 k) ∧ ∃ F G, TapeIs w F t d sb mb P ∧ RTapeIs w G r m ab bb cb Q ∧ (∀ k, F k → ¬ G k) ∧ (∀ k, F k → F0 k ∨ w1.heap.size ≤ k) ∧ (∀ k, G k → G0 k ∨ w1.heap.size ≤ k)
theorem BS.init {w : World} {F G : Nat → Prop} {t d sb mb r m ab bb cb : Nat} {P Q : TD} (h : TapeIs w F t d sb mb P) (k : RTapeIs w G r m ab bb cb Q) (hd : ∀ k, F k → ¬ G k) : BS w F G t d sb mb r m ab bb cb P Q w :=
  ⟨Kept.refl _ _, F, G, h, k, hd, fun _ h => .inl h, fun _ h => .inl h⟩
theorem BS.below {w1 : World} {F0 G0 : Nat → Prop} {t d sb mb r m ab bb cb : Nat} {P Q : TD} {w w' : World} (h : BS w1 F0 G0 t d sb mb r m ab bb cb P Q w) (hb : Below w.heap.size w w') : BS w1 F0 G0 t d sb mb r m ab bb cb P Q w' := by
  obtain ⟨h1, F, G, h2, h3, h4, h5, h6⟩ := h
  exact ⟨h1.then hb, F, G, h2.below hb, h3.below hb, h4, h5, h6⟩
theorem BS.behind {w w1 w' : World} {F0 G0 : Nat → Prop} {t d sb mb r m ab bb cb : Nat} {P Q : TD} (hb : Below w.heap.size w w1) (h : BS w1 F0 G0 t d sb mb r m ab bb cb P Q w') : BS w F0 G0 t d sb mb r m ab bb cb P Q w' := by
  obtain ⟨h1, F, G, h2, h3, h4, h5, h6⟩ := h
  exact ⟨Kept.behind hb h1, F, G, h2, h3, h4, fun k hk => (h5 k hk).imp id (Nat.le_trans hb.size), fun k hk => (h6 k hk).imp id (Nat.le_trans hb.size)⟩
theorem BS.cell {w1 w : World} {F0 G0 : Nat → Prop} {t d sb mb r m ab bb cb : Nat} {P Q : TD} (h : BS w1 F0 G0 t d sb mb r m ab bb cb P Q w) {p : Addr} (hl : p.block < w1.heap.size) (hF : ¬ F0 p.block) (hG : ¬ G0 p.block) : w.cell? p = w1.cell? p :=
  h.1.cell hl (fun e => e.elim hF hG)
theorem BS.low {w0 w1 w : World} {F0 G0 : Nat → Prop} {t d sb mb r m ab bb cb : Nat} {P Q : TD} (h : BS w1 F0 G0 t d sb mb r m ab bb cb P Q w) (hB : Below w0.heap.size w0 w1) (hF : ∀ k, F0 k → w0.heap.size ≤ k) (hG : ∀ k, G0 k → w0.heap.size ≤ k) : Below w0.heap.size w0 w :=
  hB.trans (h.1.below hB.size (fun k hk => hk.elim (hF k) (hG k)))
theorem BS.prog {w1 w : World} {F0 G0 : Nat → Prop} {t d sb mb r m ab bb cb : Nat} {P P' Q : TD} {f : Nat} {args : Array Value} {E : Ending} (h : BS w1 F0 G0 t d sb mb r m ab bb cb P Q w)
    (hc : ∀ F, TapeIs w F t d sb mb P → (∀ k, F k → F0 k ∨ w1.heap.size ≤ k) → Calls Try.prog f args w (fun e w' => e = E ∧ TPost w F t d sb mb P' w')) : Calls Try.prog f args w (fun e w' => e = E ∧ BS w1 F0 G0 t d sb mb r m ab bb cb P' Q w') := by
  obtain ⟨h1, F, G, h2, h3, h4, h5, h6⟩ := h
  refine (hc F h2 h5).mono ?_
  rintro e w' ⟨rfl, hK, F', hT', hF'⟩
  refine ⟨rfl, h1.trans2 hK (fun i hi hF => .inl ((h5 i hF).resolve_right (by omega))), F', G, hT', h3.kept hK (fun g hg hF => h4 g hF hg), fun k hk hG => ?_, fun k hk => ?_, h6⟩
  · rcases hF' k hk with e | e
    · exact h4 k e hG
    · have := h3.lt k hG; omega
  · rcases hF' k hk with e | e
    · exact h5 k e
    · exact .inr (Nat.le_trans h1.size e)
theorem BS.doc {w1 w : World} {F0 G0 : Nat → Prop} {t d sb mb r m ab bb cb : Nat} {P Q Q' : TD} {f : Nat} {args : Array Value} {E : Ending} (h : BS w1 F0 G0 t d sb mb r m ab bb cb P Q w)
    (hc : ∀ G, RTapeIs w G r m ab bb cb Q → (∀ k, G k → G0 k ∨ w1.heap.size ≤ k) → Calls Try.prog f args w (fun e w' => e = E ∧ RTPost w G r m ab bb cb Q' w')) : Calls Try.prog f args w (fun e w' => e = E ∧ BS w1 F0 G0 t d sb mb r m ab bb cb P Q' w') := by
  obtain ⟨h1, F, G, h2, h3, h4, h5, h6⟩ := h
  refine (hc G h3 h6).mono ?_
  rintro e w' ⟨rfl, hK, G', hT', hG'⟩
  refine ⟨rfl, h1.trans2 hK (fun i hi hF => .inr ((h6 i hF).resolve_right (by omega))), F, G', h2.kept hK (fun g hg hG => h4 g hg hG), hT', fun k hk hG => ?_, h5, fun k hk => ?_⟩
  · rcases hG' k hG with e | e
    · exact h4 k hk e
    · have := h2.lt k hk; omega
  · rcases hG' k hk with e | e
    · exact h6 k e
    · exact .inr (Nat.le_trans h1.size e)
theorem fitsM.size5 {M : List Bs} (h : fitsM M) : sizeB M ≤ 500000 := by
  have : ∀ (M : List Bs), (∀ x ∈ M, x.length ≤ 400) → sizeB M ≤ 402 * M.length := by
    intro M
    induction M with
    | nil => intro _; simp [sizeB]
    | cons a M ih =>
      intro h
      rw [sizeB_cons, List.length_cons]
      have h1 := h a (by simp)
      have h2 := ih (fun x hx => h x (by simp [hx]))
      omega
  have := this M h.2
  have := h.1
  omega
/-- What an act does. -/
def actP (kind : Int) (xs : Bs) (M : List Bs) (p : TD) : TD :=
  if kind = 1 then appP p xs else if kind = 2 then repP p M else if kind = 3 then stepP p else if kind = 4 then commitP p else p
theorem RSt.act {p : TD} (h : p.Ok) (S : RSt p) (kind : Int) (xs : Bs) (M : List Bs) : RSt (actP kind xs M p) := by
  unfold actP
  split
  · exact S.app xs
  · split
    · exact S.rep M
    · split
      · exact RSt.step h S
      · split
        · exact RSt.commit h S
        · exact S
def BothPost (w : World) (F G : Nat → Prop) (t d sb mb r m ab bb cb : Nat) (p : TD) (e : Ending) (w' : World) : Prop := e = .returned (.bool true) ∧ BS w F G t d sb mb r m ab bb cb p p w'

set_option maxRecDepth 100000 in
set_option maxHeartbeats 4000000 in
theorem both_any (kind i : Int) (bA : Option Addr) (bn bc : Nat) (lA : Option Addr) (ln lc : Nat) (kA : Option Addr) (kn kc : Nat) (xs : Bs) (M : List Bs) (t d sb mb r m ab bb cb : Nat) (F G : Nat → Prop) (p : TD) (w0 w : World)
    (HT : TapeIs w F t d sb mb p) (HR : RTapeIs w G r m ab bb cb p) (hd : ∀ k, F k → ¬ G k) (S : RSt p) (hB : Below w0.heap.size w0 w) (hF : ∀ k, F k → w0.heap.size ≤ k) (hG : ∀ k, G k → w0.heap.size ≤ k)
    (hx : RdU8 w0 bA bn xs) (ox : okB xs) (hM : RdBB w0 lA ln M) (oM : ∀ x ∈ M, okB x) (fM : fitsM M) :
    Calls Try.prog 45 #[.agg #[.int .i64 kind, .int .i64 i, .slice bA bn bc, .slice lA ln lc, .slice kA kn kc], .pointer (some ⟨t, 0, none⟩), .pointer (some ⟨r, 0, none⟩)] w (BothPost w F G t d sb mb r m ab bb cb (actP kind xs M p)) := by
  have K := Lib.hid (Blk.new w #[.int .i64 kind, .int .i64 i, .slice bA bn bc, .slice lA ln lc, .slice kA kn kc] 43)
  have B0 := Lib.hid (balloc (Below.refl w.heap.size w) (.cells #[.int .i64 kind, .int .i64 i, .slice bA bn bc, .slice lA ln lc, .slice kA kn kc] 43))
  have H0 := Lib.hid (BS.init (HT.below B0.out) (HR.below B0.out) hd)
  have HB0 := Lib.hid (bthen hB (balloc (Below.refl w.heap.size w) (.cells #[.int .i64 kind, .int .i64 i, .slice bA bn bc, .slice lA ln lc, .slice kA kn kc] 43)))
  have HFn : ¬ F w.heap.size := fun h => by have := HT.lt _ h; omega
  have HGn : ¬ G w.heap.size := fun h => by have := HR.lt _ h; omega
  have NF := Lib.hid HFn; have NG := Lib.hid HGn; have HS := Lib.hid S; have HX := Lib.hid hx; have HOX := Lib.hid ox; have HM := Lib.hid hM; have HOM := Lib.hid oM; have HFM := Lib.hid fM; have HF := Lib.hid hF; have HG := Lib.hid hG
  clear HT HR hd S hB hF hG hx ox hM oM fM HFn HGn
  go_enter Try.func45, Try.ntmps45
  go_upto_region 1 with fail
  generalize w.alloc (.cells #[.int .i64 kind, .int .i64 i, .slice bA bn bc, .slice lA ln lc, .slice kA kn kc] 43) = w1 at *
  obtain ⟨g, hg⟩ : ∃ g, g = w.heap.size := ⟨_, rfl⟩
  rw [← hg] at K NF NG ⊢
  clear hg
  have c0 := K.out.cell 0; have c2 := K.out.cell 2; have c3 := K.out.cell 3
  simp at c0 c2 c3
  have gl := K.out.lt
  have HCL := Lib.hid (show ∀ (P Q : TD) (W : World), BS w1 F G t d sb mb r m ab bb cb P Q W → W.cell? ⟨g, 2, none⟩ = some (.slice bA bn bc) ∧ W.cell? ⟨g, 3, none⟩ = some (.slice lA ln lc) from fun _ _ _ h => ⟨(h.cell (p := ⟨g, 2, none⟩) gl NF.out NG.out).trans c2, (h.cell (p := ⟨g, 3, none⟩) gl NF.out NG.out).trans c3⟩)
  by_cases h1 : kind = 1
  · have HP := Lib.hid (show actP kind xs M p = appP p xs by unfold actP; rw [if_pos h1])
    have h1b : (kind == 1) = true := by rw [h1]; rfl
    clear h1
    have HS0 := Lib.hid (H0.out.below (bdrew (Below.refl _ _)))
    have r2 := (HCL.out _ _ _ HS0.out).1
    go_wp2_with fail
    go_region_held3 (fun W => W.cell? ⟨g, 2, none⟩ = some (.slice bA bn bc)) (first | exact r2 | go_keep)
      (first
        | (go_at_call 17; refine (BS.prog HS0.out (fun F1 hT _ => append_any2 t d sb mb F1 p bA bn bc xs _ hT (HX.out.below (HS0.out.low HB0.out HF.out HG.out)) HOX.out)).mono ?_
           rintro e w3 ⟨rfl, h3⟩; have HS0 := Lib.hid h3; have r2 := (HCL.out _ _ _ h3).1; clear h3)
        | (go_at_call 72; refine (BS.doc HS0.out (fun G1 hT _ => rappend_any r m ab bb cb G1 p bA bn bc xs _ hT (HX.out.below (HS0.out.low HB0.out HF.out HG.out)) HOX.out)).mono ?_
           rintro e w3 ⟨rfl, h3⟩; have HS0 := Lib.hid h3; have r2 := (HCL.out _ _ _ h3).1; clear h3))
    all_goals
      go_wp2
      go_ret
      refine ⟨by first | rfl | simp, ?_⟩
      rw [HP.out]
      exact HS0.out.behind B0.out
  · have h1b : (kind == 1) = false := by simpa using h1
    by_cases h2 : kind = 2
    · have HP := Lib.hid (show actP kind xs M p = repP p M by unfold actP; rw [if_neg h1, if_pos h2])
      have h2b : (kind == 2) = true := by rw [h2]; rfl
      clear h1 h2
      have HS0 := Lib.hid (H0.out.below (bdrew (Below.refl _ _)))
      have r3 := (HCL.out _ _ _ HS0.out).2
      have HFL := Lib.hid (show ∀ (F1 : Nat → Prop), (∀ k, F1 k → F k ∨ w1.heap.size ≤ k) → ∀ k, F1 k → w0.heap.size ≤ k from fun F1 h k hk => (h k hk).elim (HF.out k) (Nat.le_trans HB0.out.size))
      have HGL := Lib.hid (show ∀ (F1 : Nat → Prop), (∀ k, F1 k → G k ∨ w1.heap.size ≤ k) → ∀ k, F1 k → w0.heap.size ≤ k from fun F1 h k hk => (h k hk).elim (HG.out k) (Nat.le_trans HB0.out.size))
      go_wp2_with fail
      go_region_held3 (fun W => W.cell? ⟨g, 3, none⟩ = some (.slice lA ln lc)) (first | exact r3 | go_keep)
        (first
          | (go_at_call 25; refine (BS.prog HS0.out (fun F1 hT hF1 => replace_any t d sb mb F1 p lA ln lc M w0 _ hT HM.out HOM.out HFM.out.size (HS0.out.low HB0.out HF.out HG.out) (HFL.out F1 hF1))).mono ?_
             rintro e w3 ⟨rfl, h3⟩; have HS0 := Lib.hid h3; have r3 := (HCL.out _ _ _ h3).2; clear h3)
          | (go_at_call 73; refine (BS.doc HS0.out (fun G1 hT hG1 => rreplace_any r m ab bb cb G1 p lA ln lc M w0 _ hT HM.out HOM.out HFM.out.size5 (HS0.out.low HB0.out HF.out HG.out) (HGL.out G1 hG1))).mono ?_
             rintro e w3 ⟨rfl, h3⟩; have HS0 := Lib.hid h3; have r3 := (HCL.out _ _ _ h3).2; clear h3))
      all_goals
        go_wp2
        go_ret
        refine ⟨by first | rfl | simp, ?_⟩
        rw [HP.out]
        exact HS0.out.behind B0.out
    · have h2b : (kind == 2) = false := by simpa using h2
      by_cases h3 : kind = 3
      · have HP := Lib.hid (show actP kind xs M p = stepP p by unfold actP; rw [if_neg h1, if_neg h2, if_pos h3])
        have h3b : (kind == 3) = true := by rw [h3]; rfl
        clear h1 h2 h3
        go_wp2_with fail
        refine (BS.prog H0.out (fun F1 hT _ => step_any t d sb mb F1 p _ hT HS.out.dn3)).mono ?_
        rintro e w3 ⟨rfl, h3⟩
        have H3 := Lib.hid h3; clear h3
        go_wp2_with fail
        refine (BS.doc H3.out (fun G1 hT _ => rstep_any r m ab bb cb G1 p _ hT HS.out)).mono ?_
        rintro e w4 ⟨rfl, h4⟩
        have H4 := Lib.hid h4; clear h4
        go_wp2
        go_ret
        refine ⟨by first | rfl | simp, ?_⟩
        rw [HP.out]
        exact H4.out.behind B0.out
      · have h3b : (kind == 3) = false := by simpa using h3
        by_cases h4 : kind = 4
        · have HP := Lib.hid (show actP kind xs M p = commitP p by unfold actP; rw [if_neg h1, if_neg h2, if_neg h3, if_pos h4])
          have h4b : (kind == 4) = true := by rw [h4]; rfl
          clear h1 h2 h3 h4
          go_wp2_with fail
          refine (BS.doc H0.out (fun G1 hT _ => rcommit_any r m ab bb cb G1 p _ hT HS.out)).mono ?_
          rintro e w3 ⟨rfl, h3⟩
          have H3 := Lib.hid h3; clear h3
          go_wp2_with fail
          refine (BS.prog H3.out (fun F1 hT _ => commit_any t d sb mb F1 p _ hT HS.out.dn3)).mono ?_
          rintro e w4 ⟨rfl, h4⟩
          have H4 := Lib.hid h4; clear h4
          go_wp2
          go_ret
          refine ⟨by first | rfl | simp, ?_⟩
          rw [HP.out]
          exact H4.out.behind B0.out
        · have HP := Lib.hid (show actP kind xs M p = p by unfold actP; rw [if_neg h1, if_neg h2, if_neg h3, if_neg h4])
          have h4b : (kind == 4) = false := by simpa using h4
          clear h1 h2 h3 h4
          go_wp2
          go_ret
          refine ⟨by first | rfl | simp, ?_⟩
          rw [HP.out]
          exact H0.out.behind B0.out
end Go.Proofs.Ytlgimhhhlpmjcaa
namespace Go.Proofs.Ytlgimhhhlpmjcaa
open Go.RowKit Go.Maps Go.WideMaps Go.Shelf
set_option maxRecDepth 100000 in
set_option maxHeartbeats 2000000 in
theorem lawSectors_any (d sb mb m ab bb cb n : Nat) (sf : List Sec) (df : Int → Option Sec) (w : World) (h : BothIs w d sb mb m ab bb cb n sf df) :
    Calls Try.prog 46 #[.pointer (some ⟨d, 0, none⟩), .pointer (some ⟨m, 0, none⟩)] w fun e w' => e = .returned (.bool true) ∧ Below w.heap.size w w' := by
  obtain ⟨z, HZ, hz⟩ := zsec_named
  have Hz := Lib.hid hz; clear hz
  have H := Lib.hid h; clear h
  have hn := H.out.d.small
  obtain ⟨e1, e2, e3, hmb⟩ := H.out.r.blk
  have HMB := Lib.hid hmb; clear hmb
  go_enter Try.func46, Try.ntmps46
  go_wp2_with fail
  go_loopw [5, 6, 7] (fun i _ _ wr => ∃ k : Nat, k ≤ n ∧ i = .int .i64 k ∧ Hid (Below w.heap.size w wr)) (fun i _ _ _ => n - (intOf i).toNat)
  case atStart => exact ⟨0, Nat.zero_le _, rfl, Lib.hid (Below.refl _ _)⟩
  case round =>
    obtain ⟨k, hk, rfl, hBk⟩ := hrel
    have zk := hBk.out.size
    have hmk := HMB.out.below hBk.out
    have k0 := hmk.cell 0
    simp at k0
    clear hmk
    by_cases hlt : k < n
    · have hlt2 : (k : Int) < n := by omega
      have hk0 : (0 : Int) ≤ (k : Int) := by omega
      have hr := read_any d sb mb n sf df k wr (H.out.below hBk.out).d
      rw [errD_in hlt, rdD_in sf df hlt] at hr
      obtain ⟨s1, HS1⟩ : ∃ s, Hid (s = curS sf df k) := ⟨_, Lib.hid rfl⟩
      have LS1 : Hid (s1.length = 64) := Lib.hid (by rw [HS1.out]; exact curS_len H.out.d.len H.out.d.each H.out.d.sup hlt)
      rw [← HS1.out] at hr
      have hla : k < (flushS n sf df).length := by rw [flushS_len]; exact hlt
      have hga : (flushS n sf df)[k] = s1 := by rw [HS1.out]; simp [flushS]
      have hra : ∀ W, Below w.heap.size w W → W.rangeAt ab (k * 64) (sc s1) := fun W hW => by rw [← hga]; exact (H.out.below hW).r.a.2 k hla
      have HR := Lib.hid hr; have HRA := Lib.hid hra
      clear hr hla hga hra
      go_wp2_with fail
      refine HR.out.mono ?_
      rintro e wa ⟨rfl, hba⟩
      have Ba := Lib.hid (hBk.out.trans (hba.mono zk)); have za := Ba.out.size
      clear hba k0
      go_wp2_with (first
        | ((with_reducible refine sec_alloc secT1 HZ rfl rfl ?_); try simp only [World.size_alloc])
        | ((with_reducible refine is_store 55 (x := .tmp 6) rfl ?_); refine sec_store secT1 rfl _ _ rfl wa.heap.size 0 s1 LS1.out rfl rfl ((Blk.new _ _ _).secThere Hz.out) ?_;
           have bW : Below wa.heap.size wa ((wa.alloc (.cells (sc z).toArray 55)).setCells wa.heap.size 0 (sc s1)) := below_cells ((Below.refl _ _).alloc (Nat.le_refl _) _) (Nat.le_refl _) _ _;
           have Jwb := Lib.hid ((Blk.new wa (sc z).toArray 55).secStore (s' := s1) (Hz.out.trans LS1.out.symm));
           have Bb := Lib.hid (Ba.out.trans (bW.mono za));
           have zwb := bW.size; clear bW; generalize ((wa.alloc (.cells (sc z).toArray 55)).setCells wa.heap.size 0 (sc s1)) = wb at *))
      generalize hg9 : wa.heap.size = g9 at *
      have HG9 := Lib.hid hg9; clear hg9
      have hmk := HMB.out.below Bb.out
      have k0 := hmk.cell 0
      simp at k0
      clear hmk
      have heq : ∀ W : World, (Op.equalIn 10000 58 (.agg (sc s1).toArray) (.agg (sc s1).toArray)).run Try.prog W = .ok true W := fun W => by
        rw [sec_eq Try.underlying58 s1 s1 LS1.out LS1.out W]; simp
      refine wp_region_still_lit (by kernel_rfl) (by kernel_rfl) ?_
      still_step; still_step; still_step
      refine sec_still_w secT1 (by rfl) _ rfl g9 0 rfl s1 LS1.out Jwb.out.sec ?_
      still_step; still_step; still_step; still_step; still_step; still_step
      refine sec_still_w secT2 (by rfl) _ rfl ab (k * 64) rfl s1 LS1.out (HRA.out _ Bb.out.drew) ?_
      repeat still_step
      refine wpStill_nil ?_
      go_wp2_with fail
      go_roundw
      case rel => exact ⟨k + 1, by omega, by go_num, Lib.hid Bb.out.drew⟩
      case measure => simp [intOf]; omega
    · have hkk : k = n := by omega
      subst hkk
      go_wp2_with fail
      refine (dirty_any d sb mb k sf df wr (H.out.below hBk.out).d).mono ?_
      rintro e w1 ⟨a1, c1, rfl, hr1, hb1⟩
      have B1 := Lib.hid (bthen hBk.out hb1); clear hb1 hr1
      go_wp2_with fail
      refine (rdirty_any m ab bb cb k _ _ df w1 (H.out.below B1.out).r).mono ?_
      rintro e w2 ⟨a2, c2, rfl, hr2, hb2⟩
      have B2 := Lib.hid (bthen B1.out hb2); clear hb2 hr2
      generalize (dirtyI k df).length = l at *
      go_wp2
      go_ret
      exact ⟨by first | rfl | simp, B2.out⟩
end Go.Proofs.Ytlgimhhhlpmjcaa
namespace Go.Proofs.Ytlgimhhhlpmjcaa
open Go.RowKit Go.Maps Go.WideMaps Go.Shelf
set_option maxRecDepth 100000 in
set_option maxHeartbeats 2000000 in
theorem tellsAlike_any (t d sb mb r m ab bb cb : Nat) (F G : Nat → Prop) (p : TD) (w : World) (HT : TapeIs w F t d sb mb p) (HR : RTapeIs w G r m ab bb cb p) :
    Calls Try.prog 47 #[.pointer (some ⟨t, 0, none⟩), .pointer (some ⟨r, 0, none⟩)] w fun e w' => e = .returned (.bool true) ∧ Below w.heap.size w w' := by
  obtain ⟨A, c, A', c', K, R, R'⟩ := HR.blk
  have k2 := K.cell 2; have k3 := K.cell 3
  simp [RC] at k2 k3
  have tl := K.lt
  have hab := allB_le HT.small
  have hfl := HT.ok.fitL
  have hll : p.L.length ≤ 32704 := by have := sizeB_len p.L; omega
  have HRD := Lib.hid R.rd
  have HHT := Lib.hid HT; have HHR := Lib.hid HR
  have q0 := Lib.hid (show ∀ W, Below w.heap.size w W → W.cell? ⟨r, 2, none⟩ = some (.slice A p.L.length c) ∧ W.cell? ⟨r, 3, none⟩ = some (.slice A' p.W.length c') from fun W hW => ⟨(hW.cell (p := ⟨r, 2, none⟩) tl).trans k2, (hW.cell (p := ⟨r, 3, none⟩) tl).trans k3⟩)
  clear K R R' HT HR hab hfl
  go_enter Try.func47, Try.ntmps47
  have X := Lib.hid (bdrew (Below.refl w.heap.size w))
  have r2 := (q0.out _ X.out).1; have r3 := (q0.out _ X.out).2
  obtain ⟨rm, hrm⟩ : ∃ rm, rm = roomP p := ⟨_, rfl⟩
  have HRM := Lib.hid hrm; clear hrm
  go_wp2_with fail
  go_region_held3 (fun W => W.cell? ⟨r, 2, none⟩ = some (.slice A p.L.length c) ∧ W.cell? ⟨r, 3, none⟩ = some (.slice A' p.W.length c')) (first | exact ⟨r2, r3⟩ | go_keep)
    (first
      | (go_at_call 19; refine (tlen_any t d sb mb F p _ (HHT.out.below X.out)).mono ?_; rintro e w2 ⟨rfl, hw2⟩; rw [hw2]; clear hw2 w2)
      | (go_at_call 24; refine (waiting_any t d sb mb F p _ (HHT.out.below X.out)).mono ?_; rintro e w2 ⟨rfl, hw2⟩; rw [hw2]; clear hw2 w2)
      | (go_at_call 23; refine (room_any t d sb mb F p _ (HHT.out.below X.out)).mono ?_; rintro e w2 ⟨rfl, B2⟩; rw [← HRM.out]; have X := Lib.hid (bthen X.out B2); have r2 := (q0.out _ X.out).1; have r3 := (q0.out _ X.out).2; clear B2)
      | (go_at_call 76; refine (rroom_any r m ab bb cb G p _ (HHR.out.below X.out)).mono ?_; rintro e w2 ⟨rfl, B2⟩; rw [← HRM.out]; have X := Lib.hid (bthen X.out B2); have r2 := (q0.out _ X.out).1; have r3 := (q0.out _ X.out).2; clear B2))
  all_goals
    go_wp2_with fail
    go_loopw [5, 6, 7] (fun i _ _ wr => ∃ k : Nat, k ≤ p.L.length ∧ i = .int .i64 k ∧ Hid (Below w.heap.size w wr)) (fun i _ _ _ => p.L.length - (intOf i).toNat)
    case atStart => exact ⟨0, Nat.zero_le _, rfl, X⟩
    case round =>
      obtain ⟨k, hk, rfl, hB⟩ := hrel
      clear r2 r3 X
      have r2 := (q0.out _ hB.out).1
      have zk := hB.out.size
      by_cases hlt : k < p.L.length
      · have hltI : (k : Int) < p.L.length := by omega
        go_wp2_with fail
        refine (tread_in t d sb mb F p k wr (HHT.out.below hB.out) hlt).mono ?_
        rintro e w3 ⟨v3, rfl, O3, B3⟩
        have B03 := Lib.hid (bthen hB.out B3)
        obtain ⟨a3, c3, rfl⟩ := O3.form
        obtain ⟨b1, o1, ea, hb1, hc1⟩ := HRD.out.at' (by omega)
        obtain ⟨A1, c1, q1, rd1⟩ := hc1 k hlt
        have q3 := (B03.out.cell (p := ⟨b1, o1 + k, none⟩) hb1).trans q1
        have s2 := (q0.out _ B03.out).1
        have cv1 : ∀ j, (convert 31 9 (.slice a3 p.L[k].length c3)).run Try.prog (w3.drewN j) = .ok (.string (strOfNums p.L[k])) (w3.drewN j) := fun j => rdu8_string (O3.rd.below (below_drewN (Below.refl _ _) j))
        have cv2 : ∀ j, (convert 31 9 (.slice A1 p.L[k].length c1)).run Try.prog (w3.drewN j) = .ok (.string (strOfNums p.L[k])) (w3.drewN j) := fun j => rdu8_string ((rd1.below B03.out).below (below_drewN (Below.refl _ _) j))
        have hk0 : (0 : Int) ≤ (k : Int) := by omega
        subst ea
        clear hc1 rd1 q1 O3 B3 r2
        generalize strOfNums p.L[k] = s1 at *
        generalize p.L[k].length = l1 at *
        have hbeq : (s1.toList == s1.toList) = true := by rw [str_beq]; simp
        go_wp2_with fail
        go_quiet (fail)
        rename_i nq
        go_wp2
        go_roundw
        case rel => exact ⟨k + 1, by omega, by go_num, Lib.hid (below_drewN B03.out _)⟩
        case measure => simp [intOf]; omega
      · have : k = p.L.length := by omega
        subst this
        go_wp2
        go_ret
        exact ⟨rfl, hB.out⟩
end Go.Proofs.Ytlgimhhhlpmjcaa
namespace Go.Proofs.Ytlgimhhhlpmjcaa
open Go.RowKit Go.Maps Go.WideMaps Go.Shelf

theorem commitN_n : ∀ (m : Nat) (p : TD), (commitN m p).n = p.n
  | 0, p => rfl
  | m + 1, p => by
    unfold commitN
    split
    · exact stepP_n p
    · exact (commitN_n m _).trans (stepP_n p)
theorem commitP_n (p : TD) : (commitP p).n = p.n := commitN_n _ p
structure TA where
  kind : Int
  i : Int
  b : Bs
  l : List Bs
  keep : List Bool
def RdTActs (w : World) (A : Option Addr) (n : Nat) : Prop := ∃ xs, RdL tactV (1 + (1 + (1 + (1 + (1 + 0))))) w A n xs
theorem RdTActs.below {w w' : World} {A : Option Addr} {n : Nat} (h : RdTActs w A n) (hb : Below w.heap.size w w') : RdTActs w' A n := by
  obtain ⟨xs, h⟩ := h
  exact ⟨xs, h.below vwTAct hb⟩
def ActC5 (a : TA) (bA : Option Addr) (bc : Nat) (lA : Option Addr) (lc : Nat) (kA : Option Addr) (kc : Nat) : Array Value := #[.int .i64 a.kind, .int .i64 a.i, .slice bA a.b.length bc, .slice lA a.l.length lc, .slice kA a.keep.length kc]
/-- The act at k. -/
structure TActAt (w : World) (b off k : Nat) (a : TA) (bA : Option Addr) (bc : Nat) (lA : Option Addr) (lc : Nat) (kA : Option Addr) (kc : Nat) : Prop where
  c0 : w.cell? ⟨b, off + k * 5, none⟩ = some (.int .i64 a.kind)
  c1 : w.cell? ⟨b, off + k * 5 + 1, none⟩ = some (.int .i64 a.i)
  c2 : w.cell? ⟨b, off + k * 5 + 2, none⟩ = some (.slice bA a.b.length bc)
  c3 : w.cell? ⟨b, off + k * 5 + 3, none⟩ = some (.slice lA a.l.length lc)
  c4 : w.cell? ⟨b, off + k * 5 + 4, none⟩ = some (.slice kA a.keep.length kc)
  hb : RdU8 w bA a.b.length a.b
  ob : okB a.b
  hl : RdBB w lA a.l.length a.l
  ol : ∀ x ∈ a.l, okB x
  hk : RdBo w kA a.keep.length a.keep
  lt : b < w.heap.size
theorem RdTActs.at {w : World} {A : Option Addr} {n k : Nat} (h : RdTActs w A n) (hk : k < n) : ∃ b off a bA bc lA lc kA kc, A = some ⟨b, off, none⟩ ∧ TActAt w b off k a bA bc lA lc kA kc := by
  obtain ⟨xs, h⟩ := h
  obtain ⟨b, off, e, hc⟩ := h.at' (by omega)
  obtain ⟨cs, hv, hcell⟩ := hc k (by rw [h.len]; exact hk)
  obtain ⟨_, _, rfl, ⟨rfl, _⟩, _, _, rfl, ⟨rfl, _⟩, _, _, rfl, ⟨bA, bc, rfl, hb⟩, _, _, rfl, ⟨lA, lc, rfl, hl⟩, _, _, rfl, ⟨kA, kc, rfl, hkk⟩, rfl⟩ := hv
  have c0 := hcell 0 (by simp); have c1 := hcell 1 (by simp); have c2 := hcell 2 (by simp); have c3 := hcell 3 (by simp); have c4 := hcell 4 (by simp)
  simp at c0 c1 c2 c3 c4
  exact ⟨b, off, ⟨_, _, _, _, _⟩, bA, bc, lA, lc, kA, kc, e, c0, c1, c2, c3, c4, RdU8.of hb, fun y hy => byte_wf (hb.wf y hy), (RdBB.of hl).1, (RdBB.of hl).2, RdBo.of hkk, World.block_lt_of_cell? w _ c0⟩
theorem tactInfo : (Try.prog.info? 43).map (·.size) = some 5 := by kernel_rfl

/-- Behind an act: a tape and the document's, over their disks. -/
def LA (w : World) (n d k t r g : Nat) (ca : Array Value) (wr : World) : Prop :=
  ∃ sb mb ab bb cb F G p, p.n = n ∧ TapeIs wr F t d sb mb p ∧ RTapeIs wr G r k ab bb cb p ∧ (∀ x, F x → ¬ G x) ∧ RSt p ∧ (∀ x, F x → w.heap.size ≤ x) ∧ (∀ x, G x → w.heap.size ≤ x) ∧ ¬ F g ∧ ¬ G g ∧ Blk wr g ca 43 ∧ Below w.heap.size w wr
def LS (w : World) (n d k t r : Nat) (wr : World) : Prop :=
  ∃ sb mb ab bb cb F G p, p.n = n ∧ TapeIs wr F t d sb mb p ∧ RTapeIs wr G r k ab bb cb p ∧ (∀ x, F x → ¬ G x) ∧ RSt p ∧ (∀ x, F x → w.heap.size ≤ x) ∧ (∀ x, G x → w.heap.size ≤ x) ∧ Below w.heap.size w wr
theorem LA.ls {w : World} {n d k t r g : Nat} {ca : Array Value} {wr : World} (h : LA w n d k t r g ca wr) : LS w n d k t r wr := by
  obtain ⟨sb, mb, ab, bb, cb, F, G, p, h1, h2, h3, h4, h5, h6, h7, h8, h9, h10, h11⟩ := h
  exact ⟨sb, mb, ab, bb, cb, F, G, p, h1, h2, h3, h4, h5, h6, h7, h11⟩
theorem LS.low {w : World} {n d k t r : Nat} {wr : World} (h : LS w n d k t r wr) : Below w.heap.size w wr := by
  obtain ⟨sb, mb, ab, bb, cb, F, G, p, h1, h2, h3, h4, h5, h6, h7, h11⟩ := h
  exact h11
theorem LA.low {w : World} {n d k t r g : Nat} {ca : Array Value} {wr : World} (h : LA w n d k t r g ca wr) : Below w.heap.size w wr := h.ls.low
theorem LA.blk {w : World} {n d k t r g : Nat} {ca : Array Value} {wr : World} (h : LA w n d k t r g ca wr) : Blk wr g ca 43 := by
  obtain ⟨sb, mb, ab, bb, cb, F, G, p, h1, h2, h3, h4, h5, h6, h7, h8, h9, h10, h11⟩ := h
  exact h10
theorem LA.below {w : World} {n d k t r g : Nat} {ca : Array Value} {wr w' : World} (h : LA w n d k t r g ca wr) (hb : Below wr.heap.size wr w') : LA w n d k t r g ca w' := by
  obtain ⟨sb, mb, ab, bb, cb, F, G, p, h1, h2, h3, h4, h5, h6, h7, h8, h9, h10, h11⟩ := h
  exact ⟨sb, mb, ab, bb, cb, F, G, p, h1, h2.below hb, h3.below hb, h4, h5, h6, h7, h8, h9, h10.below hb, bthen h11 hb⟩
theorem LS.below {w : World} {n d k t r : Nat} {wr w' : World} (h : LS w n d k t r wr) (hb : Below wr.heap.size wr w') : LS w n d k t r w' := by
  obtain ⟨sb, mb, ab, bb, cb, F, G, p, h1, h2, h3, h4, h5, h6, h7, h11⟩ := h
  exact ⟨sb, mb, ab, bb, cb, F, G, p, h1, h2.below hb, h3.below hb, h4, h5, h6, h7, bthen h11 hb⟩
theorem LS.la {w : World} {n d k t r g : Nat} {ca : Array Value} {wr w' : World} (h : LS w n d k t r wr) (hb : Below wr.heap.size wr w') (hg : wr.heap.size ≤ g) (hB : Blk w' g ca 43) : LA w n d k t r g ca w' := by
  obtain ⟨sb, mb, ab, bb, cb, F, G, p, h1, h2, h3, h4, h5, h6, h7, h11⟩ := h
  exact ⟨sb, mb, ab, bb, cb, F, G, p, h1, h2.below hb, h3.below hb, h4, h5, h6, h7, fun h => by have := h2.lt g h; omega, fun h => by have := h3.lt g h; omega, hB, bthen h11 hb⟩
theorem la_both {w : World} {n d k t r g : Nat} {ca : Array Value} {wr : World} (h : LA w n d k t r g ca wr) (a : TA) (bA : Option Addr) (bc : Nat) (lA : Option Addr) (lc : Nat) (kA : Option Addr) (kc : Nat)
    (hb : RdU8 w bA a.b.length a.b) (ob : okB a.b) (hl : RdBB w lA a.l.length a.l) (ol : ∀ x ∈ a.l, okB x) (fm : fitsM a.l) :
    Calls Try.prog 45 #[.agg #[.int .i64 a.kind, .int .i64 a.i, .slice bA a.b.length bc, .slice lA a.l.length lc, .slice kA a.keep.length kc], .pointer (some ⟨t, 0, none⟩), .pointer (some ⟨r, 0, none⟩)] wr fun e w' => e = .returned (.bool true) ∧ LA w n d k t r g ca w' := by
  obtain ⟨sb, mb, ab, bb, cb, F, G, p, h1, h2, h3, h4, h5, h6, h7, h8, h9, h10, h11⟩ := h
  refine (both_any a.kind a.i bA _ bc lA _ lc kA _ kc a.b a.l t d sb mb r k ab bb cb F G p w wr h2 h3 h4 h5 h11 h6 h7 hb ob hl ol fm).mono ?_
  rintro e w' ⟨rfl, hK, F', G', i2, i3, i4, i5, i6⟩
  have hn : (actP a.kind a.b a.l p).n = p.n := by
    unfold actP
    split
    · exact (appP_n p _).1
    · split
      · unfold repP; split <;> rfl
      · split
        · exact stepP_n p
        · split
          · exact commitP_n p
          · rfl
  have hz := h10.lt
  refine ⟨rfl, sb, mb, ab, bb, cb, F', G', _, hn.trans h1, i2, i3, i4, RSt.act h2.ok h5 _ _ _, fun x hx => (i5 x hx).elim (h6 x) (Nat.le_trans h11.size), fun x hx => (i6 x hx).elim (h7 x) (Nat.le_trans h11.size), fun hx => ?_, fun hx => ?_, h10.kept hK (fun e => e.elim h8 h9), h11.trans (hK.below h11.size (fun x hx => hx.elim (h6 x) (h7 x)))⟩
  · rcases i5 g hx with e | e
    · exact h8 e
    · omega
  · rcases i6 g hx with e | e
    · exact h9 e
    · omega
theorem la_sectors {w : World} {n d k t r g : Nat} {ca : Array Value} {wr : World} (h : LA w n d k t r g ca wr) :
    Calls Try.prog 46 #[.pointer (some ⟨d, 0, none⟩), .pointer (some ⟨k, 0, none⟩)] wr fun e w' => e = .returned (.bool true) ∧ LA w n d k t r g ca w' := by
  have h0 := h
  obtain ⟨sb, mb, ab, bb, cb, F, G, p, h1, h2, h3, _⟩ := h
  refine (lawSectors_any d sb mb k ab bb cb p.n p.sf p.df wr ⟨h2.disk, h3.ref⟩).mono ?_
  rintro e w' ⟨rfl, hb⟩
  exact ⟨rfl, h0.below hb⟩
theorem la_alike {w : World} {n d k t r g : Nat} {ca : Array Value} {wr : World} (h : LA w n d k t r g ca wr) :
    Calls Try.prog 47 #[.pointer (some ⟨t, 0, none⟩), .pointer (some ⟨r, 0, none⟩)] wr fun e w' => e = .returned (.bool true) ∧ LA w n d k t r g ca w' := by
  have h0 := h
  obtain ⟨sb, mb, ab, bb, cb, F, G, p, h1, h2, h3, _⟩ := h
  refine (tellsAlike_any t d sb mb r k ab bb cb F G p wr h2 h3).mono ?_
  rintro e w' ⟨rfl, hb⟩
  exact ⟨rfl, h0.below hb⟩

/-- Two disks, each as it is. -/
def D2 (w : World) (n d k g : Nat) (ca : Array Value) (sf : List Sec) (df : Int → Option Sec) (sf' : List Sec) (df' : Int → Option Sec) (wr : World) : Prop :=
  ∃ sb mb ab bb cb, DiskIs wr d sb mb n sf df ∧ RefIs wr k ab bb cb n (flushS n sf' df') sf' (isDs n df') ∧ Above w.heap.size d sb mb k ab bb cb ∧ Blk wr g ca 43 ∧ Below w.heap.size w wr
theorem LA.d2 {w : World} {n d k t r g : Nat} {ca : Array Value} {wr : World} (h : LA w n d k t r g ca wr) : ∃ sf df, Lens n sf df ∧ BytesS sf df ∧ 3 ≤ n ∧ D2 w n d k g ca sf df sf df wr := by
  obtain ⟨sb, mb, ab, bb, cb, F, G, p, rfl, h2, h3, h4, h5, h6, h7, h8, h9, h10, h11⟩ := h
  exact ⟨p.sf, p.df, h5.lens, h5.by', h2.ok.n3, sb, mb, ab, bb, cb, h2.disk, h3.ref, ⟨h6 d h2.fd, h6 sb h2.fs, h6 mb h2.fm, h7 k h3.fm, h7 ab h3.fa, h7 bb h3.fb, h7 cb h3.fc⟩, h10, h11⟩
theorem D2.low {w : World} {n d k g : Nat} {ca : Array Value} {sf sf' : List Sec} {df df' : Int → Option Sec} {wr : World} (h : D2 w n d k g ca sf df sf' df' wr) : Below w.heap.size w wr := by
  obtain ⟨sb, mb, ab, bb, cb, h1, h2, h3, h4, h5⟩ := h
  exact h5
theorem D2.blk {w : World} {n d k g : Nat} {ca : Array Value} {sf sf' : List Sec} {df df' : Int → Option Sec} {wr : World} (h : D2 w n d k g ca sf df sf' df' wr) : Blk wr g ca 43 := by
  obtain ⟨sb, mb, ab, bb, cb, h1, h2, h3, h4, h5⟩ := h
  exact h4
theorem D2.below {w : World} {n d k g : Nat} {ca : Array Value} {sf sf' : List Sec} {df df' : Int → Option Sec} {wr w' : World} (h : D2 w n d k g ca sf df sf' df' wr) (hb : Below wr.heap.size wr w') : D2 w n d k g ca sf df sf' df' w' := by
  obtain ⟨sb, mb, ab, bb, cb, h1, h2, h3, h4, h5⟩ := h
  exact ⟨sb, mb, ab, bb, cb, h1.below hb, h2.below hb, h3, h4.below hb, bthen h5 hb⟩
theorem two_ns {w : World} {d sb mb m ab bb cb n : Nat} {sf : List Sec} {df : Int → Option Sec} {nw ol : List Sec} {dd : List Bool} (hd : DiskIs w d sb mb n sf df) (hr : RefIs w m ab bb cb n nw ol dd) :
    (d ≠ m ∧ d ≠ ab ∧ d ≠ bb ∧ d ≠ cb) ∧ (sb ≠ m ∧ sb ≠ ab ∧ sb ≠ bb ∧ sb ≠ cb) ∧ (m ≠ mb ∧ ab ≠ mb ∧ bb ≠ mb ∧ cb ≠ mb) := by
  obtain ⟨cap, hd'⟩ := hd.blk
  obtain ⟨⟨cu, hs⟩, _⟩ := hd.safe
  obtain ⟨c1, c2, c3, hm⟩ := hr.blk
  obtain ⟨⟨ca, ha⟩, _⟩ := hr.a
  obtain ⟨⟨cv, hb⟩, _⟩ := hr.b
  exact ⟨⟨blk_ne hd' hm (by decide), blk_ne hd' ha (by decide), blk_ne hd' hb (by decide), blk_ne hd' hr.c (by decide)⟩, ⟨blk_ne hs hm (by decide), blk_ne hs ha (by decide), blk_ne hs hb (by decide), blk_ne hs hr.c (by decide)⟩, ⟨hd.map.ne hm, hd.map.ne ha, hd.map.ne hb, hd.map.ne hr.c⟩⟩
theorem d2_crash {w : World} {n d k g : Nat} {ca : Array Value} {sf sf' : List Sec} {df df' : Int → Option Sec} {wr : World} (h : D2 w n d k g ca sf df sf' df' wr) (A : Option Addr) (q c : Nat) (keep : List Bool) (hk : RdBo w A q keep) :
    Calls Try.prog 36 #[.pointer (some ⟨d, 0, none⟩), .slice A q c] wr fun e w' => ∃ d', e = .returned (.pointer (some ⟨d', 0, none⟩)) ∧ D2 w n d' k g ca (crashS n sf df keep) (fun _ => none) sf' df' w' := by
  obtain ⟨sb, mb, ab, bb, cb, h1, h2, ⟨a1, a2, a3, a4, a5, a6, a7⟩, h4, h5⟩ := h
  refine (crash_any d sb mb n sf df A q c keep wr h1 (hk.below h5)).mono ?_
  rintro e w' ⟨x, xs, xm, rfl, hX, x1, x2, x3, hb⟩
  have := h5.size
  exact ⟨x, rfl, xs, xm, ab, bb, cb, hX, h2.below hb, ⟨by omega, by omega, by omega, a4, a5, a6, a7⟩, h4.below hb, bthen h5 hb⟩
theorem d2_rcrash {w : World} {n d k g : Nat} {ca : Array Value} {sf sf' : List Sec} {df df' : Int → Option Sec} {wr : World} (h : D2 w n d k g ca sf df sf' df' wr) (hn : 1 ≤ n) (hL : Lens n sf' df') (A : Option Addr) (q c : Nat) (keep : List Bool) (hk : RdBo w A q keep) :
    Calls Try.prog 38 #[.pointer (some ⟨k, 0, none⟩), .slice A q c] wr fun e w' => ∃ k', e = .returned (.pointer (some ⟨k', 0, none⟩)) ∧ D2 w n d k' g ca sf df (crashS n sf' df' keep) (fun _ => none) w' := by
  obtain ⟨sb, mb, ab, bb, cb, h1, h2, ⟨a1, a2, a3, a4, a5, a6, a7⟩, h4, h5⟩ := h
  refine (rcrash_any k ab bb cb n sf' df' A q c keep wr h2 (hk.below h5) hn hL.sup).mono ?_
  rintro e w' ⟨y, ya, yb, yc, rfl, hY, y1, y2, y3, y4, hb⟩
  have := h5.size
  exact ⟨y, rfl, sb, mb, ya, yb, yc, h1.below hb, by rw [isDs_none, flushS_none (crashS_len _ _ _ _)]; exact hY, ⟨a1, a2, a3, by omega, by omega, by omega, by omega⟩, h4.below hb, bthen h5 hb⟩
theorem d2_write {w : World} {n d k g : Nat} {ca : Array Value} {sf sf' : List Sec} {df df' : Int → Option Sec} {wr : World} (h : D2 w n d k g ca sf df sf' df' wr) (i : Int) (s : Sec) (hs : s.length = 64) :
    Calls Try.prog 30 #[.pointer (some ⟨d, 0, none⟩), .int .i64 i, .agg (sc s).toArray] wr fun e w' => e = .returned (.int .i64 (errD n i)) ∧ D2 w n d k g ca sf (wrD n df i s) sf' df' w' := by
  obtain ⟨sb, mb, ab, bb, cb, h1, h2, h3, h4, h5⟩ := h
  obtain ⟨_, _, m1, m2, m3, m4⟩ := two_ns h1 h2
  obtain ⟨a1, a2, a3, a4, a5, a6, a7⟩ := h3
  refine (write_any d sb mb n sf df i s wr h1 hs).mono ?_
  rintro e w' ⟨rfl, hD, hg⟩
  exact ⟨rfl, sb, mb, ab, bb, cb, hD, h2.grown hg m1 m2 m3 m4, ⟨a1, a2, a3, a4, a5, a6, a7⟩, h4.grown hg (fun e => h1.map.ne h4 (Option.some.inj e)), h5.trans (grown_low hg h5.size a3)⟩
theorem d2_rwrite {w : World} {n d k g : Nat} {ca : Array Value} {sf sf' : List Sec} {df df' : Int → Option Sec} {wr : World} (h : D2 w n d k g ca sf df sf' df' wr) (i : Int) (s : Sec) (hs : s.length = 64) :
    Calls Try.prog 32 #[.pointer (some ⟨k, 0, none⟩), .int .i64 i, .agg (sc s).toArray] wr fun e w' => e = .returned (.int .i64 (errD n i)) ∧ D2 w n d k g ca sf df sf' (wrD n df' i s) w' := by
  obtain ⟨sb, mb, ab, bb, cb, h1, h2, h3, h4, h5⟩ := h
  obtain ⟨⟨d1, d2, d3, d4⟩, ⟨s1, s2, s3, s4⟩, m1, m2, m3, m4⟩ := two_ns h1 h2
  obtain ⟨a1, a2, a3, a4, a5, a6, a7⟩ := h3
  obtain ⟨⟨cu, ha⟩, _⟩ := h2.a
  have g1 : g ≠ ab := blk_ne h4 ha (by decide)
  have g2 : g ≠ cb := blk_ne h4 h2.c (by decide)
  refine (rwrite_any k ab bb cb n sf' df' i s wr h2 hs).mono ?_
  rintro e w' ⟨rfl, hR, hk⟩
  exact ⟨rfl, sb, mb, ab, bb, cb, h1.kept hk (fun e => e.elim d2 d4) (fun e => e.elim s2 s4) (fun e => e.elim (fun h => m2 h.symm) (fun h => m4 h.symm)), hR, ⟨a1, a2, a3, a4, a5, a6, a7⟩, h4.kept hk (fun e => e.elim g1 g2), h5.trans (hk.below h5.size (fun x e => by rcases e with rfl | rfl <;> assumption))⟩
/-- A tape that is opened anew, and the document's disk. -/
def D3 (w : World) (n d k t g : Nat) (ca : Array Value) (p : TD) (wr : World) : Prop :=
  ∃ sb mb ab bb cb F, p.n = n ∧ TapeIs wr F t d sb mb p ∧ RefIs wr k ab bb cb n (flushS n p.sf p.df) p.sf (isDs n p.df) ∧ (∀ x, F x → w.heap.size ≤ x) ∧ (¬ F k ∧ ¬ F ab ∧ ¬ F bb ∧ ¬ F cb ∧ ¬ F g) ∧ (w.heap.size ≤ k ∧ w.heap.size ≤ ab ∧ w.heap.size ≤ bb ∧ w.heap.size ≤ cb) ∧ Blk wr g ca 43 ∧ Below w.heap.size w wr
def OpenRes (w : World) (n d k g : Nat) (ca : Array Value) (sf : List Sec) (df : Int → Option Sec) (e : Ending) (w' : World) : Prop :=
  match openP n sf df with
  | none => e = .returned (.tuple #[.pointer none, .int .i64 63]) ∧ D2 w n d k g ca sf df sf df w'
  | some (h, L) => ∃ t, e = .returned (.tuple #[.pointer (some ⟨t, 0, none⟩), .int .i64 0]) ∧ D3 w n d k t g ca ⟨n, sf, df, h, L, [], false, 0⟩ w'
theorem d2_open {w : World} {n d k g : Nat} {ca : Array Value} {sf : List Sec} {df : Int → Option Sec} {wr : World} (h : D2 w n d k g ca sf df sf df wr) (hn : 3 ≤ n) (hby : BytesS sf df) :
    Calls Try.prog 16 #[.pointer (some ⟨d, 0, none⟩)] wr (OpenRes w n d k g ca sf df) := by
  have h0 := h
  obtain ⟨sb, mb, ab, bb, cb, h1, h2, ⟨a1, a2, a3, a4, a5, a6, a7⟩, h4, h5⟩ := h
  obtain ⟨⟨d1, d2, d3, d4⟩, ⟨s1, s2, s3, s4⟩, m1, m2, m3, m4⟩ := two_ns h1 h2
  refine (open_any d sb mb n sf df wr h1 hn hby).mono ?_
  intro e w' hP
  unfold OpenPost at hP
  unfold OpenRes
  obtain ⟨hb, hP⟩ := hP
  cases ho : openP n sf df with
  | none =>
    rw [ho] at hP
    exact ⟨hP, h0.below hb⟩
  | some x =>
    obtain ⟨hh, L⟩ := x
    rw [ho] at hP
    obtain ⟨t, F, rfl, hT, hF⟩ := hP
    obtain ⟨l1, l2, l3, l4⟩ := h2.lt
    have hz := h5.size
    have gl := h4.lt
    obtain ⟨cap, hdb⟩ := h1.blk
    obtain ⟨⟨cu, hsb⟩, _⟩ := h1.safe
    have g1 : g ≠ d := blk_ne h4 hdb (by decide)
    have g2 : g ≠ sb := blk_ne h4 hsb (by decide)
    have g3 : g ≠ mb := h1.map.ne h4
    have no : ∀ x, x < wr.heap.size → x ≠ d → x ≠ sb → x ≠ mb → ¬ F x := fun x hx e1 e2 e3 hFx => by
      rcases hF x hFx with e | e | e | e
      · exact e1 e
      · exact e2 e
      · exact e3 e
      · omega
    refine ⟨t, rfl, sb, mb, ab, bb, cb, F, rfl, hT, h2.below hb, fun x hx => ?_, ⟨no k l1 d1.symm s1.symm m1, no ab l2 d2.symm s2.symm m2, no bb l3 d3.symm s3.symm m3, no cb l4 d4.symm s4.symm m4, no g gl g1 g2 g3⟩, ⟨a4, a5, a6, a7⟩, h4.below hb, bthen h5 hb⟩
    rcases hF x hx with rfl | rfl | rfl | e
    · exact a1
    · exact a2
    · exact a3
    · exact Nat.le_trans hz e
theorem d2_ropen_none {w : World} {n d k g : Nat} {ca : Array Value} {sf : List Sec} {df : Int → Option Sec} {wr : World} (h : D2 w n d k g ca sf df sf df wr) (hn : 3 ≤ n) (hL : Lens n sf df) (hby : BytesS sf df) (ho : openP n sf df = none) :
    Calls Try.prog 44 #[.pointer (some ⟨k, 0, none⟩)] wr fun e w' => e = .returned (.tuple #[.pointer none, .int .i64 63]) ∧ Below w.heap.size w w' := by
  obtain ⟨sb, mb, ab, bb, cb, h1, h2, h3, h4, h5⟩ := h
  refine (ropen_any k ab bb cb n sf df wr h2 hL hn hby).mono ?_
  rintro e w' ⟨hb, hP⟩
  rw [ho] at hP
  exact ⟨hP, bthen h5 hb⟩
theorem d3_ropen {w : World} {n d k t g h : Nat} {L : List Bs} {ca : Array Value} {sf : List Sec} {df : Int → Option Sec} {wr : World} (h3 : D3 w n d k t g ca ⟨n, sf, df, h, L, [], false, 0⟩ wr) (hn : 3 ≤ n) (hL : Lens n sf df) (hby : BytesS sf df) (ho : openP n sf df = some (h, L)) :
    Calls Try.prog 44 #[.pointer (some ⟨k, 0, none⟩)] wr fun e w' => ∃ r, e = .returned (.tuple #[.pointer (some ⟨r, 0, none⟩), .int .i64 0]) ∧ LA w n d k t r g ca w' := by
  obtain ⟨sb, mb, ab, bb, cb, F, _, h2, h4, h5, ⟨f1, f2, f3, f4, f5⟩, ⟨a4, a5, a6, a7⟩, hB, hlow⟩ := h3
  refine (ropen_any k ab bb cb n sf df wr h4 hL hn hby).mono ?_
  rintro e w' ⟨hb, hP⟩
  rw [ho] at hP
  obtain ⟨r, G, rfl, hR, hG⟩ := hP
  have hz := hlow.size
  have gl := hB.lt
  obtain ⟨⟨cu, ha⟩, _⟩ := h4.a
  obtain ⟨⟨cv, hbb⟩, _⟩ := h4.b
  obtain ⟨c1, c2, c3, hm⟩ := h4.blk
  refine ⟨r, rfl, sb, mb, ab, bb, cb, F, G, _, rfl, h2.below hb, hR, fun x hF hGx => ?_, (RSt.open hL hby hn ho).1, h5, fun x hx => ?_, f5, fun hx => ?_, hB.below hb, bthen hlow hb⟩
  · rcases hG x hGx with rfl | rfl | rfl | rfl | e
    · exact f1 hF
    · exact f2 hF
    · exact f3 hF
    · exact f4 hF
    · have := h2.lt x hF; omega
  · rcases hG x hx with rfl | rfl | rfl | rfl | e
    · exact a4
    · exact a5
    · exact a6
    · exact a7
    · exact Nat.le_trans hz e
  · rcases hG g hx with e | e | e | e | e
    · exact blk_ne hB hm (by decide) e
    · exact blk_ne hB ha (by decide) e
    · exact blk_ne hB hbb (by decide) e
    · exact blk_ne hB h4.c (by decide) e
    · omega
theorem ls_read {w : World} {n d k t r : Nat} {wr : World} (h : LS w n d k t r wr) (i : Int) (hi : i < 0) :
    Calls Try.prog 20 #[.pointer (some ⟨t, 0, none⟩), .int .i64 i] wr fun e w' => e = .returned (.tuple #[.slice none 0 0, .int .i64 62]) ∧ w' = wr := by
  obtain ⟨sb, mb, ab, bb, cb, F, G, p, h1, h2, _⟩ := h
  exact tread_out t d sb mb F p i wr h2 (.inl hi)
theorem ls_len {w : World} {n d k t r : Nat} {wr : World} (h : LS w n d k t r wr) : ∃ q : Nat, (Calls Try.prog 19 #[.pointer (some ⟨t, 0, none⟩)] wr fun e w' => e = .returned (.int .i64 q) ∧ w' = wr) ∧
    Calls Try.prog 20 #[.pointer (some ⟨t, 0, none⟩), .int .i64 q] wr fun e w' => e = .returned (.tuple #[.slice none 0 0, .int .i64 62]) ∧ w' = wr := by
  obtain ⟨sb, mb, ab, bb, cb, F, G, p, h1, h2, _⟩ := h
  exact ⟨p.L.length, tlen_any t d sb mb F p wr h2, tread_out t d sb mb F p _ wr h2 (.inr (Int.le_refl _))⟩
end Go.Proofs.Ytlgimhhhlpmjcaa
namespace Go.Proofs.Ytlgimhhhlpmjcaa
open Go.RowKit Go.Maps Go.WideMaps Go.Shelf

/-- Behind the first opening of new disks. -/
def LS0 (w : World) (n d k t : Nat) (wr : World) : Prop :=
  ∃ sb mb ab bb cb F, TapeIs wr F t d sb mb ⟨n, List.replicate n zsec, fun _ => none, 0, [], [], false, 0⟩ ∧ RefIs wr k ab bb cb n (flushS n (List.replicate n zsec) (fun _ => none)) (List.replicate n zsec) (isDs n (fun _ => none)) ∧ (∀ x, F x → w.heap.size ≤ x) ∧ (¬ F k ∧ ¬ F ab ∧ ¬ F bb ∧ ¬ F cb) ∧ (w.heap.size ≤ k ∧ w.heap.size ≤ ab ∧ w.heap.size ≤ bb ∧ w.heap.size ≤ cb) ∧ Below w.heap.size w wr
theorem init_ok (n : Nat) (hn : 3 ≤ n) : TD.Ok ⟨n, List.replicate n zsec, fun _ => none, 0, [], [], false, 0⟩ :=
  ⟨hn, Nat.zero_le 1, Nat.zero_le 4, fun x hx => (by cases hx), fun x hx => (by cases hx), Nat.zero_le _, Nat.zero_le _, fun h => absurd h (by show ¬ 0 < 0; omega)⟩
theorem init_open (n : Nat) (hn : 3 ≤ n) (h2 : n ≤ 1024) : openP n (List.replicate n zsec) (fun _ => none) = some (0, []) := by
  have h := TSt.open (init_ok n hn) (TSt.init n (by omega)) h2 (Nat.zero_le 2)
  exact h
theorem ls0_open {w w1 w2 : World} {n d sb mb k ab bb cb : Nat} (hn : 3 ≤ n) (h2 : n ≤ 1024) (B1 : Below w.heap.size w w1) (hD : DiskIs w1 d sb mb n (List.replicate n zsec) (fun _ => none)) (l1 : w.heap.size ≤ d) (l2 : w.heap.size ≤ sb) (l3 : w.heap.size ≤ mb)
    (hR : RefIs w2 k ab bb cb n (List.replicate n zsec) (List.replicate n zsec) (List.replicate n false)) (l4 : w1.heap.size ≤ k) (l5 : w1.heap.size ≤ ab) (l6 : w1.heap.size ≤ bb) (l7 : w1.heap.size ≤ cb) (B2 : Below w1.heap.size w1 w2) :
    Calls Try.prog 16 #[.pointer (some ⟨d, 0, none⟩)] w2 fun e w' => ∃ t, e = .returned (.tuple #[.pointer (some ⟨t, 0, none⟩), .int .i64 0]) ∧ LS0 w n d k t w' := by
  have S := TSt.init n (by omega : 0 < n)
  refine (open_any d sb mb n _ _ w2 (hD.below B2) hn S.by').mono ?_
  rintro e w' ⟨hb, hP⟩
  rw [init_open n hn h2] at hP
  obtain ⟨t, F, rfl, hT, hF⟩ := hP
  have z1 := B1.size; have z2 := B2.size
  obtain ⟨e1, e2, e3⟩ := hD.lt
  obtain ⟨r1, r2, r3, r4⟩ := hR.lt
  have no : ∀ x, w1.heap.size ≤ x → x < w2.heap.size → ¬ F x := fun x hx hx2 hFx => by
    rcases hF x hFx with e | e | e | e <;> omega
  refine ⟨t, rfl, sb, mb, ab, bb, cb, F, hT, ?_, fun x hx => ?_, ⟨no k l4 r1, no ab l5 r2, no bb l6 r3, no cb l7 r4⟩, ⟨by omega, by omega, by omega, by omega⟩, bthen (bthen B1 B2) hb⟩
  · rw [flushS_none (by simp), isDs_none]; exact hR.below hb
  · rcases hF x hx with e | e | e | e <;> omega
theorem ls0_ropen {w wr : World} {n d k t : Nat} (hn : 3 ≤ n) (h2 : n ≤ 1024) (h : LS0 w n d k t wr) :
    Calls Try.prog 44 #[.pointer (some ⟨k, 0, none⟩)] wr fun e w' => ∃ r, e = .returned (.tuple #[.pointer (some ⟨r, 0, none⟩), .int .i64 0]) ∧ LS w n d k t r w' := by
  obtain ⟨sb, mb, ab, bb, cb, F, hT, hR, hF, ⟨f1, f2, f3, f4⟩, ⟨a4, a5, a6, a7⟩, hB⟩ := h
  have S := TSt.init n (by omega : 0 < n)
  refine (ropen_any k ab bb cb n _ _ wr hR S.lens hn S.by').mono ?_
  rintro e w' ⟨hb, hP⟩
  rw [init_open n hn h2] at hP
  obtain ⟨r, G, rfl, hRT, hG⟩ := hP
  have hz := hB.size
  refine ⟨r, rfl, sb, mb, ab, bb, cb, F, G, _, rfl, hT.below hb, hRT, fun x hFx hGx => ?_, RSt.init n (by omega), hF, fun x hx => ?_, bthen hB hb⟩
  · rcases hG x hGx with rfl | rfl | rfl | rfl | e
    · exact f1 hFx
    · exact f2 hFx
    · exact f3 hFx
    · exact f4 hFx
    · have := hT.lt x hFx; omega
  · rcases hG x hx with rfl | rfl | rfl | rfl | e
    · exact a4
    · exact a5
    · exact a6
    · exact a7
    · exact Nat.le_trans hz e
set_option maxRecDepth 100000 in
set_option maxHeartbeats 8000000 in
theorem tplays_few (sec : Int) (A : Option Addr) (q c : Nat) (w : World) (hs : sec < 3) :
    Calls Try.prog 13 #[.int .i64 sec, .slice A q c] w fun e w' => e = .returned (.bool true) ∧ Below w.heap.size w w' := by
  by_cases hbad : sec < 1
  · have HNB := Lib.hid (new_bad sec w (.inl hbad)); have HMB := Lib.hid (made_bad sec w (.inl hbad))
    have hns : ¬ (60 : Int) < sec := by omega
    clear hbad
    go_enter Try.func13, Try.ntmps13
    go_wp2_with fail
    refine HNB.out.mono ?_
    rintro e w1 ⟨rfl, hw⟩
    rw [hw]; clear hw w1
    go_wp2_with fail
    refine HMB.out.mono ?_
    rintro e w1 ⟨rfl, hw⟩
    rw [hw]; clear hw w1
    go_wp2_with fail
    refine (open_nil w).mono ?_
    rintro e w1 ⟨rfl, hw⟩
    rw [hw]; clear hw w1
    go_wp2_with fail
    refine (talive_any w).mono ?_
    rintro e w2 ⟨rfl, hb1⟩
    have B1 := Lib.hid hb1; clear hb1
    go_wp2
    go_ret
    exact ⟨rfl, B1.out⟩
  · obtain ⟨n, rfl⟩ := Int.eq_ofNat_of_zero_le (show 0 ≤ sec by omega)
    have hn1 : 1 ≤ n := by omega
    have hn2 : n < 3 := by omega
    have hns : ¬ (60 : Int) < n := by omega
    clear hbad
    go_enter Try.func13, Try.ntmps13
    go_wp2_with fail
    refine (new_ok n w hn1 (by omega)).mono ?_
    rintro e w1 ⟨d0, sb0, mb0, rfl, hD, l1, l2, l3, hb⟩
    have D1 := Lib.hid hD; have B1 := Lib.hid hb; clear hD hb
    go_wp2_with fail
    refine (made_ok n w1 hn1 (by omega)).mono ?_
    rintro e w2 ⟨m0, ab0, bb0, cb0, rfl, hR, l4, l5, l6, l7, hb⟩
    have D2' := Lib.hid (D1.out.below hb); have B2 := Lib.hid (bthen B1.out hb); clear hR hb
    go_wp2_with fail
    refine (open_few d0 sb0 mb0 n _ _ w2 D2'.out hn2).mono ?_
    rintro e w3 ⟨rfl, hw⟩
    rw [hw]; clear hw w3
    go_wp2_with fail
    refine (talive_any w2).mono ?_
    rintro e w3 ⟨rfl, hb1⟩
    have B3 := Lib.hid (bthen B2.out hb1); clear hb1
    go_wp2
    go_ret
    exact ⟨rfl, B3.out⟩
set_option maxRecDepth 100000 in
set_option maxHeartbeats 8000000 in
theorem tplays_many (sec : Int) (A : Option Addr) (q c : Nat) (w : World) (hs : 60 < sec) :
    Calls Try.prog 13 #[.int .i64 sec, .slice A q c] w fun e w' => e = .returned (.bool true) ∧ Below w.heap.size w w' := by
  go_enter Try.func13, Try.ntmps13
  go_wp2_with fail
  refine (talive_any w).mono ?_
  rintro e w2 ⟨rfl, hb1⟩
  have B1 := Lib.hid hb1; clear hb1
  go_wp2
  go_ret
  exact ⟨rfl, B1.out⟩
set_option maxRecDepth 100000 in
set_option maxHeartbeats 8000000 in
theorem tplays_mid (n : Nat) (A : Option Addr) (q c : Nat) (w : World) (ha : RdTActs w A q) (hn3 : 3 ≤ n) (hn60 : n ≤ 60) :
    Calls Try.prog 13 #[.int .i64 n, .slice A q c] w fun e w' => e = .returned (.bool true) ∧ Below w.heap.size w w' := by
  have HA := Lib.hid ha; clear ha
  have hns : ¬ (60 : Int) < n := by omega
  have hn3i : ¬ (n : Int) < 3 := by omega
  have hn3d : decide ((n : Int) < 3) = false := decide_eq_false hn3i
  go_enter Try.func13, Try.ntmps13
  go_wp2_with fail
  refine (new_ok n w (by omega) (by omega)).mono ?_
  rintro e w1 ⟨d0, sb0, mb0, rfl, hD, l1, l2, l3, hb⟩
  have D1 := Lib.hid hD; have B1 := Lib.hid hb; clear hD hb
  go_wp2_with fail
  refine (made_ok n w1 (by omega) (by omega)).mono ?_
  rintro e w2 ⟨m0, ab0, bb0, cb0, rfl, hR, l4, l5, l6, l7, hb⟩
  have HO := Lib.hid (ls0_open hn3 (by omega) B1.out D1.out l1 l2 l3 hR l4 l5 l6 l7 hb)
  clear D1 B1 hR hb l1 l2 l3 l4 l5 l6 l7
  go_wp2_with fail
  refine HO.out.mono ?_
  rintro e w3 ⟨t0, rfl, h3⟩
  have H3 := Lib.hid h3; clear h3 HO
  go_wp2_with fail
  refine (ls0_ropen hn3 (by omega) H3.out).mono ?_
  rintro e w4 ⟨r0, rfl, h4⟩
  have H4 := Lib.hid h4; clear h4 H3
  go_wp2_with fail
  go_loopw [5, 7, 9, 10, 11, 12, 13, 14, 15, 16, 17, 18] (fun vd vk vt vf vr vg i _ _ _ _ _ wr => ∃ (j d k t r : Nat), j ≤ q ∧ i = .int .i64 j ∧ vd = .pointer (some ⟨d, 0, none⟩) ∧ vk = .pointer (some ⟨k, 0, none⟩) ∧ vt = .pointer (some ⟨t, 0, none⟩) ∧ (vf = .int .i64 0 ∧ vr = .pointer (some ⟨r, 0, none⟩) ∧ vg = .int .i64 0) ∧ Hid (LS w n d k t r wr)) (fun _ _ _ _ _ _ i _ _ _ _ _ _ => q - (intOf i).toNat)
  case atStart => exact ⟨0, _, _, _, _, Nat.zero_le _, rfl, rfl, rfl, rfl, ⟨rfl, rfl, rfl⟩, H4⟩
  case round =>
    clear H4
    obtain ⟨j, d, k, t, r, hjq, rfl, rfl, rfl, rfl, ⟨rfl, rfl, rfl⟩, hH⟩ := hrel
    by_cases hlt : j < q
    · have hlt2 : (j : Int) < q := by omega
      by_cases h60 : j < 60
      · have h60i : (j : Int) < 60 := by omega
        have hj0 : (0 : Int) ≤ (j : Int) := by omega
        obtain ⟨b, off, a, bA, bc, lA, lc, kA, kc, rfl, hact⟩ := HA.out.at hlt
        have HAct := Lib.hid hact
        have hlow := hH.out.low
        have x0 := (hlow.cell (p := ⟨b, off + j * 5, none⟩) hact.lt).trans hact.c0
        have x1 := (hlow.cell (p := ⟨b, off + j * 5 + 1, none⟩) hact.lt).trans hact.c1
        have x2 := (hlow.cell (p := ⟨b, off + j * 5 + 2, none⟩) hact.lt).trans hact.c2
        have x3 := (hlow.cell (p := ⟨b, off + j * 5 + 3, none⟩) hact.lt).trans hact.c3
        have x4 := (hlow.cell (p := ⟨b, off + j * 5 + 4, none⟩) hact.lt).trans hact.c4
        have HL0 := Lib.hid (hH.out.la (balloc (Below.refl wr.heap.size wr) (.cells #[.int .i64 a.kind, .int .i64 a.i, .slice bA a.b.length bc, .slice lA a.l.length lc, .slice kA a.keep.length kc] 43)) (Nat.le_refl _) (Blk.new wr #[.int .i64 a.kind, .int .i64 a.i, .slice bA a.b.length bc, .slice lA a.l.length lc, .slice kA a.keep.length kc] 43))
        clear hact hlow
        go_upto_region 13 with fail
        clear x0 x1 x2 x3 x4
        generalize wr.alloc (.cells #[.int .i64 a.kind, .int .i64 a.i, .slice bA a.b.length bc, .slice lA a.l.length lc, .slice kA a.keep.length kc] 43) = wA at *
        obtain ⟨g, hg⟩ : ∃ g, g = wr.heap.size := ⟨_, rfl⟩
        rw [← hg] at HL0 ⊢
        clear hg
        have y0 := HL0.out.blk.cell 0; have y1 := HL0.out.blk.cell 1; have y2 := HL0.out.blk.cell 2; have y3 := HL0.out.blk.cell 3; have y4 := HL0.out.blk.cell 4
        simp at y0 y1 y2 y3 y4
        have gl := HL0.out.blk.lt
        go_wp2_with fail
        refine (fits_two a.kind a.i bA _ bc lA _ lc kA _ kc a.l _ (HAct.out.hl.below HL0.out.low)).mono ?_
        rintro e w6 ⟨fb, rfl, B6, hfit⟩
        have HL6 := Lib.hid (HL0.out.below B6); have HFit := Lib.hid hfit
        clear B6 hfit y0 y1 y2 y3 y4 gl
        cases fb with
        | false =>
          go_wp2
          go_roundw
          case rel => exact ⟨j + 1, _, _, _, _, by omega, by go_num, rfl, rfl, rfl, ⟨rfl, rfl, rfl⟩, Lib.hid HL6.out.ls⟩
          case measure => simp [intOf]; omega
        | true =>
          obtain ⟨fm, hb4⟩ := HFit.out rfl
          have HFM := Lib.hid fm; clear fm
          have y0 := HL6.out.blk.cell 0; have y1 := HL6.out.blk.cell 1; have y2 := HL6.out.blk.cell 2; have y3 := HL6.out.blk.cell 3; have y4 := HL6.out.blk.cell 4
          simp at y0 y1 y2 y3 y4
          have gl := HL6.out.blk.lt
          go_wp2_with fail
          refine (la_both HL6.out a bA bc lA lc kA kc HAct.out.hb HAct.out.ob HAct.out.hl HAct.out.ol HFM.out).mono ?_
          rintro e w7 ⟨rfl, h7⟩
          have HLA := Lib.hid h7
          clear h7 y0 y1 y2 y3 y4 gl
          have y0 := HLA.out.blk.cell 0; have y1 := HLA.out.blk.cell 1; have y2 := HLA.out.blk.cell 2; have y4 := HLA.out.blk.cell 4
          simp at y0 y1 y2 y4
          have gl := HLA.out.blk.lt
          by_cases h5 : a.kind = 5
          · have h5b : (a.kind == 5) = true := by rw [h5]; rfl
            obtain ⟨sf, df, hLN, hBY, _, hD⟩ := HLA.out.d2
            have HLN0 := Lib.hid hLN; have HBY0 := Lib.hid hBY; have HD := Lib.hid hD
            clear hLN hBY hD HLA h5
            go_wp2_with fail
            refine (d2_crash HD.out kA _ kc a.keep HAct.out.hk).mono ?_
            rintro e w71 ⟨d', rfl, h71⟩
            have HD71 := Lib.hid h71; clear h71 y0 y1 y2 y4 gl HD
            have y4 := HD71.out.blk.cell 4
            simp at y4
            have gl := HD71.out.blk.lt
            go_wp2_with fail
            refine (d2_rcrash HD71.out (by omega) HLN0.out kA _ kc a.keep HAct.out.hk).mono ?_
            rintro e w72 ⟨k', rfl, h72⟩
            have HD := Lib.hid h72; clear h72 y4 gl HD71
            have HLN := Lib.hid (crash_lens (n := n) HLN0.out a.keep); have HBY := Lib.hid (crash_bytes (n := n) HBY0.out a.keep)
            clear HLN0 HBY0
            obtain ⟨sf1, hsf1⟩ : ∃ sf1, sf1 = crashS n sf df a.keep := ⟨_, rfl⟩
            obtain ⟨df1, hdf1⟩ : ∃ df1 : Int → Option Sec, df1 = fun _ => none := ⟨_, rfl⟩
            rw [← hsf1, ← hdf1] at HD HLN HBY
            clear hsf1 hdf1
            go_wp2_with fail
            refine (d2_open HD.out hn3 HBY.out).mono ?_
            intro e w8 hO
            unfold OpenRes at hO
            cases ho : openP n sf1 df1 with
            | none =>
              rw [ho] at hO
              obtain ⟨rfl, h8⟩ := hO
              have HD8 := Lib.hid h8; have HO := Lib.hid ho; clear h8 ho
              go_wp2_with fail
              refine (d2_ropen_none HD8.out hn3 HLN.out HBY.out HO.out).mono ?_
              rintro e w9 ⟨rfl, h9⟩
              have HB9 := Lib.hid h9; clear h9
              go_wp2_with fail
              refine (talive_any w9).mono ?_
              rintro e w10 ⟨rfl, B10⟩
              have HB10 := Lib.hid (bthen HB9.out B10); clear B10
              go_wp2
              go_ret
              exact ⟨rfl, HB10.out⟩
            | some x =>
              obtain ⟨h', L'⟩ := x
              rw [ho] at hO
              obtain ⟨t', rfl, h8⟩ := hO
              have HD8 := Lib.hid h8; have HO := Lib.hid ho; clear h8 ho
              go_wp2_with fail
              refine (d3_ropen HD8.out hn3 HLN.out HBY.out HO.out).mono ?_
              rintro e w9 ⟨r', rfl, h9⟩
              have HLA := Lib.hid h9; clear h9
              go_wp2_with fail
              refine (la_sectors HLA.out).mono ?_
              rintro e w11 ⟨rfl, h11⟩
              have HL11 := Lib.hid h11; clear h11
              go_wp2_with fail
              refine (la_alike HL11.out).mono ?_
              rintro e w12 ⟨rfl, h12⟩
              have HL12 := Lib.hid h12; clear h12
              go_wp2
              go_roundw
              case rel => exact ⟨j + 1, _, _, _, _, by omega, by go_num, rfl, rfl, rfl, ⟨rfl, rfl, rfl⟩, Lib.hid HL12.out.ls⟩
              case measure => simp [intOf]; omega
          · have h5b : (a.kind == 5) = false := by simpa using h5
            by_cases h6 : a.kind = 6
            · have h6b : (a.kind == 6) = true := by rw [h6]; rfl
              obtain ⟨sf1, df, hLN, hBY, _, hD⟩ := HLA.out.d2
              have HLN0 := Lib.hid hLN; have HBY0 := Lib.hid hBY
              have HD := Lib.hid (hD.below (bdrew (Below.refl _ _)))
              clear hLN hBY hD HLA h5 h6
              have r1 : w7.drew.cell? ⟨g, 1, none⟩ = some (.int .i64 a.i) := y1
              have r2 : w7.drew.cell? ⟨g, 2, none⟩ = some (.slice bA a.b.length bc) := y2
              go_wp2_with fail
              go_region_held3 (fun W => W.cell? ⟨g, 1, none⟩ = some (.int .i64 a.i) ∧ W.cell? ⟨g, 2, none⟩ = some (.slice bA a.b.length bc)) (first | exact ⟨r1, r2⟩ | go_keep)
                (first
                  | (go_at_call 31; refine (fill_any bA _ bc a.b _ (HAct.out.hb.below HD.out.low)).mono ?_; rintro e wn ⟨rfl, hbn⟩
                     have HD := Lib.hid (HD.out.below hbn); have r1 := HD.out.blk.cell 1; have r2 := HD.out.blk.cell 2; simp at r1 r2; clear hbn)
                  | (go_at_call 30; refine (d2_write HD.out a.i (fillS a.b) (fillS_len _)).mono ?_; rintro e wn ⟨rfl, hn⟩
                     have HD := Lib.hid hn; have r1 := HD.out.blk.cell 1; have r2 := HD.out.blk.cell 2; simp at r1 r2; clear hn))
              all_goals
                clear y0 y1 y2 y4 gl
                have gl := HD.out.blk.lt
                go_wp2_with fail
                have HD := Lib.hid (HD.out.below (bdrew (Below.refl _ _)))
                go_region_held3 (fun W => W.cell? ⟨g, 1, none⟩ = some (.int .i64 a.i) ∧ W.cell? ⟨g, 2, none⟩ = some (.slice bA a.b.length bc)) (first | exact ⟨r1, r2⟩ | go_keep)
                  (first
                    | (go_at_call 33; refine (rfill_two bA _ bc a.b _ (HAct.out.hb.below HD.out.low) (by omega)).mono ?_; rintro e wn2 ⟨rfl, hbn⟩
                       have HD := Lib.hid (HD.out.below hbn); have r1 := HD.out.blk.cell 1; have r2 := HD.out.blk.cell 2; simp at r1 r2; clear hbn)
                    | (go_at_call 32; refine (d2_rwrite HD.out a.i (fillS a.b) (fillS_len _)).mono ?_; rintro e wn2 ⟨rfl, hn⟩
                       have HD := Lib.hid hn; have r1 := HD.out.blk.cell 1; have r2 := HD.out.blk.cell 2; simp at r1 r2; clear hn))
              all_goals
                have HLN := Lib.hid (HLN0.out.wr a.i (fillS_len a.b)); have HBY := Lib.hid (HBY0.out.wr (n := n) a.i (okB_fill HAct.out.ob))
                clear HLN0 HBY0 r1 r2 gl
                generalize wrD n df a.i (fillS a.b) = df1 at *
                go_wp2_with fail
                refine (d2_open HD.out hn3 HBY.out).mono ?_
                intro e w8 hO
                unfold OpenRes at hO
                cases ho : openP n sf1 df1 with
                | none =>
                  rw [ho] at hO
                  obtain ⟨rfl, h8⟩ := hO
                  have HD8 := Lib.hid h8; have HO := Lib.hid ho; clear h8 ho
                  go_wp2_with fail
                  refine (d2_ropen_none HD8.out hn3 HLN.out HBY.out HO.out).mono ?_
                  rintro e w9 ⟨rfl, h9⟩
                  have HB9 := Lib.hid h9; clear h9
                  go_wp2_with fail
                  refine (talive_any w9).mono ?_
                  rintro e w10 ⟨rfl, B10⟩
                  have HB10 := Lib.hid (bthen HB9.out B10); clear B10
                  go_wp2
                  go_ret
                  exact ⟨rfl, HB10.out⟩
                | some x =>
                  obtain ⟨h', L'⟩ := x
                  rw [ho] at hO
                  obtain ⟨t', rfl, h8⟩ := hO
                  have HD8 := Lib.hid h8; have HO := Lib.hid ho; clear h8 ho
                  go_wp2_with fail
                  refine (d3_ropen HD8.out hn3 HLN.out HBY.out HO.out).mono ?_
                  rintro e w9 ⟨r', rfl, h9⟩
                  have HLA := Lib.hid h9; clear h9
                  go_wp2_with fail
                  refine (la_sectors HLA.out).mono ?_
                  rintro e w11 ⟨rfl, h11⟩
                  have HL11 := Lib.hid h11; clear h11
                  go_wp2_with fail
                  refine (la_alike HL11.out).mono ?_
                  rintro e w12 ⟨rfl, h12⟩
                  have HL12 := Lib.hid h12; clear h12
                  go_wp2
                  go_roundw
                  case rel => exact ⟨j + 1, _, _, _, _, by omega, by go_num, rfl, rfl, rfl, ⟨rfl, rfl, rfl⟩, Lib.hid HL12.out.ls⟩
                  case measure => simp [intOf]; omega
            · have h6b : (a.kind == 6) = false := by simpa using h6
              clear h5 h6
              go_wp2_with fail
              refine (la_sectors HLA.out).mono ?_
              rintro e w11 ⟨rfl, h11⟩
              have HL11 := Lib.hid h11; clear h11
              go_wp2_with fail
              refine (la_alike HL11.out).mono ?_
              rintro e w12 ⟨rfl, h12⟩
              have HL12 := Lib.hid h12; clear h12
              go_wp2
              go_roundw
              case rel => exact ⟨j + 1, _, _, _, _, by omega, by go_num, rfl, rfl, rfl, ⟨rfl, rfl, rfl⟩, Lib.hid HL12.out.ls⟩
              case measure => simp [intOf]; omega
      · have h60i : ¬ (j : Int) < 60 := by omega
        have h60d : decide ((j : Int) < 60) = false := decide_eq_false h60i
        clear hlt h60
        go_wp2_with fail
        refine (ls_read hH.out (-1) (by omega)).mono ?_
        rintro e w8 ⟨rfl, hw⟩
        rw [hw]; clear hw w8
        obtain ⟨ln, q1, q2⟩ := ls_len hH.out
        have HQ1 := Lib.hid q1; have HQ2 := Lib.hid q2; clear q1 q2
        go_wp2_with fail
        refine HQ1.out.mono ?_
        rintro e w8 ⟨rfl, hw⟩
        rw [hw]; clear hw w8
        go_wp2_with fail
        refine HQ2.out.mono ?_
        rintro e w8 ⟨rfl, hw⟩
        rw [hw]; clear hw w8
        go_wp2_with fail
        refine (talive_any wr).mono ?_
        rintro e w9 ⟨rfl, B9⟩
        have HB9 := Lib.hid (bthen hH.out.low B9); clear B9
        go_wp2
        go_ret
        exact ⟨rfl, HB9.out⟩
    · have hlt2 : ¬ (j : Int) < q := by omega
      have hltd : decide ((j : Int) < q) = false := decide_eq_false hlt2
      clear hlt
      go_wp2_with fail
      refine (ls_read hH.out (-1) (by omega)).mono ?_
      rintro e w8 ⟨rfl, hw⟩
      rw [hw]; clear hw w8
      obtain ⟨ln, q1, q2⟩ := ls_len hH.out
      have HQ1 := Lib.hid q1; have HQ2 := Lib.hid q2; clear q1 q2
      go_wp2_with fail
      refine HQ1.out.mono ?_
      rintro e w8 ⟨rfl, hw⟩
      rw [hw]; clear hw w8
      go_wp2_with fail
      refine HQ2.out.mono ?_
      rintro e w8 ⟨rfl, hw⟩
      rw [hw]; clear hw w8
      go_wp2_with fail
      refine (talive_any wr).mono ?_
      rintro e w9 ⟨rfl, B9⟩
      have HB9 := Lib.hid (bthen hH.out.low B9); clear B9
      go_wp2
      go_ret
      exact ⟨rfl, HB9.out⟩
theorem tplays_any (sec : Int) (A : Option Addr) (q c : Nat) (w : World) (ha : RdTActs w A q) :
    Calls Try.prog 13 #[.int .i64 sec, .slice A q c] w fun e w' => e = .returned (.bool true) ∧ Below w.heap.size w w' := by
  by_cases h3 : sec < 3
  · exact tplays_few sec A q c w h3
  · by_cases h60 : 60 < sec
    · exact tplays_many sec A q c w h60
    · obtain ⟨n, rfl⟩ := Int.eq_ofNat_of_zero_le (show 0 ≤ sec by omega)
      exact tplays_mid n A q c w ha (by omega) (by omega)
end Go.Proofs.Ytlgimhhhlpmjcaa
