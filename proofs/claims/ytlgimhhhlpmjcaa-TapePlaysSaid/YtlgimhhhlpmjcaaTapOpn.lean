/- TapeOpens: its walk. -/
import Derived.Test.YtlgimhhhlpmjcaaTapFit
set_option linter.unusedVariables false
set_option linter.unusedSimpArgs false
namespace Go.Proofs.Ytlgimhhhlpmjcaa
open Go.RowKit Go.Maps Go.WideMaps Go.Shelf

/-- A tape between commits, on a disk that holds it. -/
structure OpSt (w : World) (t d sb mb N : Nat) (p : TD) (G : Nat → Prop) (wr : World) : Prop where
  tape : TapeIs wr G t d sb mb p
  st : TSt p
  dn : p.dn = 0
  n : p.n = N
  own : ∀ k, G k → w.heap.size ≤ k
  low : Below w.heap.size w wr
theorem OpSt.below {w : World} {t d sb mb N : Nat} {p : TD} {G : Nat → Prop} {wr w' : World} (h : OpSt w t d sb mb N p G wr) (hb : Below wr.heap.size wr w') : OpSt w t d sb mb N p G w' :=
  ⟨h.tape.below hb, h.st, h.dn, h.n, h.own, bthen h.low hb⟩
theorem OpSt.post {w : World} {t d sb mb N : Nat} {p q : TD} {G : Nat → Prop} {wr w' : World} (h : OpSt w t d sb mb N p G wr) (P : TPost wr G t d sb mb q w') (hs : TSt q) (hd : q.dn = 0) (hn : q.n = N) : ∃ G', OpSt w t d sb mb N q G' w' := by
  obtain ⟨K, G', hT, hG⟩ := P
  exact ⟨G', hT, hs, hd, hn, fun k hk => by
    rcases hG k hk with e | e
    · exact h.own k e
    · have := h.low.size; omega, h.low.trans (K.below (B := w.heap.size) h.low.size h.own)⟩
def OpS (w : World) (t d sb mb N : Nat) (wr : World) : Prop := ∃ p G, OpSt w t d sb mb N p G wr
theorem appP_n (p : TD) (x : Bs) : (appP p x).n = p.n ∧ (appP p x).dn = p.dn := by unfold appP; split <;> exact ⟨rfl, rfl⟩
theorem repP_n (p : TD) (x : List Bs) : (repP p x).n = p.n ∧ (repP p x).dn = p.dn := by unfold repP; split <;> exact ⟨rfl, rfl⟩
theorem commit_clean (p : TD) (hd : p.dn = 0) : (commitP p).W = [] ∧ (commitP p).fr = false ∧ (commitP p).dn = 0 ∧ (commitP p).n = p.n := by
  cases hf : p.fr with
  | false => obtain ⟨_, c2, c3, c4, c5⟩ := commit_L p hd hf; exact ⟨c2, c4, c3, c5⟩
  | true => obtain ⟨_, c2, c3, c4, c5⟩ := commit_Lf p hd hf; exact ⟨c2, c4, c3, c5⟩
theorem ops_low {w : World} {t d sb mb N : Nat} {wr : World} (h : OpS w t d sb mb N wr) : Below w.heap.size w wr := by
  obtain ⟨p, G, h⟩ := h
  exact h.low
theorem ops_append {w : World} {t d sb mb N : Nat} {wr : World} (h : OpS w t d sb mb N wr) (A : Option Addr) (n c : Nat) (x : Bs) (hx : RdU8 w A n x) (ho : okB x) :
    Calls Try.prog 17 #[.pointer (some ⟨t, 0, none⟩), .slice A n c] wr fun e w' => ∃ v, e = .returned v ∧ OpS w t d sb mb N w' := by
  obtain ⟨p, G, h⟩ := h
  refine (append_any2 t d sb mb G p A n c x wr h.tape (hx.below h.low) ho).mono ?_
  rintro e w' ⟨rfl, hP⟩
  obtain ⟨G', h'⟩ := h.post hP (h.st.app h.dn x) ((appP_n p x).2.trans h.dn) ((appP_n p x).1.trans h.n)
  exact ⟨_, rfl, _, G', h'⟩
theorem ops_replace {w : World} {t d sb mb N : Nat} {wr : World} (h : OpS w t d sb mb N wr) (A : Option Addr) (n c : Nat) (M : List Bs) (hM : RdBB w A n M) (ho : ∀ x ∈ M, okB x) (hs : sizeB M ≤ 1000000) :
    Calls Try.prog 25 #[.pointer (some ⟨t, 0, none⟩), .slice A n c] wr fun e w' => ∃ v, e = .returned v ∧ OpS w t d sb mb N w' := by
  obtain ⟨p, G, h⟩ := h
  refine (replace_any t d sb mb G p A n c M w wr h.tape hM ho hs h.low h.own).mono ?_
  rintro e w' ⟨rfl, hP⟩
  obtain ⟨G', h'⟩ := h.post hP (h.st.rep h.dn M) ((repP_n p M).2.trans h.dn) ((repP_n p M).1.trans h.n)
  exact ⟨_, rfl, _, G', h'⟩
theorem ops_commit {w : World} {t d sb mb N : Nat} {wr : World} (h : OpS w t d sb mb N wr) :
    Calls Try.prog 18 #[.pointer (some ⟨t, 0, none⟩)] wr fun e w' => e = .returned (.int .i64 0) ∧ ∃ p G, OpSt w t d sb mb N p G w' ∧ p.W = [] ∧ p.fr = false := by
  obtain ⟨p, G, h⟩ := h
  refine (commit_any t d sb mb G p wr h.tape (by rw [h.dn]; omega)).mono ?_
  rintro e w' ⟨rfl, hP⟩
  obtain ⟨c1, c2, c3, c4⟩ := commit_clean p h.dn
  obtain ⟨G', h'⟩ := h.post hP (TSt.commit h.tape.ok h.st) c3 (c4.trans h.n)
  exact ⟨rfl, _, G', h', c1, c2⟩

set_option maxRecDepth 100000 in
set_option maxHeartbeats 8000000 in
theorem opens_any (n : Int) (A : Option Addr) (ln c : Nat) (L : List Bs) (B : Option Addr) (mn mc : Nat) (M : List Bs) (w : World) (hL : RdBB w A ln L) (oL : ∀ x ∈ L, okB x) (hM : RdBB w B mn M) (oM : ∀ x ∈ M, okB x) :
    Calls Try.prog 11 #[.int .i64 n, .slice A ln c, .slice B mn mc] w fun e w' => e = .returned (.bool true) ∧ Below w.heap.size w w' := by
  have HL := Lib.hid hL; have OL := Lib.hid oL; have HM := Lib.hid hM; have OM := Lib.hid oM; clear hL oL hM oM
  go_enter Try.func11, Try.ntmps11
  by_cases hn3 : n < 3
  · go_wp2_with fail
    refine (talive_any _).mono ?_
    rintro e w2 ⟨rfl, hb2⟩
    have B2 := Lib.hid hb2; clear hb2
    go_wp2
    go_ret
    exact ⟨rfl, B2.out⟩
  by_cases hn60 : 60 < n
  · go_wp2_with fail
    refine (talive_any _).mono ?_
    rintro e w2 ⟨rfl, hb2⟩
    have B2 := Lib.hid hb2; clear hb2
    go_wp2
    go_ret
    exact ⟨rfl, B2.out⟩
  obtain ⟨N, rfl⟩ : ∃ N : Nat, n = N := ⟨n.toNat, by omega⟩
  have HN := Lib.hid (show 3 ≤ N ∧ N ≤ 60 by omega)
  go_wp2_with fail
  refine (new_ok N w (by have := HN.out; omega) (by have := HN.out; omega)).mono ?_
  rintro e w1 ⟨d, sb, mb, rfl, hD, l1, l2, l3, hB⟩
  have HD := Lib.hid hD; have HLT := Lib.hid (And.intro l1 (And.intro l2 l3)); have HB := Lib.hid hB
  clear hD l1 l2 l3 hB
  go_wp2_with fail
  refine (open_any d sb mb N _ _ w1 HD.out (by have := HN.out; omega) (zs_bytes N)).mono ?_
  rintro e w2 hO
  unfold OpenPost at hO
  rw [open_new N] at hO
  obtain ⟨hB2, t, F, rfl, hT, hF⟩ := hO
  have hF2 : ∀ k, F k → w.heap.size ≤ k := fun k hk => by
    have hl := HLT.out
    have hz := HB.out.size
    rcases hF k hk with e | e | e | e <;> omega
  have HO := Lib.hid (show OpS w t d sb mb N w2 from ⟨⟨N, List.replicate N zsec, fun _ => none, 0, [], [], false, 0⟩, F, hT, TSt.init N (by have := HN.out; omega), rfl, rfl, hF2, bthen HB.out hB2⟩)
  clear hT hF hB2 hF2 hn3 hn60 HD HLT HB
  go_wp2_with fail
  refine (fits_two 0 0 none 0 0 B mn mc none 0 0 M _ (HM.out.below (ops_low HO.out))).mono ?_
  rintro e w3 hFP
  unfold FitsPost2 at hFP
  obtain ⟨b, rfl, hb3, hfit⟩ := hFP
  have HO3 := Lib.hid (show OpS w t d sb mb N w3 from by obtain ⟨p, G, h⟩ := HO.out; exact ⟨p, G, h.below hb3⟩)
  clear hb3 HO
  cases b with
  | false =>
    clear hfit
    go_wp2
    go_ret
    exact ⟨rfl, ops_low HO3.out⟩
  | true =>
    have HFIT := Lib.hid (hfit rfl).1
    clear hfit
    go_wp2
    go_loopw [12] (fun i wr => ∃ k : Nat, k ≤ ln ∧ k ≤ 60 ∧ i = .int .i64 k ∧ Hid (OpS w t d sb mb N wr)) (fun i _ => 61 - (intOf i).toNat)
    case atStart => exact ⟨0, Nat.zero_le _, by omega, rfl, HO3⟩
    case round =>
      obtain ⟨k, hkl, hk60, rfl, hO⟩ := hrel
      clear HO3
      by_cases hlt : k < ln ∧ k < 60
      · obtain ⟨hlt, hlt60⟩ := hlt
        have hkL : k < L.length := by rw [HL.out.len]; exact hlt
        obtain ⟨b, off, rfl, hb, hc⟩ := HL.out.at' (by omega)
        obtain ⟨A', c', hcl, hrd⟩ := hc k hkL
        have hok1 := Lib.hid (OL.out _ (List.getElem_mem hkL))
        generalize L[k] = x at *
        obtain ⟨m, hm⟩ : ∃ m, m = x.length := ⟨_, rfl⟩
        rw [← hm] at hcl hrd
        have HM' := Lib.hid hm; clear hm
        have q1 := ((ops_low hO.out).cell (p := ⟨b, off + k, none⟩) hb).trans hcl
        have HRr := Lib.hid hrd
        have hltI : (k : Int) < ln := by omega
        have hlt60' : (k : Int) < 60 := by omega
        clear hc hb hcl hrd hkL
        have hcs : (((k : Int) % 4 == 3) = false ∧ ((k : Int) % 16 == 15) = false) ∨ (((k : Int) % 4 == 3) = true ∧ ((k : Int) % 16 == 15) = false) ∨ (((k : Int) % 4 == 3) = true ∧ ((k : Int) % 16 == 15) = true) := by
          cases h4 : ((k : Int) % 4 == 3) <;> cases h5 : ((k : Int) % 16 == 15) <;> simp at h4 h5 ⊢
          omega
        rcases hcs with ⟨h4, h5⟩ | ⟨h4, h5⟩ | ⟨h4, h5⟩
        all_goals
          by_cases h400 : (m : Int) ≤ 400
          all_goals
            go_wp2_with (first
              | (go_at_call 17; refine (ops_append hO.out A' m c' x HRr.out hok1.out).mono ?_; rintro e w5 ⟨v5, rfl, hO5⟩; clear hO; have hO := Lib.hid hO5; clear hO5)
              | (go_at_call 25; refine (ops_replace hO.out B mn mc M HM.out OM.out HFIT.out.size).mono ?_; rintro e w6 ⟨v6, rfl, hO6⟩; clear hO; have hO := Lib.hid hO6; clear hO6)
              | (go_at_call 18; refine (ops_commit hO.out).mono ?_; rintro e w7 ⟨rfl, p7, G7, hO7, _, _⟩; clear hO; have hO := Lib.hid (show OpS w t d sb mb N w7 from ⟨p7, G7, hO7⟩); clear hO7))
            go_roundw
            case rel => exact ⟨k + 1, by omega, by omega, by go_num, hO⟩
            case measure => simp [intOf]; omega
      · have hex : (decide ((k : Int) < ln) && decide ((k : Int) < 60)) = false := by
          rw [Bool.and_eq_false_iff]; simp; omega
        by_cases hlt1 : k < ln
        case' pos =>
          have e60 : k = 60 := by omega
          subst e60
          have hlt2 : ((60 : Nat) : Int) < ln := by omega
          clear hlt hex hlt1
          go_wp2_with fail
        case' neg =>
          have hlt2 : ¬ (k : Int) < ln := by omega
          clear hlt hex hlt1
          go_wp2_with fail
        all_goals
          refine (ops_commit hO.out).mono ?_
          rintro e w8 ⟨rfl, p, G, hO8, hW, hf⟩
          have HO8 := Lib.hid hO8
          have hE : emptyP p = true := by unfold emptyP; rw [hW, hf]; rfl
          have HE := Lib.hid hE; have HW := Lib.hid hW; have HF := Lib.hid hf
          have HOP := Lib.hid (TSt.open hO8.tape.ok hO8.st hO8.tape.small (by rw [hO8.dn]; omega))
          have HDF := Lib.hid (hO8.st.clean (.inl hO8.dn))
          have HCP := Lib.hid (commit_empty p hO8.dn hE)
          have HSP := Lib.hid (show stepP p = p by unfold stepP; rw [if_pos hE])
          have HDP := Lib.hid (show doneP p = true by unfold doneP; rw [hE]; rfl)
          clear hO8 hW hf hE hO
          go_wp2_with (go_at_call 18; refine (commit_any t d sb mb G p _ HO8.out.tape (by rw [HO8.out.dn]; omega)).mono ?_
                       rintro e w9 ⟨rfl, hP9⟩; rw [HCP.out] at hP9; obtain ⟨G9, hO9⟩ := HO8.out.post hP9 HO8.out.st HO8.out.dn HO8.out.n; have HO9 := Lib.hid hO9; clear hP9 hO9)
          refine (step_any t d sb mb G9 p _ HO9.out.tape (by rw [HO9.out.dn]; omega)).mono ?_
          rintro e w10 hSP
          unfold StepPost at hSP
          obtain ⟨rfl, hP10⟩ := hSP
          rw [HSP.out] at hP10
          obtain ⟨G10, hO10⟩ := HO9.out.post hP10 HO9.out.st HO9.out.dn HO9.out.n
          have HO10 := Lib.hid hO10
          rw [HDP.out]
          clear hP10 hO10 HO8 HO9
          go_wp2_with fail
          refine (open_any d sb mb p.n p.sf p.df w10 HO10.out.tape.disk HO10.out.tape.ok.n3 HO10.out.st.by').mono ?_
          rintro e w11 hO
          unfold OpenPost at hO
          rw [HOP.out] at hO
          obtain ⟨hB11, x, F11, rfl, hX, _⟩ := hO
          have HX := Lib.hid hX
          have HO11 := Lib.hid (HO10.out.below hB11)
          clear hX hB11 HO10
          obtain ⟨px, hpx⟩ : ∃ px : TD, px = ⟨p.n, p.sf, p.df, p.h, p.L, [], false, 0⟩ := ⟨_, rfl⟩
          rw [← hpx] at HX
          have HLX := Lib.hid (show px.L = p.L by rw [hpx])
          have HRX := Lib.hid (show roomP px = roomP p by rw [hpx]; unfold roomP; rw [HF.out, HW.out])
          have HWX := Lib.hid (show px.W.length = 0 by rw [hpx]; rfl)
          have HLL := Lib.hid (show p.L.length ≤ 1000000 by
            have h1 := sizeB_len p.L
            have h2 := HO11.out.tape.ok.fitL
            have h3 := allB_le HO11.out.tape.small
            omega)
          clear hpx
          go_wp2_with fail
          refine (records_any x d sb mb F11 px _ HX.out).mono ?_
          rintro e w12 ⟨v12, rfl, R12, B12⟩
          obtain ⟨a12, c12, rfl⟩ := R12.form
          have HR12 := Lib.hid R12.rd
          have HX12 := Lib.hid (HX.out.below B12)
          have HO12 := Lib.hid (HO11.out.below B12)
          clear R12 B12 HX HO11
          go_wp2_with fail
          refine (records_any t d sb mb G10 p _ HO12.out.tape).mono ?_
          rintro e w13 ⟨v13, rfl, R13, B13⟩
          obtain ⟨a13, c13, rfl⟩ := R13.form
          have HR13 := Lib.hid R13.rd
          have HR12 := Lib.hid (HR12.out.below B13)
          have HX13 := Lib.hid (HX12.out.below B13)
          have HO13 := Lib.hid (HO12.out.below B13)
          clear R13 B13 HX12 HO12
          go_wp2_with fail
          refine (same_any _ _ _ _ _ _ px.L p.L _ HR12.out HR13.out (fun y hy => (HX13.out.ok.rl y hy).2) (fun y hy => (HO13.out.tape.ok.rl y hy).2) (by rw [HLX.out]; exact HLL.out)).mono ?_
          rintro e w14 ⟨rfl, B14⟩
          rw [decide_eq_true HLX.out]
          have HX14 := Lib.hid (HX13.out.below B14)
          have HO14 := Lib.hid (HO13.out.below B14)
          clear B14 HX13 HO13 HR12 HR13
          go_wp2_with fail
          refine (talive_any _).mono ?_
          rintro e w15 ⟨rfl, B15⟩
          have HX15 := Lib.hid (HX14.out.below B15)
          have HO15 := Lib.hid (HO14.out.below B15)
          clear B15 HX14 HO14
          go_wp2_with fail
          refine (room_any x d sb mb F11 px _ HX15.out).mono ?_
          rintro e w16 ⟨rfl, B16⟩
          rw [HRX.out]
          have HX16 := Lib.hid (HX15.out.below B16)
          have HO16 := Lib.hid (HO15.out.below B16)
          clear B16 HX15 HO15
          go_wp2_with fail
          refine (room_any t d sb mb G10 p _ HO16.out.tape).mono ?_
          rintro e w17 ⟨rfl, B17⟩
          have HX17 := Lib.hid (HX16.out.below B17)
          have HO17 := Lib.hid (HO16.out.below B17)
          clear B17 HX16 HO16
          generalize roomP p = rp at *
          go_wp2_with (go_at_call 24; refine (waiting_any x d sb mb F11 px _ HX17.out).mono ?_; rintro e wx ⟨rfl, hwx⟩; rw [hwx, HWX.out]; clear hwx wx)
          refine (dirty_any d sb mb p.n p.sf p.df _ HO17.out.tape.disk).mono ?_
          rintro e w18 ⟨a18, c18, rfl, -, B18⟩
          have HB18 := Lib.hid (bthen HO17.out.low B18)
          rw [show (dirtyI p.n p.df).length = 0 by rw [HDF.out, dirtyI_len, dirtyN_none]; rfl]
          clear B18
          go_wp2
          go_ret
          exact ⟨rfl, HB18.out⟩
end Go.Proofs.Ytlgimhhhlpmjcaa
