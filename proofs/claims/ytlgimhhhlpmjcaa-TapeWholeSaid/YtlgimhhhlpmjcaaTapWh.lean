/- TapeWhole: its walk. -/
import Derived.Test.YtlgimhhhlpmjcaaTapWa
set_option linter.unusedVariables false
set_option linter.unusedSimpArgs false
namespace Go.Proofs.Ytlgimhhhlpmjcaa
open Go.RowKit Go.Maps Go.WideMaps Go.Shelf

theorem wn_low {w : World} {t d sb mb N : Nat} {oA : Option Addr} {on : Nat} {wA : Option Addr} {wn : Nat} {L0 Wt Nt : List Bs} {wr : World} (h : WnS w t d sb mb N oA on wA wn L0 Wt Nt wr) : Below w.heap.size w wr := by
  obtain ⟨p, G, h, _⟩ := h
  exact h.op.low
theorem wn_below {w : World} {t d sb mb N : Nat} {oA : Option Addr} {on : Nat} {wA : Option Addr} {wn : Nat} {L0 Wt Nt : List Bs} {wr w' : World} (h : WnS w t d sb mb N oA on wA wn L0 Wt Nt wr) (hb : Below wr.heap.size wr w') : WnS w t d sb mb N oA on wA wn L0 Wt Nt w' := by
  obtain ⟨p, G, h, h2⟩ := h
  exact ⟨p, G, h.below hb, h2⟩
/-- Ahead of the steps. -/
def WnE (w : World) (t d sb mb N : Nat) (oA : Option Addr) (on : Nat) (wA : Option Addr) (wn : Nat) (L0 Wt : List Bs) (wr : World) : Prop := ∃ p G, Wn w t d sb mb N oA on wA wn L0 Wt p G wr ∧ newL p = Wt
theorem wne_low {w : World} {t d sb mb N : Nat} {oA : Option Addr} {on : Nat} {wA : Option Addr} {wn : Nat} {L0 Wt : List Bs} {wr : World} (h : WnE w t d sb mb N oA on wA wn L0 Wt wr) : Below w.heap.size w wr := by
  obtain ⟨p, G, h, _⟩ := h
  exact h.op.low
theorem wn_snoc {w : World} {t d sb mb N : Nat} {oA : Option Addr} {on : Nat} {vA : Option Addr} {vn : Nat} {L0 Vt : List Bs} {x : Bs} {p : TD} {G : Nat → Prop} {w5 w7 : World} {vs : List Value} {A' : Option Addr} {m c' c7 : Nat} {a7 : Option Addr}
    (h : Wn w t d sb mb N oA on vA vn L0 Vt p G w5) (hN : newL p = Vt ++ [x]) (hf : p.fr = false) (hvl : vs.length = vn)
    (hvs : ∀ i (hi : i < Vt.length), ∃ A' c, vs[i]? = some (.slice A' Vt[i].length c) ∧ RdU8 w5 A' Vt[i].length Vt[i] ∧ ∀ p : Addr, A' = some p → 0 < Vt[i].length → ¬ G p.block)
    (hb : Below w5.heap.size w5 w7) (hx : RdU8 w A' m x) (hm : m = x.length) (ho : w7.ownsRow w5.heap.size 31 1 (.slice a7 (vn + 1) c7) (vn + 1) (vs ++ [.slice A' m c'])) :
    WnS w t d sb mb N oA on a7 (vn + 1) L0 (Vt ++ [x]) (Vt ++ [x]) w7 := by
  have e1 : Vt.length = vn := h.rw.len
  subst e1
  subst hm
  refine ⟨p, G, ⟨h.op.below hb, h.old, h.ro.below hb, ?_⟩, hN, hf⟩
  refine RdBX.snoc (n := 0) hvl hb hvs (hx.below h.op.low) (fun q hq h0 hG => ?_) ho (fun g hg hG => ?_)
  · obtain ⟨b', o', e', hl', _⟩ := hx.at' h0
    rw [e'] at hq
    cases hq
    have h2 : w.heap.size ≤ b' := h.op.own _ hG
    omega
  · have := h.op.tape.lt g hG
    omega
/-- Behind a try to replace. -/
def WnM (w : World) (t d sb mb N : Nat) (oA : Option Addr) (on : Nat) (A2 : Option Addr) (q2 : Nat) (L0 L2 : List Bs) (b : Bool) (wr : World) : Prop :=
  (b = true ∧ WnE w t d sb mb N oA on A2 q2 L0 L2 wr ∧ fitsM L2) ∨ (b = false ∧ WnS w t d sb mb N oA on oA on L0 L0 L0 wr)
theorem wnm_low {w : World} {t d sb mb N : Nat} {oA : Option Addr} {on : Nat} {A2 : Option Addr} {q2 : Nat} {L0 L2 : List Bs} {b : Bool} {wr : World} (h : WnM w t d sb mb N oA on A2 q2 L0 L2 b wr) : Below w.heap.size w wr := by
  rcases h with ⟨_, h, _⟩ | ⟨_, h⟩
  · exact wne_low h
  · exact wn_low h

set_option maxRecDepth 100000 in
set_option maxHeartbeats 8000000 in
theorem twhole_any (n : Int) (A1 : Option Addr) (q1 c1 : Nat) (L1 : List Bs) (A2 : Option Addr) (q2 c2 : Nat) (L2 : List Bs) (s : Int) (kA : Option Addr) (kn kc : Nat) (ks : List Bool) (ff : Bool) (w : World)
    (h1 : RdBB w A1 q1 L1) (o1 : ∀ x ∈ L1, okB x) (h2 : RdBB w A2 q2 L2) (o2 : ∀ x ∈ L2, okB x) (hk : RdBo w kA kn ks) (hs : (Lit.int .i64 s).wf = true) :
    Calls Try.prog 12 #[.int .i64 n, .agg #[.slice A1 q1 c1, .slice A2 q2 c2], .agg #[.int .i64 s, .slice kA kn kc, .bool ff]] w fun e w' => e = .returned (.bool true) ∧ Below w.heap.size w w' := by
  have B0 := Lib.hid (balloc (balloc (Below.refl w.heap.size w) (.cells #[.slice A1 q1 c1, .slice A2 q2 c2] 75)) (.cells #[.int .i64 s, .slice kA kn kc, .bool ff] 77))
  have K4 := Lib.hid ((Blk.new w #[.slice A1 q1 c1, .slice A2 q2 c2] 75).below (balloc (Below.refl _ _) (.cells #[.int .i64 s, .slice kA kn kc, .bool ff] 77)))
  have K5 := Lib.hid (Blk.new (w.alloc (.cells #[.slice A1 q1 c1, .slice A2 q2 c2] 75)) #[.int .i64 s, .slice kA kn kc, .bool ff] 77)
  have H1 := Lib.hid (h1.below B0.out); have H2 := Lib.hid (h2.below B0.out); have O1 := Lib.hid o1; have O2 := Lib.hid o2; have HK := Lib.hid (hk.below B0.out); have HS := Lib.hid hs
  clear h1 h2 o1 o2 hk hs
  go_enter Try.func12, Try.ntmps12
  by_cases hn3 : n < 3
  · go_wp2_with fail
    refine (talive_any _).mono ?_
    rintro e w2 ⟨rfl, hb2⟩
    have B2 := Lib.hid (bthen B0.out hb2); clear hb2
    go_wp2
    go_ret
    exact ⟨rfl, B2.out⟩
  by_cases hn60 : 60 < n
  · go_wp2_with fail
    refine (talive_any _).mono ?_
    rintro e w2 ⟨rfl, hb2⟩
    have B2 := Lib.hid (bthen B0.out hb2); clear hb2
    go_wp2
    go_ret
    exact ⟨rfl, B2.out⟩
  obtain ⟨N, rfl⟩ : ∃ N : Nat, n = N := ⟨n.toNat, by omega⟩
  have HN := Lib.hid (show 3 ≤ N ∧ N ≤ 60 by omega)
  go_wp2_with fail
  obtain ⟨g5, hg5⟩ : ∃ g5, g5 = w.heap.size + 1 := ⟨_, rfl⟩
  have HG5 := Lib.hid hg5
  have hsz : (w.alloc (.cells #[.slice A1 q1 c1, .slice A2 q2 c2] 75)).heap.size = g5 := by rw [hg5]; simp
  rw [hsz] at K5
  try rw [hsz]
  try rw [← hg5]
  clear hsz hg5
  obtain ⟨g4, hg4⟩ : ∃ g4, g4 = w.heap.size := ⟨_, rfl⟩
  rw [← hg4] at K4
  try rw [← hg4]
  have HG4 := Lib.hid hg4; clear hg4
  generalize ((w.alloc (.cells #[.slice A1 q1 c1, .slice A2 q2 c2] 75)).alloc (.cells #[.int .i64 s, .slice kA kn kc, .bool ff] 77)) = wb at *
  have HC := Lib.hid (show ∀ W, Below wb.heap.size wb W → W.cell? ⟨g4, 0, none⟩ = some (.slice A1 q1 c1) ∧ W.cell? ⟨g4, 1, none⟩ = some (.slice A2 q2 c2) ∧ W.cell? ⟨g5, 0, none⟩ = some (.int .i64 s) ∧ W.cell? ⟨g5, 1, none⟩ = some (.slice kA kn kc) ∧ W.cell? ⟨g5, 2, none⟩ = some (.bool ff) from fun W hW =>
    ⟨(K4.out.below hW).cell 0, (K4.out.below hW).cell 1, (K5.out.below hW).cell 0, (K5.out.below hW).cell 1, (K5.out.below hW).cell 2⟩)
  refine (new_ok N wb (by have := HN.out; omega) (by have := HN.out; omega)).mono ?_
  rintro e w1 ⟨d, sb, mb, rfl, hD, l1, l2, l3, hB⟩
  have HD := Lib.hid hD; have HLT := Lib.hid (And.intro l1 (And.intro l2 l3)); have HB := Lib.hid hB
  clear hD l1 l2 l3 hB
  go_wp2_with fail
  refine (open_any d sb mb N _ _ w1 HD.out (by have := HN.out; omega) (zs_bytes N)).mono ?_
  rintro e w2 hO
  unfold OpenPost at hO
  rw [open_new N] at hO
  obtain ⟨hB2, t, F, rfl, hT, hF⟩ := hO
  have hF2 : ∀ k, F k → wb.heap.size ≤ k := fun k hk => by
    have hl := HLT.out
    have hz := HB.out.size
    rcases hF k hk with e | e | e | e <;> omega
  have HO := Lib.hid (show OpS wb t d sb mb N w2 from ⟨⟨N, List.replicate N zsec, fun _ => none, 0, [], [], false, 0⟩, F, hT, TSt.init N (by have := HN.out; omega), rfl, rfl, hF2, bthen HB.out hB2⟩)
  clear hT hF hB2 hF2 hn3 hn60 HD HLT HB
  have g4l := K4.out.lt; have g5l := K5.out.lt
  go_upto_block 0 with fail
  go_cut [11] from 53 to 77 (fun _ wc => Hid (OpS wb t d sb mb N wc))
  case first =>
    go_wp2_with fail
    go_loopw [11] (fun i wr => ∃ k : Nat, k ≤ q1 ∧ k ≤ 20 ∧ i = .int .i64 k ∧ Hid (OpS wb t d sb mb N wr)) (fun i _ => 21 - (intOf i).toNat)
    case atStart => exact ⟨0, Nat.zero_le _, by omega, rfl, HO⟩
    case round =>
      obtain ⟨k, hkl, hk20, rfl, hO⟩ := hrel
      clear HO
      obtain ⟨e40, e41, e50, e51, e52⟩ := HC.out wr (ops_low hO.out)
      by_cases hlt : k < q1 ∧ k < 20
      · obtain ⟨hlt, hlt20⟩ := hlt
        have hkL : k < L1.length := by rw [H1.out.len]; exact hlt
        obtain ⟨b, off, rfl, hb, hc⟩ := H1.out.at' (by omega)
        obtain ⟨A', c', hcl, hrd⟩ := hc k hkL
        have hok1 := Lib.hid (O1.out _ (List.getElem_mem hkL))
        generalize L1[k] = x at *
        obtain ⟨m, hm⟩ : ∃ m, m = x.length := ⟨_, rfl⟩
        rw [← hm] at hcl hrd
        clear hm
        have q1' := ((ops_low hO.out).cell (p := ⟨b, off + k, none⟩) hb).trans hcl
        have HRr := Lib.hid hrd
        have hltI : (k : Int) < q1 := by omega
        have hlt20' : (k : Int) < 20 := by omega
        clear hc hb hcl hrd hkL
        by_cases h400 : (m : Int) ≤ 400
        all_goals
          go_wp2_with (first
            | (go_at_call 17; refine (ops_append hO.out A' m c' x HRr.out hok1.out).mono ?_; rintro e w5 ⟨v5, rfl, hO5⟩; clear hO; have hO := Lib.hid hO5; clear hO5))
          go_roundw
          case rel => exact ⟨k + 1, by omega, by omega, by go_num, hO⟩
          case measure => simp [intOf]; omega
      · have hex : (decide ((k : Int) < q1) && decide ((k : Int) < 20)) = false := by
          rw [Bool.and_eq_false_iff]; simp; omega
        by_cases hlt1 : k < q1
        case' pos =>
          have e20 : k = 20 := by omega
          subst e20
          have hlt2 : ((20 : Nat) : Int) < q1 := by omega
        case' neg =>
          have hlt2 : ¬ (k : Int) < q1 := by omega
        all_goals
          clear hlt hex hlt1
          go_wp2
          go_meet
          case rel => exact hO
  case rest =>
    have hO := hcut
    clear hcut HO
    go_wp2_with fail
    refine (ops_commit hO.out).mono ?_
    rintro e w8 ⟨rfl, p, G, hO8, hW, hf⟩
    have HO8 := Lib.hid hO8
    have HNL := Lib.hid (show newL p = p.L by unfold newL; rw [hW, hf]; simp)
    have HF := Lib.hid hf
    clear hO8 hW hf hO
    go_wp2_with fail
    refine (records_any t d sb mb G p _ HO8.out.tape).mono ?_
    rintro e w9 ⟨v9, rfl, R9, B9⟩
    obtain ⟨a9, c9, rfl⟩ := R9.form
    have hX9 : RdBX w9 (fun g => ¬ G g) a9 p.L.length p.L := RdBX.row R9 (fun g hg h => by have := HO8.out.tape.lt g h; have := hg.1; omega)
    have HW9 := Lib.hid (show WnS wb t d sb mb N a9 p.L.length a9 p.L.length p.L p.L p.L w9 from ⟨p, G, ⟨HO8.out.below B9, rfl, hX9, hX9⟩, HNL.out, HF.out⟩)
    have HL0 := Lib.hid (show p.L.length ≤ 32704 by
      have h1 := sizeB_len p.L
      have h2 := HO8.out.tape.ok.fitL
      have h3 := allB_le HO8.out.tape.small
      omega)
    have HOL := Lib.hid (show ∀ y ∈ p.L, okB y from fun y hy => (HO8.out.tape.ok.rl y hy).2)
    clear R9 B9 hX9 HO8 HNL HF
    generalize hL0 : p.L = L0 at *
    clear hL0
    obtain ⟨on, hon⟩ : ∃ on, on = L0.length := ⟨_, rfl⟩
    have HON := Lib.hid hon
    rw [← hon] at HW9 HL0 ⊢
    clear hon
    have hon := HL0.out
    go_upto_region 15 with fail
    go_cut [14] from 83 to 97 (fun v wc => ∃ b, v = .bool b ∧ Hid (b = true → ff = true) ∧ Hid (WnM wb t d sb mb N a9 on A2 q2 L0 L2 b wc))
    case first =>
      obtain ⟨e40, e41, e50, e51, e52⟩ := HC.out w9 (wn_low HW9.out)
      have g4l' : g4 < w9.heap.size := Nat.lt_of_lt_of_le g4l (wn_low HW9.out).size
      have g5l' : g5 < w9.heap.size := Nat.lt_of_lt_of_le g5l (wn_low HW9.out).size
      cases ff
      case false =>
        go_wp2
        go_meet
        case rel => exact ⟨false, rfl, Lib.hid (by simp), Lib.hid (.inr ⟨rfl, HW9.out⟩)⟩
      case true =>
        go_wp2_with fail
        refine (fits_two 0 0 none 0 0 A2 q2 c2 none 0 0 L2 _ (H2.out.below (wn_low HW9.out))).mono ?_
        rintro e w10 hFP
        unfold FitsPost2 at hFP
        obtain ⟨b, rfl, hb10, hfit⟩ := hFP
        have HW10 := Lib.hid (wn_below HW9.out hb10)
        clear hb10 HW9 e40 e41 e50 e51 e52
        obtain ⟨e40, e41, e50, e51, e52⟩ := HC.out w10 (wn_low HW10.out)
        cases b
        case false =>
          clear hfit
          go_wp2
          go_meet
          case rel => exact ⟨false, rfl, Lib.hid (by simp), Lib.hid (.inr ⟨rfl, HW10.out⟩)⟩
        case true =>
          have HFIT := Lib.hid (hfit rfl).1
          clear hfit
          go_wp2_with fail
          refine (wn_replace HW10.out A2 q2 c2 L2 H2.out O2.out HFIT.out.size).mono ?_
          rintro e w11 (⟨rfl, hR⟩ | ⟨v11, hv11, rfl, hR⟩)
          · have HR := Lib.hid hR; clear hR HW10
            go_wp2
            go_meet
            case rel => exact ⟨true, rfl, Lib.hid (by simp), Lib.hid (.inl ⟨rfl, HR.out, HFIT.out⟩)⟩
          · have HR := Lib.hid hR; clear hR HW10
            have hv : (v11 == 0) = false := by simpa using hv11
            have hv' : decide (v11 = 0) = false := decide_eq_false hv11
            go_wp2
            go_meet
            case rel => exact ⟨false, by first | rfl | simp [hv11], Lib.hid (by simp), Lib.hid (.inr ⟨rfl, HR.out⟩)⟩
    case rest =>
      obtain ⟨b, rfl, hbf, hM⟩ := hcut
      clear HW9
      go_upto_if 98 with fail
      go_cut [13] from 99 to 100 (fun v wc => ∃ wA wn wcc Wt, v = .slice wA wn wcc ∧ wn ≤ 40000 ∧ Hid (∀ y ∈ Wt, okB y) ∧ Hid (ff = false → WnS wb t d sb mb N a9 on wA wn L0 Wt Wt wc) ∧ Hid (WnE wb t d sb mb N a9 on wA wn L0 Wt wc))
      case first =>
        obtain ⟨e40, e41, e50, e51, e52⟩ := HC.out wc (wnm_low hM.out)
        have g4l' : g4 < wc.heap.size := Nat.lt_of_lt_of_le g4l (wnm_low hM.out).size
        rcases hM.out with ⟨rfl, hE, hfi⟩ | ⟨rfl, hS⟩
        · have HE := Lib.hid hE; have HFI := Lib.hid hfi
          have hq : q2 ≤ 40000 := by have h1 := hfi.1; have h2 := H2.out.len; omega
          have hff := Lib.hid (show ff = true from hbf.out rfl)
          clear hE hfi hM hbf
          go_wp2
          go_meet
          case rel => exact ⟨_, _, _, _, rfl, hq, O2, Lib.hid (fun h => by rw [hff.out] at h; cases h), HE⟩
        · have HSS := Lib.hid hS
          clear hS hM hbf
          go_wp2
          go_meet
          case rel => exact ⟨_, _, _, _, rfl, by omega, HOL, Lib.hid (fun _ => HSS.out), Lib.hid (by obtain ⟨p, G, h1, h2, _⟩ := HSS.out; exact ⟨p, G, h1, h2⟩)⟩
      case rest =>
        obtain ⟨wA, wn, wcc, Wt, rfl, hwn, hOW, hSf, hE⟩ := hcut
        clear hM hbf
        go_upto_block 2 with fail
        go_cut [13, 15] from 101 to 143 (fun v _ wc => ∃ wA wn wcc Wt, v = .slice wA wn wcc ∧ wn ≤ 1000000 ∧ Hid (∀ y ∈ Wt, okB y) ∧ Hid (WnE wb t d sb mb N a9 on wA wn L0 Wt wc))
        case first =>
          cases ff
          case true =>
            obtain ⟨e40, e41, e50, e51, e52⟩ := HC.out wc (wne_low hE.out)
            obtain ⟨wx, hwx⟩ : ∃ wx, wx = wc := ⟨_, rfl⟩
            rw [← hwx] at hE e40 e41 e50 e51 e52 ⊢
            have g4l' : g4 < wx.heap.size := Nat.lt_of_lt_of_le g4l (wne_low hE.out).size
            have g5l' : g5 < wx.heap.size := Nat.lt_of_lt_of_le g5l (wne_low hE.out).size
            clear hwx hSf
            go_wp2_with fail
            go_loopw [13, 15] (fun v i wr => v = .slice wA wn wcc ∧ i = .int .i64 0 ∧ wr = wx) (fun _ _ _ => 0)
            case atStart => exact ⟨rfl, rfl, rfl⟩
            case round =>
              obtain ⟨rfl, rfl, hwr⟩ := hrel
              subst hwr
              by_cases hq : (0 : Int) < q2
              all_goals
                go_wp2
                go_meet
                case rel => exact ⟨_, _, _, _, rfl, by omega, hOW, hE⟩
          case false =>
            have hS0 := Lib.hid (hSf.out rfl)
            clear hSf hE
            go_wp2_with fail
            go_loopw [13, 15] (fun v i wr => ∃ (k : Nat) (vA : Option Addr) (vn vc : Nat) (Vt : List Bs), k ≤ q2 ∧ k ≤ 20 ∧ vn ≤ 40000 + k ∧ v = .slice vA vn vc ∧ i = .int .i64 k ∧ Hid (∀ y ∈ Vt, okB y) ∧ Hid (WnS wb t d sb mb N a9 on vA vn L0 Vt Vt wr)) (fun _ i _ => 21 - (intOf i).toNat)
            case atStart => exact ⟨0, wA, wn, wcc, Wt, Nat.zero_le _, by omega, by omega, rfl, rfl, hOW, hS0⟩
            case round =>
              obtain ⟨k, vA, vn, vc, Vt, hkl, hk20, hvn, rfl, rfl, hOV, hS⟩ := hrel
              clear hS0 hOW
              obtain ⟨e40, e41, e50, e51, e52⟩ := HC.out wr (wn_low hS.out)
              have g4l' : g4 < wr.heap.size := Nat.lt_of_lt_of_le g4l (wn_low hS.out).size
              have g5l' : g5 < wr.heap.size := Nat.lt_of_lt_of_le g5l (wn_low hS.out).size
              by_cases hlt : k < q2 ∧ k < 20
              · obtain ⟨hlt, hlt20⟩ := hlt
                have hkL : k < L2.length := by rw [H2.out.len]; exact hlt
                obtain ⟨b, off, rfl, hb, hc⟩ := H2.out.at' (by omega)
                obtain ⟨A', c', hcl, hrd⟩ := hc k hkL
                have hok1 := Lib.hid (O2.out _ (List.getElem_mem hkL))
                generalize L2[k] = x at *
                obtain ⟨m, hm⟩ : ∃ m, m = x.length := ⟨_, rfl⟩
                rw [← hm] at hcl hrd
                have HM := Lib.hid hm
                clear hm
                have q1' := ((wn_low hS.out).cell (p := ⟨b, off + k, none⟩) hb).trans hcl
                have HRr := Lib.hid hrd; have HCL := Lib.hid hcl
                have HBL := Lib.hid hb
                have hltI : (k : Int) < q2 := by omega
                have hlt20' : (k : Int) < 20 := by omega
                clear hc hb hcl hrd hkL
                by_cases h400 : (m : Int) ≤ 400
                · go_wp2_with fail
                  refine (wn_append hS.out A' m c' x HRr.out hok1.out).mono ?_
                  rintro e w5 (⟨rfl, hR⟩ | ⟨v5, hv5, rfl, hR⟩)
                  · have HR := Lib.hid hR; clear hR hS e40 e41 e50 e51 e52
                    obtain ⟨e40, e41, e50, e51, e52⟩ := HC.out w5 (wn_low HR.out)
                    have q5 := ((wn_low HR.out).cell (p := ⟨b, off + k, none⟩) HBL.out).trans HCL.out
                    clear q1'
                    obtain ⟨p5, G5, hWn, hN5, hf5⟩ := HR.out
                    have HWN := Lib.hid hWn; have HN5 := Lib.hid hN5; have HF5 := Lib.hid hf5
                    obtain ⟨vs, hvl, hv1, hvc, hvs⟩ := hWn.rw.vals
                    have HVL := Lib.hid hvl; have HV1 := Lib.hid hv1; have HVC := Lib.hid hvc; have HVS := Lib.hid hvs
                    clear hWn hN5 hf5 hvl hv1 hvc hvs
                    have X0 : Hid (Below w5.heap.size w5 w5.drew) := Lib.hid (bdrew (Below.refl _ _))
                    go_wp2_with fail
                    have HOX := Lib.hid (show ∀ y ∈ Vt ++ [x], okB y from fun y hy => by
                      rcases List.mem_append.1 hy with h | h
                      · exact hOV.out y h
                      · rw [List.mem_singleton.1 h]; exact hok1.out)
                    have g4l5 : g4 < w5.heap.size := Nat.lt_of_lt_of_le g4l (wn_low HR.out).size
                    have bl5 : b < w5.heap.size := Nat.lt_of_lt_of_le HBL.out (wn_low HR.out).size
                    have Z1 := Lib.hid (bdrew (balloc (Below.refl w5.heap.size w5) (.cells #[] 31)))
                    have Z2 := Lib.hid (bdrew (balloc (balloc (Below.refl w5.heap.size w5) (.cells #[.slice A' m c'] 31)) (.cells #[] 31)))
                    have Z3 := Lib.hid (bdrew (balloc (balloc (Below.refl w5.heap.size w5) (.cells #[] 31)) (.cells #[.slice A' m c'] 31)))
                    have N1 := Lib.hid (own_empty (W := (w5.alloc (.cells #[] 31)).drew) (base := w5.heap.size) (g := w5.heap.size) (heap_alloc_new w5 _) (Nat.le_refl _))
                    have N2 := Lib.hid (own_empty (W := ((w5.alloc (.cells #[.slice A' m c'] 31)).alloc (.cells #[] 31)).drew) (base := w5.heap.size) (g := w5.heap.size + 1) (by have h := heap_alloc_new (w5.alloc (.cells #[.slice A' m c'] 31)) (.cells #[] 31); rw [World.size_alloc] at h; exact h) (by omega))
                    have N3 := Lib.hid (own_empty (W := ((w5.alloc (.cells #[] 31)).alloc (.cells #[.slice A' m c'] 31)).drew) (base := w5.heap.size) (g := w5.heap.size) ((Below.heap_alloc (w5.alloc (.cells #[] 31)) (.cells #[.slice A' m c'] 31) _ (by simp)).trans (heap_alloc_new w5 _)) (Nat.le_refl _))
                    have P2 : Hid (((w5.alloc (.cells #[.slice A' m c'] 31)).alloc (.cells #[] 31)).drew.heap[w5.heap.size]? = some (.cells #[.slice A' m c'] 31)) := Lib.hid ((Below.heap_alloc (w5.alloc (.cells #[.slice A' m c'] 31)) (.cells #[] 31) _ (by simp)).trans (heap_alloc_new w5 _))
                    have P3 : Hid (((w5.alloc (.cells #[] 31)).alloc (.cells #[.slice A' m c'] 31)).drew.heap[w5.heap.size + 1]? = some (.cells #[.slice A' m c'] 31)) := Lib.hid (by have h := heap_alloc_new (w5.alloc (.cells #[] 31)) (.cells #[.slice A' m c'] 31); rw [World.size_alloc] at h; exact h)
                    go_region_law (first
                      | (refine step_app_vs rfl _ _ rfl w5.heap.size _ rfl ?_ vA vn vc vs rfl HVL.out ?_ HV1.out (by omega) ?_ ?_
                         (first | exact N1.out | exact N2.out | exact N3.out)
                         (intro h0; obtain ⟨b0, o0, e0, hl0, hc0⟩ := HVC.out h0; refine ⟨_, e0, fun j u hj => ?_⟩; rw [add_none]; first | exact (Z1.out.cell (p := ⟨b0, o0 + j, none⟩) hl0).trans (hc0 j u hj) | exact (Z2.out.cell (p := ⟨b0, o0 + j, none⟩) hl0).trans (hc0 j u hj) | exact (Z3.out.cell (p := ⟨b0, o0 + j, none⟩) hl0).trans (hc0 j u hj))
                         (first | exact Z1.out.size | exact Z2.out.size | exact Z3.out.size)
                         intro v6 w6 O6 E6
                         obtain ⟨a6, c6, rfl⟩ := row_form O6
                         have B6 : Below w5.heap.size w5 w6 := by
                           first
                             | exact Z1.out.grown E6 Z1.out.size (fun j hj => by cases hj; exact Nat.le_refl _)
                             | exact Z2.out.grown E6 Z2.out.size (fun j hj => by cases hj; exact Nat.le_succ _)
                             | exact Z3.out.grown E6 Z3.out.size (fun j hj => by cases hj; exact Nat.le_refl _)
                         (first
                           | (have HNP := Lib.hid ((E6.block w5.heap.size (Array.getElem?_eq_some_iff.1 P2.out).1 (fun h => by have h' : some w5.heap.size = some (w5.heap.size + 1) := h; simp at h')).trans P2.out))
                           | (have HNP := Lib.hid ((E6.block (w5.heap.size + 1) (Array.getElem?_eq_some_iff.1 P3.out).1 (fun h => by have h' : some (w5.heap.size + 1) = some w5.heap.size := h; simp at h')).trans P3.out))
                           | (have HNP := Lib.hid True.intro))
                         have r41 := (B6.cell (p := ⟨g4, 1, none⟩) g4l5).trans e41
                         have r5 := (B6.cell (p := ⟨b, off + k, none⟩) bl5).trans q5
                         have HO6 := Lib.hid O6; have HB6 := Lib.hid B6; clear O6 B6 E6)
                      | (refine step_app2 rfl _ _ 22 rfl w5.heap.size 31 (.slice none 0 0) 24 bbInfo Try.underlying22 rfl _ vn vs rfl ?_ _ 1 1 [.slice A' m c'] rfl rfl ?_ ?_ ?_ ?_ ?_ ?_ ?_
                         (first | exact HO6.out | exact ownsRow_below HO6.out (balloc (Below.refl _ _) _))
                         (intro j u hu; match j, hu with | 0, hu => (simp at hu; subst hu; first | exact (Blk.newAt w6 #[.slice A' m c'] 31 w6.heap.size rfl).cell 0 | exact (show Blk w6 _ #[.slice A' m c'] 31 from HNP.out).cell 0))
                         (intro u hu; simp at hu; subst hu; rfl)
                         (omega)
                         (unfold maxLen; omega)
                         (omega)
                         (first | exact HB6.out.size | exact (balloc HB6.out _).size)
                         intro v7 w7 O7 E7 N7
                         obtain ⟨a7, c7, rfl⟩ := row_form O7
                         have B7 : Below w5.heap.size w5 w7 := by
                           first
                             | exact HB6.out.grown E7 HB6.out.size (fun j hj => (HO6.out.lt j hj).1)
                             | exact (balloc HB6.out _).grown E7 (balloc HB6.out _).size (fun j hj => (HO6.out.lt j hj).1)
                         have HO7 := Lib.hid O7; have HB7 := Lib.hid B7; clear O7 E7 N7 B7))
                    all_goals
                      have HS7 := Lib.hid (wn_snoc HWN.out HN5.out HF5.out HVL.out HVS.out HB7.out HRr.out HM.out HO7.out)
                      clear HNP HO6 HB6 HO7 HB7 r41 r5 Z1 Z2 Z3 N1 N2 N3 P2 P3
                      go_wp2
                      go_roundw
                      case rel => exact ⟨k + 1, a7, vn + 1, c7, Vt ++ [x], by omega, by omega, by omega, rfl, by go_num, HOX, HS7⟩
                      case measure => simp [intOf]; omega
                  · have HR := Lib.hid hR; clear hR hS
                    have hv : (v5 == 0) = false := by simpa using hv5
                    have hv' : decide (v5 = 0) = false := decide_eq_false hv5
                    go_wp2
                    go_roundw
                    case rel => exact ⟨k + 1, vA, vn, vc, Vt, by omega, by omega, by omega, rfl, by go_num, hOV, HR⟩
                    case measure => simp [intOf]; omega
                · go_wp2
                  go_roundw
                  case rel => exact ⟨k + 1, vA, vn, vc, Vt, by omega, by omega, by omega, rfl, by go_num, hOV, hS⟩
                  case measure => simp [intOf]; omega
              · have hex : (decide ((k : Int) < q2) && decide ((k : Int) < 20)) = false := by
                  rw [Bool.and_eq_false_iff]; simp; omega
                by_cases hlt1 : k < q2
                case' pos =>
                  have e20 : k = 20 := by omega
                  subst e20
                  have hlt2 : ((20 : Nat) : Int) < q2 := by omega
                case' neg =>
                  have hlt2 : ¬ (k : Int) < q2 := by omega
                all_goals
                  clear hlt hex hlt1
                  go_wp2
                  go_meet
                  case rel => exact ⟨_, _, _, _, rfl, by omega, hOV, Lib.hid (by obtain ⟨p, G, h1, h2, _⟩ := hS.out; exact ⟨p, G, h1, h2⟩)⟩
        case rest =>
          obtain ⟨wA, wn, wcc, Wt, rfl, hwn, hOW, hE⟩ := hcut
          clear hSf
          obtain ⟨p, G, hWn, hNL⟩ := hE.out
          have HP := Lib.hid hWn; have HNL := Lib.hid hNL
          clear hWn hNL hE
          have zc := HP.out.op.low.size
          obtain ⟨e40, e41, e50, e51, e52⟩ := HC.out wc HP.out.op.low
          have g5lc : g5 < wc.heap.size := Nat.lt_of_lt_of_le g5l zc
          go_wp2_with fail
          refine (steps_any s kA kn kc ff _ HS.out).mono ?_
          rintro e w20 ⟨sn, hsn, rfl, B20⟩
          have HR0 := Lib.hid (show WnR wb t d sb mb N a9 on wA wn L0 Wt p 0 w20 from
            ⟨p, G, HP.out.op.tape.below B20, Ran.init HP.out.op.tape.ok HP.out.op.st HP.out.op.dn, HP.out.op.own, bthen HP.out.op.low B20, HP.out.ro.below B20, HP.out.rw.below B20⟩)
          have HPF := Lib.hid (show p.dn = 0 ∧ p.n = N ∧ p.L = L0 ∧ newL p = Wt from ⟨HP.out.op.dn, HP.out.op.n, HP.out.old, HNL.out⟩)
          clear B20 HP HNL e40 e41 e50 e51 e52 zc g5lc
          go_upto_block 4 with fail
          go_cut [17] from 146 to 152 (fun _ wc => Hid (WnR wb t d sb mb N a9 on wA wn L0 Wt p sn wc))
          case first =>
            go_wp2_with fail
            go_loopw [17] (fun i wr => ∃ k : Nat, k ≤ sn ∧ i = .int .i64 k ∧ Hid (WnR wb t d sb mb N a9 on wA wn L0 Wt p k wr)) (fun i _ => sn - (intOf i).toNat)
            case atStart => exact ⟨0, Nat.zero_le _, rfl, HR0⟩
            case round =>
              obtain ⟨k, hk, rfl, hR⟩ := hrel
              clear HR0
              by_cases hlt : k < sn
              · have hltI : (k : Int) < sn := by omega
                go_wp2_with fail
                refine (wn_step hR.out).mono ?_
                rintro e w21 ⟨v21, rfl, hR2⟩
                have HR2 := Lib.hid hR2
                clear hR2 hR
                go_wp2
                go_roundw
                case rel => exact ⟨k + 1, by omega, by go_num, HR2⟩
                case measure => simp [intOf]; omega
              · have : k = sn := by omega
                subst this
                go_wp2
                go_meet
                case rel => exact hR
          case rest =>
            obtain ⟨q, G, hT, hRn, hown, hlow, hro, hrw⟩ := hcut.out
            have HT := Lib.hid hT; have HRN := Lib.hid hRn; have HLOW := Lib.hid hlow; have HRO := Lib.hid hro.rd; have HRW := Lib.hid hrw.rd
            clear hT hRn hown hlow hro hrw hcut HR0
            have hqN : q.n = N := HRN.out.n.trans HPF.out.2.1
            have HDK := Lib.hid (show DiskIs wc d sb mb N q.sf q.df by have := HT.out.disk; rwa [hqN] at this)
            obtain ⟨h', L', hop, hA, hB, hC⟩ := HRN.out.crash HPF.out.1 (by rw [HPF.out.2.1]; have := HN.out; omega) ks
            rw [HPF.out.2.1] at hop
            rw [HPF.out.2.2.2, HPF.out.2.2.1] at hA
            rw [HPF.out.2.2.1] at hB
            rw [HPF.out.2.2.2] at hC
            have HOP := Lib.hid hop; have HA := Lib.hid hA; have HB3 := Lib.hid hB; have HC4 := Lib.hid hC
            have HBY := Lib.hid (show BytesS (crashS N q.sf q.df ks) (fun _ => none) from crash_bytes HRN.out.st.by' ks)
            have HTW := Lib.hid (show crashS N (crashS N q.sf q.df ks) (fun _ => none) ks = crashS N q.sf q.df ks from crash_twice (crashS_len _ _ _ _) ks)
            have hn3' : 3 ≤ N := HN.out.1
            clear hop hA hB hC hqN HT
            generalize hsc : crashS N q.sf q.df ks = sc at *
            have HSC := Lib.hid hsc; clear hsc
            have zc := HLOW.out.size
            obtain ⟨e40, e41, e50, e51, e52⟩ := HC.out wc HLOW.out
            have g5lc : g5 < wc.heap.size := Nat.lt_of_lt_of_le g5l zc
            clear e40 e41 e50 e52
            go_wp2_with fail
            refine (crash_any d sb mb N q.sf q.df kA kn kc ks _ HDK.out (HK.out.below HLOW.out)).mono ?_
            rintro e w22 hCP
            unfold CrashPost at hCP
            obtain ⟨d2, sb2, mb2, rfl, hD2, -, -, -, B22⟩ := hCP
            rw [HSC.out] at hD2
            have HD2 := Lib.hid hD2; have HB22 := Lib.hid B22
            clear hD2 B22
            go_wp2_with fail
            refine (open_any d2 sb2 mb2 N sc _ w22 HD2.out hn3' HBY.out).mono ?_
            rintro e w23 hO
            unfold OpenPost at hO
            rw [HOP.out] at hO
            obtain ⟨B23, x, F23, rfl, hX, -⟩ := hO
            have HX := Lib.hid hX; have HB23 := Lib.hid (bthen HB22.out B23)
            clear hX B23 HD2 HB22
            have hcr : ∀ W, Below w23.heap.size w23 W → Calls Try.prog 36 #[.pointer (some ⟨d, 0, none⟩), .slice kA kn kc] W (CrashPost W N q.sf q.df ks) := fun W hW =>
              crash_any d sb mb N q.sf q.df kA kn kc ks W (HDK.out.below (bthen HB23.out hW)) (HK.out.below (bthen HLOW.out (bthen HB23.out hW)))
            have HCR := Lib.hid hcr; clear hcr
            have r1 := (HB23.out.cell (p := ⟨g5, 1, none⟩) g5lc).trans e51
            have g5l23 : g5 < w23.heap.size := Nat.lt_of_lt_of_le g5lc HB23.out.size
            clear e51
            have LL := Lib.hid (bdrew (Below.refl w23.heap.size w23))
            have r1 : w23.drew.cell? ⟨g5, 1, none⟩ = some (.slice kA kn kc) := r1
            go_wp2_with fail
            go_region_held3 (fun W => W.cell? ⟨g5, 1, none⟩ = some (.slice kA kn kc)) (first | exact r1 | go_keep)
              (first
                | (go_at_call 16; refine (open_any d4 sb4 mb4 N sc _ w25 HD4.out hn3' HBY.out).mono ?_
                   rintro e w26 hO; unfold OpenPost at hO; rw [HOP.out] at hO; obtain ⟨B26, y, F26, rfl, hY, -⟩ := hO
                   have HY := Lib.hid hY; have LL := Lib.hid (bthen LL.out B26); have r1 := (B26.cell (p := ⟨g5, 1, none⟩) (Nat.lt_of_lt_of_le g5l23 zLL)).trans r1; clear hY B26)
                | (go_at_call 36; refine (crash_any d3 sb3 mb3 N sc _ kA kn kc ks _ HD3.out (HK.out.below (bthen HLOW.out (bthen HB23.out LL.out)))).mono ?_
                   rintro e w25 hCP; unfold CrashPost at hCP; obtain ⟨d4, sb4, mb4, rfl, hD4, -, -, -, B25⟩ := hCP; rw [HTW.out] at hD4
                   have HD4 := Lib.hid hD4; have r1 := (B25.cell (p := ⟨g5, 1, none⟩) (Nat.lt_of_lt_of_le g5l23 zLL)).trans r1; have LL := Lib.hid (bthen LL.out B25); have zLL := LL.out.size; clear hD4 B25)
                | (go_at_call 36; refine (HCR.out _ LL.out).mono ?_
                   rintro e w24 hCP; unfold CrashPost at hCP; obtain ⟨d3, sb3, mb3, rfl, hD3, -, -, -, B24⟩ := hCP; rw [HSC.out] at hD3
                   have HD3 := Lib.hid hD3; have r1 := (B24.cell (p := ⟨g5, 1, none⟩) g5l23).trans r1; have LL := Lib.hid (bthen LL.out B24); have zLL := LL.out.size; clear hD3 B24))
            have HX := Lib.hid (HX.out.below LL.out)
            have HRO := Lib.hid (HRO.out.below (bthen HB23.out LL.out)); have HRW := Lib.hid (HRW.out.below (bthen HB23.out LL.out))
            have HLO := Lib.hid (bthen B0.out (bthen HLOW.out (bthen HB23.out LL.out)))
            have HLL := Lib.hid (show L'.length ≤ 1000000 by
              have h1 := sizeB_len L'
              have h2 : sizeB L' ≤ allB N := HX.out.ok.fitL
              have h3 := allB_le HX.out.small
              have h4 : allB N ≤ 32704 := h3
              omega)
            have HOK := Lib.hid (show ∀ y ∈ L', okB y from fun y hy => (HX.out.ok.rl y hy).2)
            clear LL r1 HCR HD3 HD4 zLL HB23 HDK HLOW HTW HBY HOP
            go_wp2_with fail
            refine (records_any x d2 sb2 mb2 F23 _ _ HX.out).mono ?_
            rintro e w27 ⟨v27, rfl, R27, B27⟩
            obtain ⟨a27, c27, rfl⟩ := R27.form
            have HR27 := Lib.hid R27.rd
            have HY := Lib.hid (HY.out.below B27); have HRO := Lib.hid (HRO.out.below B27); have HRW := Lib.hid (HRW.out.below B27); have HLO := Lib.hid (bthen HLO.out B27)
            clear R27 B27 HX
            have hll : L'.length ≤ 1000000 := HLL.out
            go_wp2_with fail
            refine (same_any _ _ _ _ _ _ L' Wt _ HR27.out HRW.out HOK.out hOW.out hll).mono ?_
            rintro e w28 ⟨rfl, B28⟩
            have HR28 := Lib.hid (HR27.out.below B28)
            have HY := Lib.hid (HY.out.below B28); have HRO := Lib.hid (HRO.out.below B28); have HLO := Lib.hid (bthen HLO.out B28)
            clear B28 HRW HR27
            go_wp2_with fail
            refine (same_any _ _ _ _ _ _ L' L0 _ HR28.out HRO.out HOK.out HOL.out hll).mono ?_
            rintro e w29 ⟨rfl, B29⟩
            have HR29 := Lib.hid (HR28.out.below B29)
            have HY := Lib.hid (HY.out.below B29); have HLO := Lib.hid (bthen HLO.out B29)
            clear B29 HRO HR28
            go_wp2_with fail
            refine (records_any y d4 sb4 mb4 F26 _ _ HY.out).mono ?_
            rintro e w30 ⟨v30, rfl, R30, B30⟩
            obtain ⟨a30, c30, rfl⟩ := R30.form
            have HR30 := Lib.hid R30.rd; have HR29 := Lib.hid (HR29.out.below B30); have HLO := Lib.hid (bthen HLO.out B30)
            clear R30 B30 HY
            go_wp2_with fail
            refine (same_any _ _ _ _ _ _ L' L' _ HR30.out HR29.out HOK.out HOK.out hll).mono ?_
            rintro e w31 ⟨rfl, B31⟩
            rw [decide_eq_true rfl]
            have HLO := Lib.hid (bthen HLO.out B31)
            clear B31 HR29 HR30
            obtain ⟨bi, hbi⟩ : ∃ bi, bi = decide (L' = Wt) := ⟨_, rfl⟩
            obtain ⟨bw, hbw⟩ : ∃ bw, bw = decide (L' = L0) := ⟨_, rfl⟩
            rw [← hbi, ← hbw]
            have hfin : (bi = true ∨ bw = true) ∧ (3 ≤ sn ∨ bw = true) ∧ (sn < 4 ∨ bi = true) := by
              rw [hbi, hbw]
              simp only [decide_eq_true_iff]
              exact ⟨HA.out, HB3.out, HC4.out⟩
            clear hbi hbw HA HB3 HC4 hll HLL HOK
            have hcase : (bi = true ∧ bw = true) ∨ (bi = true ∧ bw = false ∧ 3 ≤ sn) ∨ (bi = false ∧ bw = true ∧ sn < 4) := by
              obtain ⟨h1, h2, h3⟩ := hfin
              cases bi <;> cases bw <;> simp at h1 h2 h3 ⊢ <;> omega
            clear hfin
            go_wp2_with fail
            refine (talive_any _).mono ?_
            rintro e w32 ⟨rfl, B32⟩
            have HLO := Lib.hid (bthen HLO.out B32)
            clear B32
            rcases hcase with ⟨rfl, rfl⟩ | ⟨rfl, rfl, h3⟩ | ⟨rfl, rfl, h4⟩
            · by_cases h3 : 3 ≤ sn
              · have h3i : (3 : Int) ≤ sn := by omega
                have h3b : decide ((3 : Int) ≤ sn) = true := decide_eq_true h3i
                by_cases h4 : sn < 4
                · have h4i : (sn : Int) < 4 := by omega
                  have h4b : decide ((sn : Int) < 4) = true := decide_eq_true h4i
                  go_wp2
                  go_ret
                  exact ⟨by simp, HLO.out⟩
                · have h4i : ¬ (sn : Int) < 4 := by omega
                  have h4b : decide ((sn : Int) < 4) = false := decide_eq_false h4i
                  go_wp2
                  go_ret
                  exact ⟨by simp, HLO.out⟩
              · have h3i : ¬ (3 : Int) ≤ sn := by omega
                have h3b : decide ((3 : Int) ≤ sn) = false := decide_eq_false h3i
                have h4i : (sn : Int) < 4 := by omega
                have h4b : decide ((sn : Int) < 4) = true := decide_eq_true h4i
                go_wp2
                go_ret
                exact ⟨by simp, HLO.out⟩
            · have h3i : (3 : Int) ≤ sn := by omega
              have h3b : decide ((3 : Int) ≤ sn) = true := decide_eq_true h3i
              by_cases h4 : sn < 4
              · have h4i : (sn : Int) < 4 := by omega
                have h4b : decide ((sn : Int) < 4) = true := decide_eq_true h4i
                go_wp2
                go_ret
                exact ⟨by simp, HLO.out⟩
              · have h4i : ¬ (sn : Int) < 4 := by omega
                have h4b : decide ((sn : Int) < 4) = false := decide_eq_false h4i
                go_wp2
                go_ret
                exact ⟨by simp, HLO.out⟩
            · have h4i : (sn : Int) < 4 := by omega
              have h4b : decide ((sn : Int) < 4) = true := decide_eq_true h4i
              by_cases h3 : 3 ≤ sn
              · have h3i : (3 : Int) ≤ sn := by omega
                have h3b : decide ((3 : Int) ≤ sn) = true := decide_eq_true h3i
                go_wp2
                go_ret
                exact ⟨by simp, HLO.out⟩
              · have h3i : ¬ (3 : Int) ≤ sn := by omega
                have h3b : decide ((3 : Int) ≤ sn) = false := decide_eq_false h3i
                go_wp2
                go_ret
                exact ⟨by simp, HLO.out⟩
end Go.Proofs.Ytlgimhhhlpmjcaa
