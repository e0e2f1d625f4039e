/- TapeRooms: its walk. -/
import Derived.Test.YtlgimhhhlpmjcaaTapRpl
import Derived.BigQuiet
set_option linter.unusedVariables false
set_option linter.unusedSimpArgs false
namespace Go.Proofs.Ytlgimhhhlpmjcaa
open Go.RowKit Go.Maps Go.WideMaps Go.Shelf

theorem roomP_commit {p : TD} (hd : p.dn = 0) (hf : p.fr = false) : roomP (commitP p) = roomP p := by
  obtain ⟨c1, c2, c3, c4, c5⟩ := commit_L p hd hf
  unfold roomP
  rw [c1, c2, c4, c5, hf, sizeB_append, sizeB_nil]
  simp
  omega
theorem kcell {w w' : World} {S : Nat → Prop} (h : Kept w w' S) {p : Addr} (hp : p.block < w.heap.size) (hS : ¬ S p.block) : w'.cell? p = w.cell? p := by
  unfold World.cell?
  rw [h.block _ hp hS]
theorem rightB_false {x : Bs} (h : rightB x = false) : x.length = 0 ∨ 300 < x.length := by
  by_cases h1 : 0 < x.length
  · by_cases h2 : x.length ≤ 300
    · exfalso; unfold rightB at h; rw [decide_eq_true h1, decide_eq_true h2] at h; cases h
    · right; omega
  · left; omega
/-- What the loop of TapeRooms knows. -/
def RmInv (N c : Nat) (p : TD) : Prop := p.n = N ∧ p.dn = 0 ∧ p.fr = false ∧ (p.L ++ p.W).length = c
theorem RmInv.commit {N c : Nat} {p : TD} (h : RmInv N c p) : RmInv N c (commitP p) := by
  obtain ⟨h1, h2, h3, h4⟩ := h
  obtain ⟨c1, c2, c3, c4, c5⟩ := commit_L p h2 h3
  exact ⟨by rw [c5, h1], c3, c4, by rw [c1, c2, List.append_nil]; exact h4⟩
theorem RmInv.app {N c : Nat} {p : TD} {x : Bs} (h : RmInv N c p) (he : errA p x = 0) : RmInv N (c + 1) (appP p x) := by
  obtain ⟨h1, h2, h3, h4⟩ := h
  have : appP p x = { p with W := p.W ++ [x] } := by unfold appP; rw [if_pos he]
  rw [this]
  exact ⟨h1, h2, h3, by show (p.L ++ (p.W ++ [x])).length = _; rw [← List.append_assoc, List.length_append, h4]; rfl⟩
theorem appP_same {p : TD} {x : Bs} (he : errA p x ≠ 0) : appP p x = p := by unfold appP; rw [if_neg he]

set_option maxRecDepth 100000 in
set_option maxHeartbeats 8000000 in
theorem rooms_any (n : Int) (A : Option Addr) (ln c : Nat) (L : List Bs) (w : World) (hL : RdBB w A ln L) (oL : ∀ x ∈ L, okB x) :
    Calls Try.prog 4 #[.int .i64 n, .slice A ln c] w fun e w' => e = .returned (.bool true) ∧ Below w.heap.size w w' := by
  have HL := Lib.hid hL; have OL := Lib.hid oL; clear hL oL
  go_enter Try.func4, Try.ntmps4
  by_cases hn3 : n < 3
  · go_wp2_with fail
    refine (talive_any _).mono ?_
    rintro e w2 ⟨rfl, hb2⟩
    have B2 := Lib.hid hb2; clear hb2
    go_wp2
    go_ret
    exact ⟨rfl, B2.out⟩
  by_cases hn60 : 60 < n
  · go_wp2_with fail
    refine (talive_any _).mono ?_
    rintro e w2 ⟨rfl, hb2⟩
    have B2 := Lib.hid hb2; clear hb2
    go_wp2
    go_ret
    exact ⟨rfl, B2.out⟩
  obtain ⟨N, rfl⟩ : ∃ N : Nat, n = N := ⟨n.toNat, by omega⟩
  have HN := Lib.hid (show 3 ≤ N ∧ N ≤ 60 by omega)
  go_wp2_with fail
  refine (new_ok N w (by have := HN.out; omega) (by have := HN.out; omega)).mono ?_
  rintro e w1 ⟨d, sb, mb, rfl, hD, l1, l2, l3, hB⟩
  have HD := Lib.hid hD; have HLT := Lib.hid (And.intro l1 (And.intro l2 l3)); have HB := Lib.hid hB
  clear hD l1 l2 l3 hB
  go_wp2_with fail
  refine (open_any d sb mb N _ _ w1 HD.out (by have := HN.out; omega) (zs_bytes N)).mono ?_
  rintro e w2 hO
  unfold OpenPost at hO
  rw [open_new N] at hO
  obtain ⟨hB2, t, F, rfl, hT, hF⟩ := hO
  have HT := Lib.hid (show TapeIs w2 F t d sb mb ⟨N, List.replicate N zsec, fun _ => none, 0, [], [], false, 0⟩ from hT); have HB2 := Lib.hid (bthen HB.out hB2)
  have hF2 : ∀ k, F k → w.heap.size ≤ k := fun k hk => by
    have hl := HLT.out
    have hz := HB.out.size
    rcases hF k hk with e | e | e | e <;> omega
  have HF := Lib.hid hF2
  clear hT hF hB2 hF2 hn3 hn60
  have HA := Lib.hid (show roomP (⟨N, List.replicate N zsec, fun _ => none, 0, [], [], false, 0⟩ : TD) = (allB N : Nat) by unfold roomP; simp [sizeB])
  have HQ := Lib.hid (show allB N = (N - 1) / 2 * 64 from rfl)
  have hq : (((allB N : Nat) : Int) != ((N : Int) - 1) / 2 * 64) = false := by
    have : ((allB N : Nat) : Int) = ((N : Int) - 1) / 2 * 64 := by rw [HQ.out]; have := HN.out; omega
    rw [← this]; simp
  have hn1 : 3 ≤ N := HN.out.1
  have hn2 : N ≤ 60 := HN.out.2
  go_wp2_with (go_at_call 23; refine (room_any t d sb mb F _ _ HT.out).mono ?_; rintro e w3 ⟨rfl, B3⟩; rw [HA.out]; have HB3 := Lib.hid B3; clear B3)
  have HT3 := Lib.hid (HT.out.below HB3.out); have HB03 := Lib.hid (bthen HB2.out HB3.out)
  have HINV := Lib.hid (show RmInv N 0 (⟨N, List.replicate N zsec, fun _ => none, 0, [], [], false, 0⟩ : TD) from ⟨rfl, rfl, rfl, rfl⟩)
  generalize (⟨N, List.replicate N zsec, fun _ => none, 0, [], [], false, 0⟩ : TD) = p0 at *
  clear HT HB2 HB3 HB HD HLT HA
  go_loopw [9, 10] (fun v i wr => ∃ (k c : Nat) (p : TD) (G : Nat → Prop), k ≤ ln ∧ k ≤ 60 ∧ i = .int .i64 k ∧ v = .int .i64 c ∧ c ≤ k ∧ Hid (TapeIs wr G t d sb mb p) ∧ Hid (RmInv N c p) ∧ Hid (∀ k, G k → w.heap.size ≤ k) ∧ Hid (Below w.heap.size w wr)) (fun _ i _ => 61 - (intOf i).toNat)
  case atStart => exact ⟨0, 0, p0, F, Nat.zero_le _, by omega, rfl, rfl, Nat.le_refl _, HT3, HINV, HF, HB03⟩
  case round =>
    obtain ⟨k, c, p, G, hkl, hk60, rfl, rfl, hck, hT, hI, hF, hB⟩ := hrel
    clear HT3 HINV HF HB03
    by_cases hlt : k < ln ∧ k < 60
    · obtain ⟨hlt, hlt60⟩ := hlt
      have hkL : k < L.length := by rw [HL.out.len]; exact hlt
      obtain ⟨b, off, rfl, hb, hc⟩ := HL.out.at' (by omega)
      obtain ⟨A', c', hcl, hrd⟩ := hc k hkL
      have hok1 := Lib.hid (OL.out _ (List.getElem_mem hkL))
      generalize hx : L[k] = x at *
      clear hx
      obtain ⟨m, hm⟩ : ∃ m, m = x.length := ⟨_, rfl⟩
      rw [← hm] at hcl hrd
      have HM := Lib.hid hm; clear hm
      have q1 := (hB.out.cell (p := ⟨b, off + k, none⟩) hb).trans hcl
      have HRr := Lib.hid (hrd.below hB.out)
      have hltI : (k : Int) < ln := by omega
      have hlt60' : (k : Int) < 60 := by omega
      have HBL := Lib.hid hb
      have HRN := Lib.hid (roomP_nonneg hT.out.ok)
      have HRL := Lib.hid (Int.le_trans (@roomP_le p) (Int.ofNat_le.2 (allB_le hT.out.small)))
      have HEC := Lib.hid (show (errA p x = 1 ∧ m = 0) ∨ (errA p x = 1 ∧ 300 < m) ∨ (errA p x = 61 ∧ 0 < m ∧ m ≤ 300 ∧ roomP p < 2 + (m : Int)) ∨ (errA p x = 0 ∧ 0 < m ∧ m ≤ 300 ∧ 2 + (m : Int) ≤ roomP p) from by
        rw [HM.out]
        rcases errA_cases p x hI.out.2.1 hI.out.2.2.1 with ⟨h1, h2⟩ | ⟨h1, h2, h3⟩ | ⟨h1, h2, h3⟩
        · have := rightB_false h2
          rcases this with h | h
          · exact .inl ⟨h1, h⟩
          · exact .inr (.inl ⟨h1, h⟩)
        · have h2' : 0 < x.length ∧ x.length ≤ 300 := by simpa [rightB] using h2
          exact .inr (.inr (.inl ⟨h1, h2'.1, h2'.2, h3⟩))
        · have h2' : 0 < x.length ∧ x.length ≤ 300 := by simpa [rightB] using h2
          exact .inr (.inr (.inr ⟨h1, h2'.1, h2'.2, h3⟩)))
      clear hc hb hcl hrd hkL
      go_wp2_with (go_at_call 23; refine (room_q t d sb mb G p _ hT.out).mono ?_; rintro e w4 ⟨rfl, j4, hw4⟩; have HB4 := Lib.hid (show Below wr.heap.size wr w4 by rw [hw4]; exact below_drewN (Below.refl _ _) _); have q4 := (HB4.out.cell (p := ⟨b, off + k, none⟩) (Nat.lt_of_lt_of_le HBL.out hB.out.size)).trans q1; have HT4 := Lib.hid (hT.out.below HB4.out); clear hw4)
      go_wp2_with fail
      refine (append_any2 t d sb mb G p A' m c' x w4 HT4.out (HRr.out.below HB4.out) hok1.out).mono ?_
      rintro e w5 hAP
      unfold AppPost at hAP
      obtain ⟨rfl, hK5, G5, hT5, hG5⟩ := hAP
      have HT5 := Lib.hid hT5
      have HF5 := Lib.hid (show ∀ k, G5 k → w.heap.size ≤ k from fun k hk => by
        rcases hG5 k hk with e | e
        · exact hF.out k e
        · have := hB.out.size; have := HB4.out.size; omega)
      have HB5 := Lib.hid ((bthen hB.out HB4.out).trans (hK5.below (B := w.heap.size) (bthen hB.out HB4.out).size hF.out))
      have q5 := (kcell hK5 (p := ⟨b, off + k, none⟩) (Nat.lt_of_lt_of_le HBL.out (bthen hB.out HB4.out).size) (fun h => by have := hF.out b h; have := HBL.out; omega)).trans q4
      clear hK5 hT5 hG5 q1 q4
      generalize hrv : roomP p = r at *
      have HRV := Lib.hid hrv; clear hrv
      have hr0 := HRN.out; have hr1 := HRL.out
      rcases HEC.out with ⟨he, hm⟩ | ⟨he, hm⟩ | ⟨he, hm, hm', hl⟩ | ⟨he, hm, hm', hl⟩
      case' inl =>
        have hm1 : ¬ (1 : Int) ≤ m := by omega
        obtain ⟨rr, hrr⟩ : ∃ rr : Int, rr = r := ⟨_, rfl⟩
        obtain ⟨c6, hc6⟩ : ∃ c6, c6 = c := ⟨_, rfl⟩
        have hp6 : appP p x = p := appP_same (by rw [he]; decide)
        have HR6 := Lib.hid (show roomP (appP p x) = rr by rw [hp6, hrr, HRV.out])
        have HI6 := Lib.hid (show RmInv N c6 (appP p x) by rw [hp6, hc6]; exact hI.out)
        have hrn : (rr != r) = false := by rw [hrr]; simp
      case' inr.inl =>
        have hm1 : (1 : Int) ≤ m := by omega
        have hm2 : decide ((m : Int) ≤ 300) = false := decide_eq_false (by omega)
        obtain ⟨rr, hrr⟩ : ∃ rr : Int, rr = r := ⟨_, rfl⟩
        obtain ⟨c6, hc6⟩ : ∃ c6, c6 = c := ⟨_, rfl⟩
        have hp6 : appP p x = p := appP_same (by rw [he]; decide)
        have HR6 := Lib.hid (show roomP (appP p x) = rr by rw [hp6, hrr, HRV.out])
        have HI6 := Lib.hid (show RmInv N c6 (appP p x) by rw [hp6, hc6]; exact hI.out)
        have hrn : (rr != r) = false := by rw [hrr]; simp
      case' inr.inr.inl =>
        have hm1 : (1 : Int) ≤ m := by omega
        have hm2 : (m : Int) ≤ 300 := by omega
        have hm3 : ¬ (m : Int) + 2 ≤ r := by omega
        have hm4 : decide ((m : Int) + 2 ≤ r) = false := decide_eq_false hm3
        obtain ⟨rr, hrr⟩ : ∃ rr : Int, rr = r := ⟨_, rfl⟩
        obtain ⟨c6, hc6⟩ : ∃ c6, c6 = c := ⟨_, rfl⟩
        have hp6 : appP p x = p := appP_same (by rw [he]; decide)
        have HR6 := Lib.hid (show roomP (appP p x) = rr by rw [hp6, hrr, HRV.out])
        have HI6 := Lib.hid (show RmInv N c6 (appP p x) by rw [hp6, hc6]; exact hI.out)
        have hrn : (rr != r) = false := by rw [hrr]; simp
      case' inr.inr.inr =>
        have hm1 : (1 : Int) ≤ m := by omega
        have hm2 : (m : Int) ≤ 300 := by omega
        have hm3 : (m : Int) + 2 ≤ r := by omega
        obtain ⟨rr, hrr⟩ : ∃ rr : Int, rr = r - m - 2 := ⟨_, rfl⟩
        obtain ⟨c6, hc6⟩ : ∃ c6, c6 = c + 1 := ⟨_, rfl⟩
        have HR6 := Lib.hid (show roomP (appP p x) = rr by rw [roomP_app hI.out.2.2.1 he, HRV.out, hrr, HM.out])
        have HI6 := Lib.hid (show RmInv N c6 (appP p x) by rw [hc6]; exact hI.out.app he)
        have hrn : (rr != r - (m : Int) - 2) = false := by rw [hrr]; simp
      all_goals
        have hck6 : c6 ≤ k + 1 := by omega
        have HC6 := Lib.hid hc6
        rw [he]
        clear he hm HEC hrr hc6
        try clear hm'
        try clear hl
        try clear hp6
        generalize appP p x = p6 at *
        have H6 := Lib.hid (show ∀ j, Calls Try.prog 23 #[.pointer (some ⟨t, 0, none⟩)] (w5.drewN j) fun e w' => e = .returned (.int .i64 rr) ∧ ∃ m, w' = (w5.drewN j).drewN m from fun j => by
          have := room_q t d sb mb G5 p6 (w5.drewN j) (HT5.out.below (below_drewN (Below.refl _ _) j))
          rw [HR6.out] at this
          exact this)
        cases h5 : ((k : Int) % 3 == 2) with
        | true =>
          go_wp2_with fail
          go_quiet (first | (go_at_call 23; with_reducible refine Calls.quiet_of (H6.out _)))
          rename_i nq
          go_wp2_with fail
          refine (commit_any t d sb mb G5 p6 _ (HT5.out.below (below_drewN (Below.refl _ _) nq)) (by rw [HI6.out.2.1]; omega)).mono ?_
          rintro e w8 ⟨rfl, hK8, G8, hT8, hG8⟩
          have HT8 := Lib.hid hT8
          have HF8 := Lib.hid (show ∀ k, G8 k → w.heap.size ≤ k from fun k hk => by
            rcases hG8 k hk with e | e
            · exact HF5.out k e
            · have := (below_drewN HB5.out nq).size; omega)
          have HB8 := Lib.hid ((below_drewN HB5.out nq).trans (hK8.below (B := w.heap.size) (below_drewN HB5.out nq).size HF5.out))
          have HI8 := Lib.hid HI6.out.commit
          clear hK8 hT8 hG8
          go_wp2
          go_roundw
          case rel => exact ⟨k + 1, c6, _, G8, by omega, by omega, by go_num, by first | (rw [HC6.out]; done) | (rw [HC6.out]; go_num), hck6, HT8, HI8, HF8, HB8⟩
          case measure => simp [intOf]; omega
        | false =>
          go_wp2_with fail
          go_quiet (first | (go_at_call 23; with_reducible refine Calls.quiet_of (H6.out _)))
          rename_i nq
          go_wp2
          go_roundw
          case rel => exact ⟨k + 1, c6, p6, G5, by omega, by omega, by go_num, by first | (rw [HC6.out]; done) | (rw [HC6.out]; go_num), hck6, Lib.hid (HT5.out.below (below_drewN (Below.refl _ _) nq)), HI6, HF5, Lib.hid (below_drewN HB5.out nq)⟩
          case measure => simp [intOf]; omega
    · have hex : (decide ((k : Int) < ln) && decide ((k : Int) < 60)) = false := by
        rw [Bool.and_eq_false_iff]; simp; omega
      clear HL
      by_cases hlt1 : k < ln
      case' pos =>
        have e60 : k = 60 := by omega
        subst e60
        have hlt2 : ((60 : Nat) : Int) < ln := by omega
        clear hlt hex hlt1
        go_wp2_with fail
      case' neg =>
        have hlt2 : ¬ (k : Int) < ln := by omega
        clear hlt hex hlt1
        go_wp2_with fail
      all_goals
        refine (commit_any t d sb mb G p _ hT.out (by rw [hI.out.2.1]; omega)).mono ?_
        rintro e w8 ⟨rfl, hK8, G8, hT8, hG8⟩
        have hI8 := hI.out.commit
        have HLEN := Lib.hid (show (commitP p).L.length = c by
          have := hI8.2.2.2
          rwa [(commit_L p hI.out.2.1 hI.out.2.2.1).2.1, List.append_nil] at this)
        have HWL := Lib.hid (show (commitP p).W.length = 0 by rw [(commit_L p hI.out.2.1 hI.out.2.2.1).2.1]; rfl)
        have HI8 := Lib.hid hI8
        have HT8 := Lib.hid hT8
        have HF8 := Lib.hid (show ∀ k, G8 k → w.heap.size ≤ k from fun k hk => by
          rcases hG8 k hk with e | e
          · exact hF.out k e
          · have := hB.out.size; omega)
        have HB8 := Lib.hid (hB.out.trans (hK8.below (B := w.heap.size) hB.out.size hF.out))
        clear hK8 hT8 hG8 hI hT hF hB hI8
        generalize commitP p = p8 at *
        have HER := Lib.hid (show errR p8 [] = 0 by unfold errR; rw [HI8.out.2.1]; simp [sizeB])
        obtain ⟨p9, hp9⟩ : ∃ p9, p9 = repP p8 [] := ⟨_, rfl⟩
        have hp9' : p9 = { p8 with W := [], fr := true } := by rw [hp9]; unfold repP; rw [if_pos HER.out]
        have H9 := Lib.hid (show p9.n = N ∧ p9.dn = 0 ∧ p9.fr = true ∧ p9.W = [] from ⟨by rw [hp9']; exact HI8.out.1, by rw [hp9']; exact HI8.out.2.1, by rw [hp9'], by rw [hp9']⟩)
        have HP9 := Lib.hid hp9
        clear hp9 hp9'
        have HEA := Lib.hid (show errA p9 [1] = 131 by unfold errA; rw [if_neg (by decide), if_pos (.inr H9.out.2.2.1)])
        have HAS := Lib.hid (show appP p9 [1] = p9 from appP_same (by rw [HEA.out]; decide))
        obtain ⟨c1, c2, c3, c4, c5⟩ := commit_Lf p9 H9.out.2.1 H9.out.2.2.1
        obtain ⟨pe, hpe⟩ : ∃ pe, pe = commitP p9 := ⟨_, rfl⟩
        have HPE := Lib.hid hpe
        have HLE := Lib.hid (show pe.L.length = 0 by rw [hpe, c1, H9.out.2.2.2]; rfl)
        have HRE := Lib.hid (show roomP pe = (allB N : Nat) by
          unfold roomP
          rw [hpe, c1, c2, c4, c5, H9.out.2.2.2, H9.out.1]
          simp [sizeB])
        clear c1 c2 c3 c4 c5 hpe
        have hq2 : (((allB N : Nat) : Int) == ((N : Int) - 1) / 2 * 64) = true := by simpa using hq
        go_wp2_with (first
          | (go_at_call 19; refine (tlen_any t d sb mb G8 p8 _ HT8.out).mono ?_; rintro e wx ⟨rfl, hwx⟩; rw [hwx, HLEN.out]; clear hwx wx)
          | (go_at_call 24; refine (waiting_any t d sb mb G8 p8 _ HT8.out).mono ?_; rintro e wx ⟨rfl, hwx⟩; rw [hwx, HWL.out]; clear hwx wx)
          | (go_at_call 25; refine (replace_any t d sb mb G8 p8 none 0 0 [] w _ HT8.out (RdBB.nil _ _) (fun x h => by cases h) (by decide) HB8.out HF8.out).mono ?_
             rintro e w9 hRP; unfold RplPost at hRP; rw [HER.out] at hRP; obtain ⟨rfl, hK9, G9, hT9, hG9⟩ := hRP
             rw [← HP9.out] at hT9
             have HT9 := Lib.hid (hT9.below (balloc (Below.refl w9.heap.size w9) (.cells #[.int .u8 1] 5)))
             have HF9 := Lib.hid (show ∀ k, G9 k → w.heap.size ≤ k from fun k hk => by
               rcases hG9 k hk with e | e
               · exact HF8.out k e
               · have := HB8.out.size; omega)
             have HB9 := Lib.hid (balloc (HB8.out.trans (hK9.below (B := w.heap.size) HB8.out.size HF8.out)) (.cells #[.int .u8 1] 5))
             clear hK9 hT9 hG9)
          | (go_at_call 17; refine (append_any2 t d sb mb G9 p9 (some ⟨w9.heap.size, 0, none⟩) 1 1 [1] _ HT9.out ⟨rfl, fun _ => ⟨w9.heap.size, 0, rfl, by simp, fun i hi => by cases i with | zero => exact (Blk.newAt w9 #[.int .u8 1] 5 w9.heap.size rfl).cell 0 | succ i => (simp at hi)⟩⟩ (by intro x hx; rw [List.mem_singleton.1 hx]; omega)).mono ?_
             rintro e w10 hAP; unfold AppPost at hAP; rw [HEA.out, HAS.out] at hAP; obtain ⟨rfl, hK10, G10, hT10, hG10⟩ := hAP
             have HT10 := Lib.hid hT10
             have HF10 := Lib.hid (show ∀ k, G10 k → w.heap.size ≤ k from fun k hk => by
               rcases hG10 k hk with e | e
               · exact HF9.out k e
               · have := HB9.out.size; omega)
             have HB10 := Lib.hid (HB9.out.trans (hK10.below (B := w.heap.size) HB9.out.size HF9.out))
             clear hK10 hT10 hG10)
          | (go_at_call 18; refine (commit_any t d sb mb G10 p9 _ HT10.out (by rw [H9.out.2.1]; omega)).mono ?_
             rintro e w11 ⟨rfl, hK11, G11, hT11, hG11⟩
             rw [← HPE.out] at hT11
             have HT11 := Lib.hid hT11
             have HB11 := Lib.hid (HB10.out.trans (hK11.below (B := w.heap.size) HB10.out.size HF10.out))
             clear hK11 hT11 hG11))
        refine (talive_any _).mono ?_
        rintro e w12 ⟨rfl, hb12⟩
        have HT12 := Lib.hid (HT11.out.below hb12)
        have HB12 := Lib.hid (bthen HB11.out hb12)
        clear hb12
        go_wp2_with (first
          | (go_at_call 19; refine (tlen_any t d sb mb G11 pe _ HT12.out).mono ?_; rintro e wx ⟨rfl, hwx⟩; rw [hwx, HLE.out]; clear hwx wx)
          | (go_at_call 23; refine (room_any t d sb mb G11 pe _ HT12.out).mono ?_; rintro e w13 ⟨rfl, hb13⟩; rw [HRE.out]; have HB13 := Lib.hid (bthen HB12.out hb13); clear hb13))
        go_ret
        exact ⟨by first | rfl | simp [hq2], HB13.out⟩
end Go.Proofs.Ytlgimhhhlpmjcaa
