/- The tape: split. -/
import Derived.Test.YtlgimhhhlpmjcaaTapG
set_option linter.unusedVariables false
set_option linter.unusedSimpArgs false
namespace Go.Proofs.Ytlgimhhhlpmjcaa
open Go.RowKit Go.Maps Go.WideMaps Go.Shelf

def lenV : Value → Nat
  | .slice _ n _ => n
  | _ => 0
theorem lenV_slice (A : Option Addr) (n c : Nat) : lenV (.slice A n c) = n := rfl
theorem RdU8.cut {w : World} {b off n : Nat} {xs : Bs} (h : RdU8 w (some ⟨b, off, none⟩) n xs) (i m : Nat) (hm : i + m ≤ n) : RdU8 w (some ⟨b, off + i, none⟩) m ((xs.drop i).take m) := by
  have hl := h.len
  refine ⟨by simp; omega, fun h0 => ?_⟩
  obtain ⟨b', off', e, hlt, hc⟩ := h.at' (by omega)
  cases e
  refine ⟨b, off + i, rfl, hlt, fun j hj => ?_⟩
  have hj' : j < m := by simp at hj; omega
  rw [Nat.add_assoc, hc (i + j) (by omega)]
  simp
theorem RdU8.cut0 {w : World} {A : Option Addr} {n : Nat} {xs : Bs} (h : RdU8 w A n xs) (m : Nat) (hm : m ≤ n) : RdU8 w A m (xs.take m) := by
  have hl := h.len
  refine ⟨by simp; omega, fun h0 => ?_⟩
  obtain ⟨b', off', e, hlt, hc⟩ := h.at' (by omega)
  refine ⟨b', off', e, hlt, fun j hj => ?_⟩
  rw [hc j (by simp at hj; omega)]
  simp

/-- Blocks of the call's own. -/
def NewF (w w' : World) : Nat → Prop := fun g => w.heap.size ≤ g ∧ g < w'.heap.size
def SplitPost (w : World) (r : Option (List Bs)) (e : Ending) (w' : World) : Prop :=
  Below w.heap.size w w' ∧ match r with
    | none => e = .returned (.tuple #[.slice none 0 0, .bool false])
    | some L => ∃ v, e = .returned (.tuple #[v, .bool true]) ∧ RowR w' (NewF w w') v L

theorem splitB_short {f : Nat} {r : Bs} (h0 : 0 < r.length) (h : r.length < 2) (hf : r.length ≤ f) : splitB f r = none := by
  match f, r, h0 with
  | f + 1, a :: r, _ => rw [splitB, if_pos h]
  | 0, a :: r, _ => simp at hf
theorem splitB_bad {f : Nat} {r : Bs} {m : Nat} (h0 : 2 ≤ r.length) (hf : r.length ≤ f) (hm : numB (r.take 2) = m) (hb : (r.length : Int) - 2 < m ∨ rightB ((r.drop 2).take m) = false) : splitB f r = none := by
  match f, r, h0 with
  | f + 1, a :: r, h0 =>
    rw [splitB, if_neg (by omega), hm]
    rw [if_pos (by simpa using hb)]
  | 0, a :: r, _ => simp at hf
theorem splitB_good {f : Nat} {r : Bs} {m : Nat} (h0 : 2 ≤ r.length) (hf : r.length ≤ f) (hm : numB (r.take 2) = m) (hb : ¬ (r.length : Int) - 2 < m) (hr : rightB ((r.drop 2).take m) = true) : splitB f r = (splitB (f - 1) (r.drop (2 + m))).map ((r.drop 2).take m :: ·) := by
  match f, r, h0 with
  | f + 1, a :: r, h0 =>
    rw [splitB, if_neg (by omega), hm]
    rw [if_neg (by simp only [Int.toNat_natCast]; rw [hr]; simp only [Bool.true_eq_false, or_false]; exact hb)]
    simp
  | 0, a :: r, _ => simp at hf

set_option maxRecDepth 100000 in
set_option maxHeartbeats 2000000 in
theorem split_any (A : Option Addr) (n c : Nat) (xs : Bs) (w : World) (h : RdU8 w A n xs) (hb : okB xs) (hn : n ≤ 100000) (hc : n ≤ c) (hcm : c ≤ maxLen) :
    Calls Try.prog 51 #[.slice A n c] w (SplitPost w (splitB n xs)) := by
  have hl := h.len
  subst hl
  unfold maxLen at hcm
  generalize hS : splitB xs.length xs = R
  have HS := Lib.hid hS; clear hS
  go_enter Try.func51, Try.ntmps51
  go_wp2
  go_loopw [0, 4] (fun b o wr => ∃ (r : Bs) (A' : Option Addr) (c' f : Nat) (L : List Bs), b = .slice A' r.length c' ∧ r.length ≤ c' ∧ c' ≤ c ∧ r.length ≤ f ∧ sizeB L + r.length ≤ xs.length ∧ Hid (RdU8 w A' r.length r) ∧ Hid (okB r) ∧ Hid (R = (splitB f r).map (L ++ ·)) ∧ Hid (RowR wr (NewF w wr) o L) ∧ Hid (Below w.heap.size w wr)) (fun b _ _ => lenV b)
  case atStart => exact ⟨xs, A, c, xs.length, [], rfl, hc, Nat.le_refl _, Nat.le_refl _, by simp [sizeB], Lib.hid h, Lib.hid hb, Lib.hid (by rw [← HS.out]; simp), Lib.hid (RowR.nil _ _), Lib.hid (Below.refl _ _)⟩
  case round =>
    obtain ⟨r, A', c', f, L, rfl, hrc, hcc, hrf, hsz, hR, hok, hSp, hO, hB⟩ := hrel
    obtain ⟨va, vc, rfl⟩ := hO.out.form
    have hLs := sizeB_len L
    by_cases h0 : r.length = 0
    · have hr : r = [] := List.eq_nil_of_length_eq_zero h0
      subst hr
      have hRL : Hid (R = some L) := Lib.hid (by rw [hSp.out]; cases f <;> simp [splitB])
      clear hSp
      go_wp2
      go_ret2
      unfold SplitPost
      rw [hRL.out]
      exact ⟨hB.out, _, rfl, hO.out⟩
    · by_cases h2 : r.length < 2
      · have hRL : Hid (R = none) := Lib.hid (by rw [hSp.out, splitB_short (by omega) h2 hrf]; rfl)
        clear hSp
        go_wp2
        go_ret2
        unfold SplitPost
        rw [hRL.out]
        exact ⟨hB.out, rfl⟩
      · obtain ⟨b, off, rfl, hblt, hcells⟩ := hR.out.at' (by omega)
        have hRr := Lib.hid (hR.out.below hB.out)
        clear hcells hblt
        have hnn := numB_nonneg (okB_take hok.out 2)
        have hnl := numB_lt _ (okB_take hok.out 2)
        rw [show (r.take 2).length = 2 by simp; omega] at hnl
        obtain ⟨m, hm⟩ : ∃ m : Nat, numB (r.take 2) = m := ⟨(numB (r.take 2)).toNat, by omega⟩
        have hm2 : m < 65536 := by omega
        have HM := Lib.hid hm
        have hr2 := Lib.hid (hRr.out.cut0 2 (by omega))
        clear hnn hnl hm
        by_cases hbig : (r.length : Int) - 2 < m
        · have hRL : Hid (R = none) := Lib.hid (by rw [hSp.out, splitB_bad (by omega) hrf HM.out (.inl hbig)]; rfl)
          clear hSp
          go_wp2_with (go_at_call 48; refine (number_any _ 2 _ _ _ hr2.out (by omega) (okB_take hok.out 2)).mono ?_; rintro e w1 ⟨rfl, rfl⟩; rw [HM.out])
          go_ret2
          unfold SplitPost
          rw [hRL.out]
          exact ⟨hB.out, rfl⟩
        · have hlm : m + 2 ≤ r.length := by omega
          by_cases hri : 0 < m ∧ m ≤ 300
          · obtain ⟨hm0, hm3⟩ := hri
            have hc2 : ¬ c' = 2 := by omega
            have hlen2 : ((r.drop 2).take m).length = m := by simp; omega
            have hright : rightB ((r.drop 2).take m) = true := by simp [rightB, hlen2, hm0, hm3]
            have hrec := Lib.hid (hRr.out.cut 2 m (by omega))
            have hSp2 : Hid (R = (splitB (f - 1) (r.drop (2 + m))).map ((L ++ [(r.drop 2).take m]) ++ ·)) := Lib.hid (by rw [hSp.out, splitB_good (by omega) hrf HM.out hbig hright, Option.map_map]; congr 1; funext l; simp)
            have hrest : Hid (RdU8 w (some ⟨b, off + (2 + m), none⟩) (r.drop (2 + m)).length (r.drop (2 + m))) := Lib.hid (by
              have := hR.out.cut (2 + m) (r.length - (2 + m)) (by omega)
              rw [List.take_of_length_le (by simp)] at this
              simpa using this)
            have hwm : wrap64 (2 + (m : Int)) = 2 + m := by unfold wrap64; omega
            clear hSp hbig
            go_wp2_with (first
              | (go_at_call 48; refine (number_any _ 2 _ _ _ hr2.out (by omega) (okB_take hok.out 2)).mono ?_; rintro e w1 ⟨rfl, rfl⟩; rw [HM.out])
              | (go_at_call 53; refine (right_any _ _ _ _ (by omega)).mono ?_; rintro e w1 ⟨rfl, rfl⟩; rw [show (decide (0 < m) && decide (m ≤ 300)) = true by simp [hm0, hm3]]))
            refine (clone_any _ m _ _ _ hrec.out (by omega) (fun h => by cases h)).mono ?_
            rintro e w3 ⟨v3, rfl, O3, B3⟩
            obtain ⟨a3, c3, rfl⟩ := O3.form
            rw [hlen2] at O3 ⊢
            have hz3 := B3.size
            have hz1 := hB.out.size
            have U5 : RecIs (w3.alloc (.cells #[.slice a3 m c3] 31)) (NewF w (w3.alloc (.cells #[.slice a3 m c3] 31))) (.slice a3 m c3) ((r.drop 2).take m) :=
              ((RecIs.of O3 (by omega) (fun g h1 h2 => ⟨by omega, by simp; omega⟩) : RecIs w3 (NewF w (w3.alloc (.cells #[.slice a3 m c3] 31))) _ _)).keep (fun g cs fr hg hb => Below.heap_alloc _ _ _ (Array.getElem?_eq_some_iff.1 hb).1)
            have H5 : RowR (w3.alloc (.cells #[.slice a3 m c3] 31)) (NewF w (w3.alloc (.cells #[.slice a3 m c3] 31))) (.slice va L.length vc) L :=
              (hO.out.same (fun g hg => (Below.heap_alloc _ _ _ (Nat.lt_of_lt_of_le hg.2 hz3)).trans (B3.block g hg.2))).mono (fun g hg => ⟨hg.1, by simp; have := hg.2; omega⟩)
            have HU5 := Lib.hid U5; have HH5 := Lib.hid H5
            obtain ⟨⟨vs, O5, V5⟩, F5⟩ := H5
            have hvl : vs.length = L.length := by have := O5.1; omega
            have HO5 := Lib.hid O5; have HV5 := Lib.hid V5; have HVL := Lib.hid hvl
            have hone : (Value.slice a3 m c3).oneCell' = true := rfl
            have BW : Below w.heap.size w (w3.alloc (.cells #[.slice a3 m c3] 31)) := balloc (bthen hB.out B3) _
            have HBW := Lib.hid BW
            clear O3 B3 U5 O5 V5 F5 hvl BW hO
            have hL1 : L.length ≤ 100000 := by omega
            go_wp2_with (at_builtin; refine list_app2 rfl (.tmp 28) (.tmp 34) 22 rfl 0 31 (.slice none 0 0) 24 bbInfo Try.underlying22 rfl _ L.length vs rfl HO5.out ⟨w3.heap.size, 0, none⟩ 1 1 [.slice a3 m c3] rfl rfl ?_ ?_ ?_ ?_ ?_ ?_ ?_; (intro i u hu; match i, hu with | 0, hu => (simp at hu; subst hu; exact (Blk.newAt w3 #[.slice a3 m c3] 31 w3.heap.size rfl).cell 0)); (intro u hu; simp at hu; subst hu; rfl); (omega); (unfold maxLen; omega); (omega); (omega); intro v6 w6 O6 G6 N6; obtain ⟨va6, vc6, rfl⟩ := row_form O6; have HS6 := Lib.hid (HH5.out.snoc (F' := NewF w w6) HV5.out HVL.out HU5.out O6 G6 N6 (fun g hg => ⟨hg.1, Nat.lt_of_lt_of_le hg.2 G6.size⟩) (fun g h1 h2 => ⟨by simp at h1; omega, h2⟩) (fun g hg => hg.2)); have HB6 := Lib.hid (HBW.out.grown G6 HBW.out.size (fun j hj => by have := HH5.out.foot j hj; exact this.1)); clear O6 G6 N6)
            have hdl : (r.drop (2 + m)).length = r.length - (2 + m) := by simp
            go_roundw
            case rel =>
              refine ⟨r.drop (2 + m), _, c' - (2 + m), f - 1, L ++ [(r.drop 2).take m], by rw [hdl], by omega, by omega, by omega, ?_, Lib.hid ?_, Lib.hid (okB_drop hok.out _), hSp2, ?_, HB6⟩
              · rw [sizeB_append, sizeB_one, hlen2]; omega
              · by_cases hc : c' = 2 + m
                · rw [if_pos hc, List.drop_of_length_le (by omega)]; exact RdU8.nil _ _
                · rw [if_neg hc]; exact hrest.out
              · simpa using HS6
            case measure => rw [lenV_slice, lenV_slice]; omega
          · have hright : rightB ((r.drop 2).take m) = false := by
              have hlen2 : ((r.drop 2).take m).length = m := by simp; omega
              simp [rightB, hlen2]; omega
            have hRL : Hid (R = none) := Lib.hid (by rw [hSp.out, splitB_bad (by omega) hrf HM.out (.inr hright)]; rfl)
            have hrr : (decide (0 < m) && decide (m ≤ 300)) = false := by simp; omega
            have HRR := Lib.hid hrr
            have hwm : wrap64 (2 + (m : Int)) = 2 + m := by unfold wrap64; omega
            clear hSp hri hrr
            by_cases hc2 : c' = 2
            · go_wp2_with (first
                | (go_at_call 48; refine (number_any _ 2 _ _ _ hr2.out (by omega) (okB_take hok.out 2)).mono ?_; rintro e w1 ⟨rfl, rfl⟩; rw [HM.out])
                | (go_at_call 53; refine (right_any _ _ _ _ (by omega)).mono ?_; rintro e w1 ⟨rfl, rfl⟩; rw [HRR.out]))
              go_ret2
              unfold SplitPost
              rw [hRL.out]
              exact ⟨hB.out, rfl⟩
            · go_wp2_with (first
                | (go_at_call 48; refine (number_any _ 2 _ _ _ hr2.out (by omega) (okB_take hok.out 2)).mono ?_; rintro e w1 ⟨rfl, rfl⟩; rw [HM.out])
                | (go_at_call 53; refine (right_any _ _ _ _ (by omega)).mono ?_; rintro e w1 ⟨rfl, rfl⟩; rw [HRR.out]))
              go_ret2
              unfold SplitPost
              rw [hRL.out]
              exact ⟨hB.out, rfl⟩
end Go.Proofs.Ytlgimhhhlpmjcaa
