/- The tape: Step, Commit. -/
import Derived.Test.YtlgimhhhlpmjcaaTapU
import Derived.Deep.LoopGhost
set_option linter.unusedVariables false
set_option linter.unusedSimpArgs false
namespace Go.Proofs.Ytlgimhhhlpmjcaa
open Go.RowKit Go.Maps Go.WideMaps Go.Shelf

def incP (p : TD) : TD := { p with dn := p.dn + 1 }
def emptyP (p : TD) : Bool := !p.fr && decide (p.W.length = 0)
def stepP (p : TD) : TD :=
  if emptyP p = true then p
  else match p.dn with
    | 0 => layP (incP p)
    | 1 => flushP (incP p)
    | 2 => markP (incP p)
    | _ => endP (flushP (incP p))
def doneP (p : TD) : Bool := emptyP p || decide (3 ≤ p.dn)
theorem tape_inc {w : World} {F : Nat → Prop} {t d sb mb : Nat} {p : TD} (H : TapeIs w F t d sb mb p) (h3 : p.dn ≤ 3) (he : emptyP p = false) : TapeIs (w.setCell ⟨t, 6, none⟩ (.int .i64 ((p.dn : Int) + 1))) F t d sb mb (incP p) := by
  obtain ⟨h1, ⟨cv, wv, b1, b2, b3, b4⟩, hD, h4, h5, h6, h7, h8⟩ := H
  obtain ⟨dt1, dt2, dt3⟩ := hD.ne_blk b1 (by decide) (by decide)
  have hu8 : ∀ g cs fr, F g → w.heap[g]? = some (.cells cs 5 fr) → (w.setCell ⟨t, 6, none⟩ (.int .i64 ((p.dn : Int) + 1))).heap[g]? = w.heap[g]? := fun g cs fr _ hb => Below.heap_setCell _ _ _ _ (fun e => by
    have e' : g = t := e
    subst e'
    rw [show w.heap[g]? = _ from b1] at hb; simp at hb)
  have hact : p.fr = true ∨ p.W ≠ [] := by
    unfold emptyP at he
    cases hf : p.fr with
    | true => exact .inl rfl
    | false =>
      rw [hf] at he
      right
      intro hw
      rw [hw] at he
      simp at he
  refine ⟨fun k hk => by simpa [World.setCell] using h1 k hk, ⟨cv, wv, ?_, b2.keep (fun g hg => Below.heap_setCell _ _ _ _ (b2.ne_blk hg b1 (by decide))) hu8, b3.keep (fun g hg => Below.heap_setCell _ _ _ _ (b3.ne_blk hg b1 (by decide))) hu8, b4⟩, hD.keep (Below.heap_setCell _ _ _ _ (by exact dt1.symm)) (Below.heap_setCell _ _ _ _ (by exact dt2.symm)) (Below.heap_setCell _ _ _ _ (by exact dt3.symm)), h4, h5, h6, h7, ⟨h8.n3, h8.h1, by show p.dn + 1 ≤ 4; omega, h8.rl, h8.rw, h8.fitL, h8.fitW, fun _ => hact⟩⟩
  have := b1.set 6 (.int .i64 ((p.dn : Int) + 1))
  have e : ((p.dn + 1 : Nat) : Int) = (p.dn : Int) + 1 := by omega
  show Blk _ t (TC d p.h cv (sizeB p.L) wv p.fr (p.dn + 1)) _
  unfold TC
  rw [e]
  exact this
def StepPost (w : World) (F : Nat → Prop) (t d sb mb : Nat) (p : TD) (e : Ending) (w' : World) : Prop := e = .returned (.tuple #[.bool (doneP p), .int .i64 0]) ∧ TPost w F t d sb mb (stepP p) w'

theorem step_nil (w : World) : Calls Try.prog 27 #[.pointer none] w fun e w' => e = .returned (.tuple #[.bool false, .int .i64 1]) ∧ w' = w := by
  go_enter Try.func27, Try.ntmps27
  go_wp2
  go_ret2
  exact ⟨rfl, rfl⟩
theorem commit_nil (w : World) : Calls Try.prog 18 #[.pointer none] w fun e w' => e = .returned (.int .i64 1) ∧ w' = w := by
  go_enter Try.func18, Try.ntmps18
  go_wp2
  go_loopg [3] 1 (fun m s3 wr => wr = w)
  case atStart => exact rfl
  case round =>
    obtain rfl := hrel
    go_wp2_with (go_at_call 27; refine (step_nil _).mono ?_; rintro e w1 ⟨rfl, hw1⟩; rw [hw1]; clear hw1 w1)
    go_ret
    exact ⟨rfl, rfl⟩

set_option maxRecDepth 100000 in
set_option maxHeartbeats 4000000 in
theorem step_fr (t d sb mb : Nat) (F : Nat → Prop) (p : TD) (w : World) (H : TapeIs w F t d sb mb p) (h3 : p.dn ≤ 3) (hf : p.fr = true) :
    Calls Try.prog 27 #[.pointer (some ⟨t, 0, none⟩)] w (StepPost w F t d sb mb p) := by
    have HH := Lib.hid H
    obtain ⟨A, c, A', c', K, _⟩ := H.open
    have k4 := K.cell 4; have k5 := K.cell 5; have k6 := K.cell 6; have f6 := K.fr 6
    simp [TC] at k4 k5 k6
    have tl := K.lt
    clear H
    have HE : Hid (emptyP p = false) := Lib.hid (by unfold emptyP; rw [hf]; rfl)
    rw [hf] at k5
    clear hf
    have hne : t ≠ w.heap.size := by omega
    have hne' : w.heap.size ≠ t := by omega
    have HKW : Hid (∀ u : Value, Kept w ((w.setCell ⟨t, 6, none⟩ u).alloc (.cells #[.func (.func 58) #[.pointer (some ⟨t, 0, none⟩)] #[], .func (.func 59) #[.pointer (some ⟨t, 0, none⟩)] #[], .func (.func 60) #[.pointer (some ⟨t, 0, none⟩)] #[], .func (.func 61) #[.pointer (some ⟨t, 0, none⟩)] #[]] 1)) F) := Lib.hid (fun u => ((Kept.refl w F).set (p := ⟨t, 6, none⟩) HH.out.ft u).alloc _)
    go_enter Try.func27, Try.ntmps27
    have hdc : p.dn = 0 ∨ p.dn = 1 ∨ p.dn = 2 ∨ p.dn = 3 := by omega
    clear K h3
    rcases hdc with hd | hd | hd | hd
    · have hst : stepP p = layP (incP p) := by unfold stepP; rw [if_neg (by rw [HE.out]; simp), hd]; first | done | rfl
      have hdn : doneP p = false := by unfold doneP; rw [HE.out, hd]; rfl
      have HST := Lib.hid hst; have HDN := Lib.hid hdn; clear hst hdn
      have H2 := (tape_inc HH.out (by rw [hd]; omega) HE.out).below (balloc (Below.refl _ _) (.cells #[.func (.func 58) #[.pointer (some ⟨t, 0, none⟩)] #[], .func (.func 59) #[.pointer (some ⟨t, 0, none⟩)] #[], .func (.func 60) #[.pointer (some ⟨t, 0, none⟩)] #[], .func (.func 61) #[.pointer (some ⟨t, 0, none⟩)] #[]] 1))
      rw [hd] at k6
      rw [hd] at H2
      have HH2 := Lib.hid (show TapeIs ((w.setCell ⟨t, 6, none⟩ (.int .i64 1)).alloc (.cells #[.func (.func 58) #[.pointer (some ⟨t, 0, none⟩)] #[], .func (.func 59) #[.pointer (some ⟨t, 0, none⟩)] #[], .func (.func 60) #[.pointer (some ⟨t, 0, none⟩)] #[], .func (.func 61) #[.pointer (some ⟨t, 0, none⟩)] #[]] 1)) F t d sb mb (incP p) from H2)
      clear H2
      have hd' := Lib.hid hd; clear hd
      go_wp2_with fail
      refine (lay_any t d sb mb F (incP p) _ HH2.out).mono ?_
      rintro e w3 ⟨⟨v3, rfl⟩, hT⟩
      obtain ⟨hK3, F3, H3, hF3⟩ := hT
      obtain ⟨cA, cc, cA', cc', K3, _⟩ := H3.open
      have k36 := K3.cell 6; have l3 := K3.lt
      simp only [TC, List.getElem?_toArray, List.getElem?_cons_zero, List.getElem?_cons_succ] at k36
      have hdn3 : (layP (incP p)).dn = 1 := by first | rfl | (show p.dn + 1 = _; have := hd'.out; omega)
      rw [hdn3] at k36
      simp at k36
      have HK3 := Lib.hid hK3; have HH3 := Lib.hid H3; have HF3 := Lib.hid hF3; clear hK3 H3 hF3 K3
      go_wp2
      go_ret2
      refine ⟨by rw [HDN.out]; rfl, ?_⟩
      rw [HST.out]
      refine TPost.trans (F1 := F) (HKW.out _) (fun k hk => .inl hk) ⟨HK3.out, F3, HH3.out, HF3.out⟩
    · have hst : stepP p = flushP (incP p) := by unfold stepP; rw [if_neg (by rw [HE.out]; simp), hd]; first | done | rfl
      have hdn : doneP p = false := by unfold doneP; rw [HE.out, hd]; rfl
      have HST := Lib.hid hst; have HDN := Lib.hid hdn; clear hst hdn
      have H2 := (tape_inc HH.out (by rw [hd]; omega) HE.out).below (balloc (Below.refl _ _) (.cells #[.func (.func 58) #[.pointer (some ⟨t, 0, none⟩)] #[], .func (.func 59) #[.pointer (some ⟨t, 0, none⟩)] #[], .func (.func 60) #[.pointer (some ⟨t, 0, none⟩)] #[], .func (.func 61) #[.pointer (some ⟨t, 0, none⟩)] #[]] 1))
      rw [hd] at k6
      rw [hd] at H2
      have HH2 := Lib.hid (show TapeIs ((w.setCell ⟨t, 6, none⟩ (.int .i64 2)).alloc (.cells #[.func (.func 58) #[.pointer (some ⟨t, 0, none⟩)] #[], .func (.func 59) #[.pointer (some ⟨t, 0, none⟩)] #[], .func (.func 60) #[.pointer (some ⟨t, 0, none⟩)] #[], .func (.func 61) #[.pointer (some ⟨t, 0, none⟩)] #[]] 1)) F t d sb mb (incP p) from H2)
      clear H2
      have hd' := Lib.hid hd; clear hd
      go_wp2_with fail
      refine (tflush_any t d sb mb F (incP p) _ HH2.out).mono ?_
      rintro e w3 ⟨rfl, hT⟩
      obtain ⟨hK3, F3, H3, hF3⟩ := hT
      obtain ⟨cA, cc, cA', cc', K3, _⟩ := H3.open
      have k36 := K3.cell 6; have l3 := K3.lt
      simp only [TC, List.getElem?_toArray, List.getElem?_cons_zero, List.getElem?_cons_succ] at k36
      have hdn3 : (flushP (incP p)).dn = 2 := by first | rfl | (show p.dn + 1 = _; have := hd'.out; omega)
      rw [hdn3] at k36
      simp at k36
      have HK3 := Lib.hid hK3; have HH3 := Lib.hid H3; have HF3 := Lib.hid hF3; clear hK3 H3 hF3 K3
      go_wp2
      go_ret2
      refine ⟨by rw [HDN.out]; rfl, ?_⟩
      rw [HST.out]
      refine TPost.trans (F1 := F) (HKW.out _) (fun k hk => .inl hk) ⟨HK3.out, F3, HH3.out, HF3.out⟩
    · have hst : stepP p = markP (incP p) := by unfold stepP; rw [if_neg (by rw [HE.out]; simp), hd]; first | done | rfl
      have hdn : doneP p = false := by unfold doneP; rw [HE.out, hd]; rfl
      have HST := Lib.hid hst; have HDN := Lib.hid hdn; clear hst hdn
      have H2 := (tape_inc HH.out (by rw [hd]; omega) HE.out).below (balloc (Below.refl _ _) (.cells #[.func (.func 58) #[.pointer (some ⟨t, 0, none⟩)] #[], .func (.func 59) #[.pointer (some ⟨t, 0, none⟩)] #[], .func (.func 60) #[.pointer (some ⟨t, 0, none⟩)] #[], .func (.func 61) #[.pointer (some ⟨t, 0, none⟩)] #[]] 1))
      rw [hd] at k6
      rw [hd] at H2
      have HH2 := Lib.hid (show TapeIs ((w.setCell ⟨t, 6, none⟩ (.int .i64 3)).alloc (.cells #[.func (.func 58) #[.pointer (some ⟨t, 0, none⟩)] #[], .func (.func 59) #[.pointer (some ⟨t, 0, none⟩)] #[], .func (.func 60) #[.pointer (some ⟨t, 0, none⟩)] #[], .func (.func 61) #[.pointer (some ⟨t, 0, none⟩)] #[]] 1)) F t d sb mb (incP p) from H2)
      clear H2
      have hd' := Lib.hid hd; clear hd
      go_wp2_with fail
      refine (mark_any t d sb mb F (incP p) _ HH2.out).mono ?_
      rintro e w3 ⟨rfl, hT⟩
      obtain ⟨hK3, F3, H3, hF3⟩ := hT
      obtain ⟨cA, cc, cA', cc', K3, _⟩ := H3.open
      have k36 := K3.cell 6; have l3 := K3.lt
      simp only [TC, List.getElem?_toArray, List.getElem?_cons_zero, List.getElem?_cons_succ] at k36
      have hdn3 : (markP (incP p)).dn = 3 := by first | rfl | (show p.dn + 1 = _; have := hd'.out; omega)
      rw [hdn3] at k36
      simp at k36
      have HK3 := Lib.hid hK3; have HH3 := Lib.hid H3; have HF3 := Lib.hid hF3; clear hK3 H3 hF3 K3
      go_wp2
      go_ret2
      refine ⟨by rw [HDN.out]; rfl, ?_⟩
      rw [HST.out]
      refine TPost.trans (F1 := F) (HKW.out _) (fun k hk => .inl hk) ⟨HK3.out, F3, HH3.out, HF3.out⟩
    · have hst : stepP p = endP (flushP (incP p)) := by unfold stepP; rw [if_neg (by rw [HE.out]; simp), hd]; first | done | rfl
      have hdn : doneP p = true := by unfold doneP; rw [HE.out, hd]; rfl
      have HST := Lib.hid hst; have HDN := Lib.hid hdn; clear hst hdn
      have H2 := (tape_inc HH.out (by rw [hd]; omega) HE.out).below (balloc (Below.refl _ _) (.cells #[.func (.func 58) #[.pointer (some ⟨t, 0, none⟩)] #[], .func (.func 59) #[.pointer (some ⟨t, 0, none⟩)] #[], .func (.func 60) #[.pointer (some ⟨t, 0, none⟩)] #[], .func (.func 61) #[.pointer (some ⟨t, 0, none⟩)] #[]] 1))
      rw [hd] at k6
      rw [hd] at H2
      have HH2 := Lib.hid (show TapeIs ((w.setCell ⟨t, 6, none⟩ (.int .i64 4)).alloc (.cells #[.func (.func 58) #[.pointer (some ⟨t, 0, none⟩)] #[], .func (.func 59) #[.pointer (some ⟨t, 0, none⟩)] #[], .func (.func 60) #[.pointer (some ⟨t, 0, none⟩)] #[], .func (.func 61) #[.pointer (some ⟨t, 0, none⟩)] #[]] 1)) F t d sb mb (incP p) from H2)
      clear H2
      have hd' := Lib.hid hd; clear hd
      go_wp2_with fail
      refine (end_any t d sb mb F (incP p) _ HH2.out).mono ?_
      rintro e w3 ⟨rfl, hT⟩
      obtain ⟨hK3, F3, H3, hF3⟩ := hT
      obtain ⟨cA, cc, cA', cc', K3, _⟩ := H3.open
      have k36 := K3.cell 6; have l3 := K3.lt
      simp only [TC, List.getElem?_toArray, List.getElem?_cons_zero, List.getElem?_cons_succ] at k36
      have hdn3 : (endP (flushP (incP p))).dn = 0 := by first | rfl | (show p.dn + 1 = _; have := hd'.out; omega)
      rw [hdn3] at k36
      simp at k36
      have HK3 := Lib.hid hK3; have HH3 := Lib.hid H3; have HF3 := Lib.hid hF3; clear hK3 H3 hF3 K3
      go_wp2
      go_ret2
      refine ⟨by rw [HDN.out]; rfl, ?_⟩
      rw [HST.out]
      refine TPost.trans (F1 := F) (HKW.out _) (fun k hk => .inl hk) ⟨HK3.out, F3, HH3.out, HF3.out⟩

set_option maxRecDepth 100000 in
set_option maxHeartbeats 4000000 in
theorem step_wt (t d sb mb : Nat) (F : Nat → Prop) (p : TD) (w : World) (H : TapeIs w F t d sb mb p) (h3 : p.dn ≤ 3) (hf : p.fr = false) (hw : ¬ p.W.length = 0) :
    Calls Try.prog 27 #[.pointer (some ⟨t, 0, none⟩)] w (StepPost w F t d sb mb p) := by
    have HH := Lib.hid H
    obtain ⟨A, c, A', c', K, _⟩ := H.open
    have k4 := K.cell 4; have k5 := K.cell 5; have k6 := K.cell 6; have f6 := K.fr 6
    simp [TC] at k4 k5 k6
    have tl := K.lt
    clear H
    have HE : Hid (emptyP p = false) := Lib.hid (by unfold emptyP; rw [hf]; simp [hw])
    rw [hf] at k5
    clear hf
    have hne : t ≠ w.heap.size := by omega
    have hne' : w.heap.size ≠ t := by omega
    have HKW : Hid (∀ u : Value, Kept w ((w.setCell ⟨t, 6, none⟩ u).alloc (.cells #[.func (.func 58) #[.pointer (some ⟨t, 0, none⟩)] #[], .func (.func 59) #[.pointer (some ⟨t, 0, none⟩)] #[], .func (.func 60) #[.pointer (some ⟨t, 0, none⟩)] #[], .func (.func 61) #[.pointer (some ⟨t, 0, none⟩)] #[]] 1)) F) := Lib.hid (fun u => ((Kept.refl w F).set (p := ⟨t, 6, none⟩) HH.out.ft u).alloc _)
    go_enter Try.func27, Try.ntmps27
    have hdc : p.dn = 0 ∨ p.dn = 1 ∨ p.dn = 2 ∨ p.dn = 3 := by omega
    clear K h3
    rcases hdc with hd | hd | hd | hd
    · have hst : stepP p = layP (incP p) := by unfold stepP; rw [if_neg (by rw [HE.out]; simp), hd]; first | done | rfl
      have hdn : doneP p = false := by unfold doneP; rw [HE.out, hd]; rfl
      have HST := Lib.hid hst; have HDN := Lib.hid hdn; clear hst hdn
      have H2 := (tape_inc HH.out (by rw [hd]; omega) HE.out).below (balloc (Below.refl _ _) (.cells #[.func (.func 58) #[.pointer (some ⟨t, 0, none⟩)] #[], .func (.func 59) #[.pointer (some ⟨t, 0, none⟩)] #[], .func (.func 60) #[.pointer (some ⟨t, 0, none⟩)] #[], .func (.func 61) #[.pointer (some ⟨t, 0, none⟩)] #[]] 1))
      rw [hd] at k6
      rw [hd] at H2
      have HH2 := Lib.hid (show TapeIs ((w.setCell ⟨t, 6, none⟩ (.int .i64 1)).alloc (.cells #[.func (.func 58) #[.pointer (some ⟨t, 0, none⟩)] #[], .func (.func 59) #[.pointer (some ⟨t, 0, none⟩)] #[], .func (.func 60) #[.pointer (some ⟨t, 0, none⟩)] #[], .func (.func 61) #[.pointer (some ⟨t, 0, none⟩)] #[]] 1)) F t d sb mb (incP p) from H2)
      clear H2
      have hd' := Lib.hid hd; clear hd
      go_wp2_with fail
      refine (lay_any t d sb mb F (incP p) _ HH2.out).mono ?_
      rintro e w3 ⟨⟨v3, rfl⟩, hT⟩
      obtain ⟨hK3, F3, H3, hF3⟩ := hT
      obtain ⟨cA, cc, cA', cc', K3, _⟩ := H3.open
      have k36 := K3.cell 6; have l3 := K3.lt
      simp only [TC, List.getElem?_toArray, List.getElem?_cons_zero, List.getElem?_cons_succ] at k36
      have hdn3 : (layP (incP p)).dn = 1 := by first | rfl | (show p.dn + 1 = _; have := hd'.out; omega)
      rw [hdn3] at k36
      simp at k36
      have HK3 := Lib.hid hK3; have HH3 := Lib.hid H3; have HF3 := Lib.hid hF3; clear hK3 H3 hF3 K3
      go_wp2
      go_ret2
      refine ⟨by rw [HDN.out]; rfl, ?_⟩
      rw [HST.out]
      refine TPost.trans (F1 := F) (HKW.out _) (fun k hk => .inl hk) ⟨HK3.out, F3, HH3.out, HF3.out⟩
    · have hst : stepP p = flushP (incP p) := by unfold stepP; rw [if_neg (by rw [HE.out]; simp), hd]; first | done | rfl
      have hdn : doneP p = false := by unfold doneP; rw [HE.out, hd]; rfl
      have HST := Lib.hid hst; have HDN := Lib.hid hdn; clear hst hdn
      have H2 := (tape_inc HH.out (by rw [hd]; omega) HE.out).below (balloc (Below.refl _ _) (.cells #[.func (.func 58) #[.pointer (some ⟨t, 0, none⟩)] #[], .func (.func 59) #[.pointer (some ⟨t, 0, none⟩)] #[], .func (.func 60) #[.pointer (some ⟨t, 0, none⟩)] #[], .func (.func 61) #[.pointer (some ⟨t, 0, none⟩)] #[]] 1))
      rw [hd] at k6
      rw [hd] at H2
      have HH2 := Lib.hid (show TapeIs ((w.setCell ⟨t, 6, none⟩ (.int .i64 2)).alloc (.cells #[.func (.func 58) #[.pointer (some ⟨t, 0, none⟩)] #[], .func (.func 59) #[.pointer (some ⟨t, 0, none⟩)] #[], .func (.func 60) #[.pointer (some ⟨t, 0, none⟩)] #[], .func (.func 61) #[.pointer (some ⟨t, 0, none⟩)] #[]] 1)) F t d sb mb (incP p) from H2)
      clear H2
      have hd' := Lib.hid hd; clear hd
      go_wp2_with fail
      refine (tflush_any t d sb mb F (incP p) _ HH2.out).mono ?_
      rintro e w3 ⟨rfl, hT⟩
      obtain ⟨hK3, F3, H3, hF3⟩ := hT
      obtain ⟨cA, cc, cA', cc', K3, _⟩ := H3.open
      have k36 := K3.cell 6; have l3 := K3.lt
      simp only [TC, List.getElem?_toArray, List.getElem?_cons_zero, List.getElem?_cons_succ] at k36
      have hdn3 : (flushP (incP p)).dn = 2 := by first | rfl | (show p.dn + 1 = _; have := hd'.out; omega)
      rw [hdn3] at k36
      simp at k36
      have HK3 := Lib.hid hK3; have HH3 := Lib.hid H3; have HF3 := Lib.hid hF3; clear hK3 H3 hF3 K3
      go_wp2
      go_ret2
      refine ⟨by rw [HDN.out]; rfl, ?_⟩
      rw [HST.out]
      refine TPost.trans (F1 := F) (HKW.out _) (fun k hk => .inl hk) ⟨HK3.out, F3, HH3.out, HF3.out⟩
    · have hst : stepP p = markP (incP p) := by unfold stepP; rw [if_neg (by rw [HE.out]; simp), hd]; first | done | rfl
      have hdn : doneP p = false := by unfold doneP; rw [HE.out, hd]; rfl
      have HST := Lib.hid hst; have HDN := Lib.hid hdn; clear hst hdn
      have H2 := (tape_inc HH.out (by rw [hd]; omega) HE.out).below (balloc (Below.refl _ _) (.cells #[.func (.func 58) #[.pointer (some ⟨t, 0, none⟩)] #[], .func (.func 59) #[.pointer (some ⟨t, 0, none⟩)] #[], .func (.func 60) #[.pointer (some ⟨t, 0, none⟩)] #[], .func (.func 61) #[.pointer (some ⟨t, 0, none⟩)] #[]] 1))
      rw [hd] at k6
      rw [hd] at H2
      have HH2 := Lib.hid (show TapeIs ((w.setCell ⟨t, 6, none⟩ (.int .i64 3)).alloc (.cells #[.func (.func 58) #[.pointer (some ⟨t, 0, none⟩)] #[], .func (.func 59) #[.pointer (some ⟨t, 0, none⟩)] #[], .func (.func 60) #[.pointer (some ⟨t, 0, none⟩)] #[], .func (.func 61) #[.pointer (some ⟨t, 0, none⟩)] #[]] 1)) F t d sb mb (incP p) from H2)
      clear H2
      have hd' := Lib.hid hd; clear hd
      go_wp2_with fail
      refine (mark_any t d sb mb F (incP p) _ HH2.out).mono ?_
      rintro e w3 ⟨rfl, hT⟩
      obtain ⟨hK3, F3, H3, hF3⟩ := hT
      obtain ⟨cA, cc, cA', cc', K3, _⟩ := H3.open
      have k36 := K3.cell 6; have l3 := K3.lt
      simp only [TC, List.getElem?_toArray, List.getElem?_cons_zero, List.getElem?_cons_succ] at k36
      have hdn3 : (markP (incP p)).dn = 3 := by first | rfl | (show p.dn + 1 = _; have := hd'.out; omega)
      rw [hdn3] at k36
      simp at k36
      have HK3 := Lib.hid hK3; have HH3 := Lib.hid H3; have HF3 := Lib.hid hF3; clear hK3 H3 hF3 K3
      go_wp2
      go_ret2
      refine ⟨by rw [HDN.out]; rfl, ?_⟩
      rw [HST.out]
      refine TPost.trans (F1 := F) (HKW.out _) (fun k hk => .inl hk) ⟨HK3.out, F3, HH3.out, HF3.out⟩
    · have hst : stepP p = endP (flushP (incP p)) := by unfold stepP; rw [if_neg (by rw [HE.out]; simp), hd]; first | done | rfl
      have hdn : doneP p = true := by unfold doneP; rw [HE.out, hd]; rfl
      have HST := Lib.hid hst; have HDN := Lib.hid hdn; clear hst hdn
      have H2 := (tape_inc HH.out (by rw [hd]; omega) HE.out).below (balloc (Below.refl _ _) (.cells #[.func (.func 58) #[.pointer (some ⟨t, 0, none⟩)] #[], .func (.func 59) #[.pointer (some ⟨t, 0, none⟩)] #[], .func (.func 60) #[.pointer (some ⟨t, 0, none⟩)] #[], .func (.func 61) #[.pointer (some ⟨t, 0, none⟩)] #[]] 1))
      rw [hd] at k6
      rw [hd] at H2
      have HH2 := Lib.hid (show TapeIs ((w.setCell ⟨t, 6, none⟩ (.int .i64 4)).alloc (.cells #[.func (.func 58) #[.pointer (some ⟨t, 0, none⟩)] #[], .func (.func 59) #[.pointer (some ⟨t, 0, none⟩)] #[], .func (.func 60) #[.pointer (some ⟨t, 0, none⟩)] #[], .func (.func 61) #[.pointer (some ⟨t, 0, none⟩)] #[]] 1)) F t d sb mb (incP p) from H2)
      clear H2
      have hd' := Lib.hid hd; clear hd
      go_wp2_with fail
      refine (end_any t d sb mb F (incP p) _ HH2.out).mono ?_
      rintro e w3 ⟨rfl, hT⟩
      obtain ⟨hK3, F3, H3, hF3⟩ := hT
      obtain ⟨cA, cc, cA', cc', K3, _⟩ := H3.open
      have k36 := K3.cell 6; have l3 := K3.lt
      simp only [TC, List.getElem?_toArray, List.getElem?_cons_zero, List.getElem?_cons_succ] at k36
      have hdn3 : (endP (flushP (incP p))).dn = 0 := by first | rfl | (show p.dn + 1 = _; have := hd'.out; omega)
      rw [hdn3] at k36
      simp at k36
      have HK3 := Lib.hid hK3; have HH3 := Lib.hid H3; have HF3 := Lib.hid hF3; clear hK3 H3 hF3 K3
      go_wp2
      go_ret2
      refine ⟨by rw [HDN.out]; rfl, ?_⟩
      rw [HST.out]
      refine TPost.trans (F1 := F) (HKW.out _) (fun k hk => .inl hk) ⟨HK3.out, F3, HH3.out, HF3.out⟩

theorem step_any (t d sb mb : Nat) (F : Nat → Prop) (p : TD) (w : World) (H : TapeIs w F t d sb mb p) (h3 : p.dn ≤ 3) :
    Calls Try.prog 27 #[.pointer (some ⟨t, 0, none⟩)] w (StepPost w F t d sb mb p) := by
  cases hf : p.fr with
  | true => exact step_fr t d sb mb F p w H h3 hf
  | false =>
    by_cases hw : p.W.length = 0
    · have HH := Lib.hid H
      obtain ⟨A, c, A', c', K, _⟩ := H.open
      have k4 := K.cell 4; have k5 := K.cell 5
      simp [TC] at k4 k5
      have tl := K.lt
      have he : emptyP p = true := by unfold emptyP; rw [hf, hw]; rfl
      have hP : StepPost w F t d sb mb p (.returned (.tuple #[.bool true, .int .i64 0])) w := by
        unfold StepPost doneP stepP
        rw [he, if_pos rfl]
        exact ⟨by simp, TPost.same HH.out (Below.refl _ _)⟩
      have HP := Lib.hid hP
      rw [hf] at k5
      rw [hw] at k4
      clear H K hf hw he hP h3
      go_enter Try.func27, Try.ntmps27
      go_wp2
      go_ret2
      exact HP.out
    · exact step_wt t d sb mb F p w H h3 hf hw
end Go.Proofs.Ytlgimhhhlpmjcaa
