/- The tape: Room in a region that draws; a record of any length. -/
import Derived.Test.YtlgimhhhlpmjcaaTapRec
set_option linter.unusedVariables false
set_option linter.unusedSimpArgs false
namespace Go.Proofs.Ytlgimhhhlpmjcaa
open Go.RowKit Go.Maps Go.WideMaps Go.Shelf

set_option maxRecDepth 100000 in
set_option maxHeartbeats 2000000 in
theorem room_q (t d sb mb : Nat) (F : Nat → Prop) (p : TD) (w : World) (H : TapeIs w F t d sb mb p) :
    Calls Try.prog 23 #[.pointer (some ⟨t, 0, none⟩)] w fun e w' => e = .returned (.int .i64 (roomP p)) ∧ ∃ m, w' = w.drewN m := by
  obtain ⟨A, c, A', c', K, R, R', _⟩ := H.open
  have k2 := K.cell 3; have k4 := K.cell 4; have k5 := K.cell 5
  simp [TC] at k2 k4 k5
  have tl := K.lt
  have hab := allB_le H.small
  have hfl := H.ok.fitL; have hfw := H.ok.fitW
  have hn := H.ok.n3
  have HTD := Lib.hid H.td
  have HRD := Lib.hid R'.rd
  have hall : ∀ k, Calls Try.prog 50 #[.pointer (some ⟨t, 0, none⟩)] (w.drewN k) fun e w' => e = .returned (.int .i64 (allB p.n : Nat)) ∧ w' = w.drewN k := fun k =>
    all_any t d sb mb p.n p.sf p.df (w.drewN k) (HTD.out.below (below_drewN (Below.refl _ _) k)) (by omega)
  have HALL := Lib.hid hall
  clear K H R R' hall
  unfold roomP
  generalize allB p.n = a at *
  generalize sizeB p.L = l at *
  have hw : sizeB p.W ≤ 32704 := by omega
  have HW := Lib.hid hw
  generalize hwv : sizeB p.W = v at *
  have HWV := Lib.hid hwv; clear hwv hfw
  go_enter Try.func23, Try.ntmps23
  go_wp2_with fail
  go_quiet (first | (go_at_call 50; with_reducible refine Calls.quiet_of_same (HALL.out _)))
  rename_i nq
  cases hfr : p.fr with
  | true =>
    rw [hfr] at k5
    go_wp2
    go_ret
    exact ⟨by simp, _, rfl⟩
  | false =>
    rw [hfr] at k5
    go_wp2_with (go_at_call 55; refine (size_any _ _ _ _ _ (HRD.out.below (below_drewN (Below.refl _ _) nq)) (by have := HWV.out; have := HW.out; omega)).mono ?_; rintro e w1 ⟨rfl, rfl⟩; rw [HWV.out])
    all_goals
      go_ret
      exact ⟨by simp, _, rfl⟩

theorem right_any2 (A : Option Addr) (n c : Nat) (w : World) :
    Calls Try.prog 53 #[.slice A n c] w fun e w' => e = .returned (.bool (decide (0 < n) && decide (n ≤ 300))) ∧ w' = w := by
  go_enter Try.func53, Try.ntmps53
  by_cases h1 : 0 < n
  · by_cases h2 : n ≤ 300
    · go_wp2
      go_ret
      exact ⟨by simp [h1, h2]; omega, rfl⟩
    · go_wp2
      go_ret
      exact ⟨by simp [h1, h2]; omega, rfl⟩
  · have : n = 0 := by omega
    subst this
    go_wp2
    go_ret
    exact ⟨rfl, rfl⟩

/-- Append, whatever the record's length. -/
theorem append_any2 (t d sb mb : Nat) (F : Nat → Prop) (p : TD) (A : Option Addr) (n c : Nat) (xs : Bs) (w : World) (H : TapeIs w F t d sb mb p) (hx : RdU8 w A n xs) (hb : okB xs) :
    Calls Try.prog 17 #[.pointer (some ⟨t, 0, none⟩), .slice A n c] w (AppPost w F t d sb mb p xs) := by
  have hl := hx.len
  have hrd : rightB xs = (decide (0 < n) && decide (n ≤ 300)) := by unfold rightB; rw [hl]
  cases hr : rightB xs with
  | false =>
    have tl := H.blk
    have hE : errA p xs = 1 := by unfold errA; rw [if_pos hr]
    have hP : AppPost w F t d sb mb p xs (.returned (.int .i64 1)) w := by
      unfold AppPost appP
      rw [hE]
      exact ⟨rfl, by rw [if_neg (by omega)]; exact TPost.same H (Below.refl _ _)⟩
    have HP := Lib.hid hP; clear hP hE tl H hx hb hl
    rw [hr] at hrd
    have HRR := Lib.hid hrd; clear hrd hr
    go_enter Try.func17, Try.ntmps17
    go_wp2_with (go_at_call 53; refine (right_any2 _ _ _ _).mono ?_; rintro e w1 ⟨rfl, rfl⟩; rw [← HRR.out])
    go_ret
    exact HP.out
  | true =>
    rw [hr] at hrd
    obtain ⟨hn0, hn3⟩ : 0 < n ∧ n ≤ 300 := by simpa using hrd.symm
    refine append_any t d sb mb F p A n c xs w H hx hb (by omega) (fun e => ?_)
    obtain ⟨b, off, e', _⟩ := hx.at' hn0
    rw [e'] at e; cases e

theorem errA_cases (p : TD) (xs : Bs) (hd : p.dn = 0) (hf : p.fr = false) :
    (errA p xs = 1 ∧ rightB xs = false) ∨ (errA p xs = 61 ∧ rightB xs = true ∧ roomP p < 2 + (xs.length : Int)) ∨ (errA p xs = 0 ∧ rightB xs = true ∧ 2 + (xs.length : Int) ≤ roomP p) := by
  unfold errA
  cases hr : rightB xs with
  | false => exact .inl ⟨by rw [if_pos rfl], rfl⟩
  | true =>
    have hn : ¬ (0 < p.dn ∨ p.fr = true) := by rw [hd, hf]; simp
    rw [if_neg (by simp), if_neg hn]
    by_cases h : roomP p < 2 + (xs.length : Int)
    · exact .inr (.inl ⟨by rw [if_pos h], rfl, h⟩)
    · exact .inr (.inr ⟨by rw [if_neg h], rfl, by omega⟩)
theorem roomP_app {p : TD} {xs : Bs} (hf : p.fr = false) (h : errA p xs = 0) : roomP (appP p xs) = roomP p - (xs.length : Int) - 2 := by
  have : appP p xs = { p with W := p.W ++ [xs] } := by unfold appP; rw [if_pos h]
  rw [this]
  unfold roomP
  show (allB p.n : Int) - sizeB p.L - (if p.fr then (0 : Int) else sizeB (p.W ++ [xs])) = (allB p.n : Int) - sizeB p.L - (if p.fr then (0 : Int) else sizeB p.W) - (xs.length : Int) - 2
  rw [hf, sizeB_append, sizeB_one]
  simp
  omega
theorem roomP_le {p : TD} : roomP p ≤ allB p.n := by
  unfold roomP
  split <;> omega
theorem roomP_nonneg {p : TD} (h : p.Ok) : 0 ≤ roomP p := by
  have h1 := h.fitL; have h2 := h.fitW
  unfold roomP
  cases hf : p.fr with
  | true => simp; omega
  | false => rw [hf] at h2; simp at h2 ⊢; omega
end Go.Proofs.Ytlgimhhhlpmjcaa
