/- The tape: Len, Waiting, Read, Room, place. -/
import Derived.Test.YtlgimhhhlpmjcaaTapK
set_option linter.unusedVariables false
set_option linter.unusedSimpArgs false
namespace Go.Proofs.Ytlgimhhhlpmjcaa
open Go.RowKit Go.Maps Go.WideMaps Go.Shelf

/-- A tape's block, and its rows. -/
theorem TapeIs.open {w : World} {F : Nat → Prop} {t d sb mb : Nat} {p : TD} (h : TapeIs w F t d sb mb p) : ∃ A c A' c', Blk w t (TC d p.h (.slice A p.L.length c) (sizeB p.L) (.slice A' p.W.length c') p.fr p.dn) 89 ∧
    RowR w F (.slice A p.L.length c) p.L ∧ RowR w F (.slice A' p.W.length c') p.W ∧ ∀ g, (Value.slice A p.L.length c).ownBlock = some g → (Value.slice A' p.W.length c').ownBlock ≠ some g := by
  obtain ⟨h1, ⟨cv, wv, b1, b2, b3, b4⟩, _⟩ := h
  obtain ⟨A, c, rfl⟩ := b2.form
  obtain ⟨A', c', rfl⟩ := b3.form
  exact ⟨A, c, A', c', b1, b2, b3, b4⟩
theorem TapeIs.small {w : World} {F : Nat → Prop} {t d sb mb : Nat} {p : TD} (h : TapeIs w F t d sb mb p) : p.n ≤ 1024 := h.disk.small

theorem tlen_any (t d sb mb : Nat) (F : Nat → Prop) (p : TD) (w : World) (H : TapeIs w F t d sb mb p) :
    Calls Try.prog 19 #[.pointer (some ⟨t, 0, none⟩)] w fun e w' => e = .returned (.int .i64 (p.L.length : Nat)) ∧ w' = w := by
  obtain ⟨A, c, A', c', K, _⟩ := H.open
  have k2 := K.cell 2
  simp [TC] at k2
  have tl := K.lt
  clear K H
  go_enter Try.func19, Try.ntmps19
  go_wp2
  go_ret
  exact ⟨rfl, rfl⟩
theorem tlen_nil (w : World) : Calls Try.prog 19 #[.pointer none] w fun e w' => e = .returned (.int .i64 0) ∧ w' = w := by
  go_enter Try.func19, Try.ntmps19
  go_wp2
  go_ret
  exact ⟨rfl, rfl⟩
theorem waiting_any (t d sb mb : Nat) (F : Nat → Prop) (p : TD) (w : World) (H : TapeIs w F t d sb mb p) :
    Calls Try.prog 24 #[.pointer (some ⟨t, 0, none⟩)] w fun e w' => e = .returned (.int .i64 (p.W.length : Nat)) ∧ w' = w := by
  obtain ⟨A, c, A', c', K, _⟩ := H.open
  have k2 := K.cell 4
  simp [TC] at k2
  have tl := K.lt
  clear K H
  go_enter Try.func24, Try.ntmps24
  go_wp2
  go_ret
  exact ⟨rfl, rfl⟩
theorem waiting_nil (w : World) : Calls Try.prog 24 #[.pointer none] w fun e w' => e = .returned (.int .i64 0) ∧ w' = w := by
  go_enter Try.func24, Try.ntmps24
  go_wp2
  go_ret
  exact ⟨rfl, rfl⟩

theorem tread_nil (i : Int) (w : World) : Calls Try.prog 20 #[.pointer none, .int .i64 i] w fun e w' => e = .returned (.tuple #[.slice none 0 0, .int .i64 1]) ∧ w' = w := by
  go_enter Try.func20, Try.ntmps20
  go_wp2
  go_ret2
  exact ⟨rfl, rfl⟩
theorem tread_out (t d sb mb : Nat) (F : Nat → Prop) (p : TD) (i : Int) (w : World) (H : TapeIs w F t d sb mb p) (hi : i < 0 ∨ (p.L.length : Int) ≤ i) :
    Calls Try.prog 20 #[.pointer (some ⟨t, 0, none⟩), .int .i64 i] w fun e w' => e = .returned (.tuple #[.slice none 0 0, .int .i64 62]) ∧ w' = w := by
  obtain ⟨A, c, A', c', K, _⟩ := H.open
  have k2 := K.cell 2
  simp [TC] at k2
  have tl := K.lt
  clear K H
  go_enter Try.func20, Try.ntmps20
  by_cases h0 : i < 0
  · go_wp2
    go_ret2
    exact ⟨rfl, rfl⟩
  · have h1 : (p.L.length : Int) ≤ i := by omega
    have h0' : decide (i < 0) = false := decide_eq_false h0
    go_wp2
    go_ret2
    exact ⟨rfl, rfl⟩
theorem tread_in (t d sb mb : Nat) (F : Nat → Prop) (p : TD) (i : Nat) (w : World) (H : TapeIs w F t d sb mb p) (hi : i < p.L.length) :
    Calls Try.prog 20 #[.pointer (some ⟨t, 0, none⟩), .int .i64 i] w fun e w' => ∃ v, e = .returned (.tuple #[v, .int .i64 0]) ∧ Own8 w' w.heap.size v p.L[i] ∧ Below w.heap.size w w' := by
  obtain ⟨A, c, A', c', K, R, _⟩ := H.open
  have k2 := K.cell 2
  simp [TC] at k2
  have tl := K.lt
  have hr := (H.ok.rl _ (List.getElem_mem hi)).1
  have hlen : p.L[i].length ≤ 300 := by simp [rightB] at hr; omega
  obtain ⟨b, off, rfl, hb, hc⟩ := R.rd.at' (by omega)
  obtain ⟨A2, c2, hc2, hrd⟩ := hc i hi
  have hA2 : A2 = none → c2 = 0 := by
    intro e
    subst e
    obtain ⟨_, _, e, _⟩ := hrd.at' (by simp [rightB] at hr; omega)
    cases e
  have HRD := Lib.hid hrd; have HA2 := Lib.hid hA2
  have hii : (i : Int) < p.L.length := by omega
  clear K H R hc hr hb hrd hA2
  go_enter Try.func20, Try.ntmps20
  go_wp2_with (go_at_call 54; refine (clone_any _ _ _ _ _ HRD.out (by omega) HA2.out).mono ?_; rintro e w1 ⟨v1, rfl, O1, B1⟩; obtain ⟨a1, c1, rfl⟩ := O1.form; have HO1 := Lib.hid O1; have HB1 := Lib.hid B1; clear O1 B1)
  go_ret2
  exact ⟨_, rfl, HO1.out, HB1.out⟩

def roomP (p : TD) : Int := (allB p.n : Int) - sizeB p.L - (if p.fr then (0 : Int) else sizeB p.W)
theorem room_nil (w : World) : Calls Try.prog 23 #[.pointer none] w fun e w' => e = .returned (.int .i64 0) ∧ w' = w := by
  go_enter Try.func23, Try.ntmps23
  go_wp2
  go_ret
  exact ⟨rfl, rfl⟩
theorem room_any (t d sb mb : Nat) (F : Nat → Prop) (p : TD) (w : World) (H : TapeIs w F t d sb mb p) :
    Calls Try.prog 23 #[.pointer (some ⟨t, 0, none⟩)] w fun e w' => e = .returned (.int .i64 (roomP p)) ∧ Below w.heap.size w w' := by
  obtain ⟨A, c, A', c', K, R, R', _⟩ := H.open
  have k2 := K.cell 3; have k4 := K.cell 4; have k5 := K.cell 5
  simp [TC] at k2 k4 k5
  have tl := K.lt
  have hab := allB_le H.small
  have hfl := H.ok.fitL; have hfw := H.ok.fitW
  have hn := H.ok.n3
  have HTD := Lib.hid H.td
  have HRD := Lib.hid R'.rd
  have hall : ∀ k, Calls Try.prog 50 #[.pointer (some ⟨t, 0, none⟩)] (w.drewN k) fun e w' => e = .returned (.int .i64 (allB p.n : Nat)) ∧ w' = w.drewN k := fun k =>
    all_any t d sb mb p.n p.sf p.df (w.drewN k) (HTD.out.below (below_drewN (Below.refl _ _) k)) (by omega)
  have HALL := Lib.hid hall
  clear K H R R' hall
  unfold roomP
  generalize allB p.n = a at *
  generalize sizeB p.L = l at *
  have hw : sizeB p.W ≤ 32704 := by omega
  have HW := Lib.hid hw
  generalize hwv : sizeB p.W = v at *
  have HWV := Lib.hid hwv; clear hwv hfw
  go_enter Try.func23, Try.ntmps23
  go_wp2_with fail
  go_quiet (first | (go_at_call 50; with_reducible refine Calls.quiet_of_same (HALL.out _)))
  rename_i nq
  cases hfr : p.fr with
  | true =>
    rw [hfr] at k5
    go_wp2
    go_ret
    exact ⟨by simp, below_drewN (Below.refl _ _) _⟩
  | false =>
    rw [hfr] at k5
    go_wp2_with (go_at_call 55; refine (size_any _ _ _ _ _ (HRD.out.below (below_drewN (Below.refl _ _) nq)) (by have := HWV.out; have := HW.out; omega)).mono ?_; rintro e w1 ⟨rfl, rfl⟩; rw [HWV.out])
    all_goals
      go_ret
      exact ⟨by simp, below_drewN (Below.refl _ _) _⟩

/-- Where the waiting ones begin. -/
def placeH (p : TD) : Nat := if p.fr then 1 - p.h else p.h
def placeU (p : TD) : Nat := if p.fr then 0 else sizeB p.L
theorem place_any (t d sb mb : Nat) (F : Nat → Prop) (p : TD) (w : World) (H : TapeIs w F t d sb mb p) :
    Calls Try.prog 82 #[.pointer (some ⟨t, 0, none⟩)] w fun e w' => e = .returned (.tuple #[.int .i64 (placeH p : Nat), .int .i64 (placeU p : Nat)]) ∧ Below w.heap.size w w' := by
  obtain ⟨A, c, A', c', K, R, R', _⟩ := H.open
  have k1 := K.cell 1; have k3 := K.cell 3; have k5 := K.cell 5
  simp [TC] at k1 k3 k5
  have tl := K.lt
  have h1 := H.ok.h1
  clear K H R R'
  unfold placeH placeU
  go_enter Try.func82, Try.ntmps82
  cases hfr : p.fr with
  | true =>
    rw [hfr] at k5
    go_wp2
    go_ret2
    refine ⟨?_, Below.refl _ _⟩
    simp
    omega
  | false =>
    rw [hfr] at k5
    go_wp2
    go_quiet (fail)
    go_wp2
    go_ret2
    exact ⟨by simp, below_drewN (Below.refl _ _) _⟩
end Go.Proofs.Ytlgimhhhlpmjcaa
