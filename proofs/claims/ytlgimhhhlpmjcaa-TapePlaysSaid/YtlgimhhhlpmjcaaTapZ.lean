/- TapeNil: its walk. -/
import Derived.Test.YtlgimhhhlpmjcaaTapY
import Derived.Test.YtlgimhhhlpmjcaaDskN
set_option linter.unusedVariables false
set_option linter.unusedSimpArgs false
namespace Go.Proofs.Ytlgimhhhlpmjcaa
open Go.RowKit Go.Maps Go.WideMaps Go.Shelf

theorem replace_nil (A : Option Addr) (n c : Nat) (w : World) : Calls Try.prog 25 #[.pointer none, .slice A n c] w fun e w' => e = .returned (.int .i64 1) ∧ w' = w := by
  go_enter Try.func25, Try.ntmps25
  go_wp2
  go_ret
  exact ⟨rfl, rfl⟩

/-- A slice of slices that came in: lengths alone. -/
structure RdLL (w : World) (A : Option Addr) (n : Nat) : Prop where
  at' : 0 < n → ∃ b off, A = some ⟨b, off, none⟩ ∧ b < w.heap.size ∧ ∀ i, i < n → ∃ A' m c, w.cell? ⟨b, off + i, none⟩ = some (.slice A' m c)
theorem RdLL.below {w w' : World} {A : Option Addr} {n : Nat} (h : RdLL w A n) (hb : Below w.heap.size w w') : RdLL w' A n :=
  ⟨fun hn => by
    obtain ⟨b, off, e, hlt, hc⟩ := h.at' hn
    refine ⟨b, off, e, Nat.lt_of_lt_of_le hlt hb.size, fun i hi => ?_⟩
    obtain ⟨A', m, c, h1⟩ := hc i hi
    exact ⟨A', m, c, (hb.cell (p := ⟨b, off + i, none⟩) hlt).trans h1⟩⟩
def TAct (kind i : Int) (bA : Option Addr) (bn bc : Nat) (lA : Option Addr) (ln lc : Nat) (kA : Option Addr) (kn kc : Nat) : Array Value := #[.int .i64 kind, .int .i64 i, .slice bA bn bc, .slice lA ln lc, .slice kA kn kc]

def FitsPost (w : World) (e : Ending) (w' : World) : Prop := ∃ b, e = .returned (.bool b) ∧ Below w.heap.size w w'
set_option maxRecDepth 100000 in
theorem fits_any (kind i : Int) (bA : Option Addr) (bn bc : Nat) (lA : Option Addr) (ln lc : Nat) (kA : Option Addr) (kn kc : Nat) (w : World) (hl : RdLL w lA ln) :
    Calls Try.prog 26 #[.agg #[.int .i64 kind, .int .i64 i, .slice bA bn bc, .slice lA ln lc, .slice kA kn kc]] w (FitsPost w) := by
  have K := Lib.hid (Blk.new w #[.int .i64 kind, .int .i64 i, .slice bA bn bc, .slice lA ln lc, .slice kA kn kc] 43)
  have B0 := Lib.hid (balloc (Below.refl w.heap.size w) (.cells #[.int .i64 kind, .int .i64 i, .slice bA bn bc, .slice lA ln lc, .slice kA kn kc] 43))
  have HL := Lib.hid (hl.below B0.out)
  clear hl
  go_enter Try.func26, Try.ntmps26
  go_wp2_with fail
  have c2 := K.out.cell 2; have c3 := K.out.cell 3
  simp only [List.getElem?_toArray, List.getElem?_cons_zero, List.getElem?_cons_succ] at c2 c3
  have kl := K.out.lt
  generalize w.alloc (.cells #[.int .i64 kind, .int .i64 i, .slice bA bn bc, .slice lA ln lc, .slice kA kn kc] 43) = w1 at *
  obtain ⟨g, hg⟩ : ∃ g, g = w.heap.size := ⟨_, rfl⟩
  rw [← hg] at c2 c3 kl ⊢
  have HG := Lib.hid hg; clear hg K
  go_loop [3] (fun s => ∃ k : Nat, k ≤ ln ∧ k ≤ 20 ∧ s = .int .i64 k) (fun s => 21 - (intOf s).toNat)
  case atStart => exact ⟨0, Nat.zero_le _, by omega, rfl⟩
  case round =>
    obtain ⟨k, hk, hk20, rfl⟩ := hrel
    by_cases hlt : k < ln
    · by_cases h20 : k = 20
      · subst h20
        go_wp2
        go_ret
        exact ⟨_, rfl, B0.out⟩
      · obtain ⟨b, off, rfl, hb, hc⟩ := HL.out.at' (by omega)
        obtain ⟨A', m, c, hck⟩ := hc k hlt
        have hk0 : (0 : Int) ≤ (k : Int) := by omega
        have hlt2 : (k : Int) < ln := by omega
        have h20' : decide ((k : Int) = 20) = false := decide_eq_false (by omega)
        have h20n : ¬ (k : Int) = 20 := by omega
        clear hc hb
        by_cases hm : (400 : Int) < m
        · go_wp2
          go_ret
          exact ⟨_, rfl, B0.out⟩
        · go_wp2
          go_round
          case rel => exact ⟨k + 1, by omega, by omega, by go_num⟩
          case measure => simp [intOf]; omega
    · go_wp2
      go_ret
      exact ⟨_, rfl, B0.out⟩

set_option maxRecDepth 100000 in
set_option maxHeartbeats 2000000 in
theorem tnil_any (kind i : Int) (bA : Option Addr) (bn bc : Nat) (lA : Option Addr) (ln lc : Nat) (kA : Option Addr) (kn kc : Nat) (w : World) (hl : RdLL w lA ln) :
    Calls Try.prog 5 #[.agg #[.int .i64 kind, .int .i64 i, .slice bA bn bc, .slice lA ln lc, .slice kA kn kc]] w fun e w' => e = .returned (.bool true) ∧ Below w.heap.size w w' := by
  have K := Lib.hid (Blk.new w #[.int .i64 kind, .int .i64 i, .slice bA bn bc, .slice lA ln lc, .slice kA kn kc] 43)
  have B0 := Lib.hid (balloc (Below.refl w.heap.size w) (.cells #[.int .i64 kind, .int .i64 i, .slice bA bn bc, .slice lA ln lc, .slice kA kn kc] 43))
  have HL := Lib.hid (hl.below B0.out)
  clear hl
  go_enter Try.func5, Try.ntmps5
  go_wp2_with fail
  refine (fits_any kind i bA bn bc lA ln lc kA kn kc _ HL.out).mono ?_
  rintro e w1 ⟨ok, rfl, hb1⟩
  have K1 := Lib.hid (K.out.below hb1); have B1 := Lib.hid (bthen B0.out hb1)
  clear hb1
  cases ok with
  | false =>
    go_wp2_with fail
    refine (talive_any _).mono ?_
    rintro e w2 ⟨rfl, hb2⟩
    have B2 := Lib.hid (bthen B1.out hb2); clear hb2
    go_wp2
    go_ret
    exact ⟨rfl, B2.out⟩
  | true =>
    have c1 := K1.out.cell 1
    simp only [List.getElem?_toArray, List.getElem?_cons_zero, List.getElem?_cons_succ] at c1
    go_wp2_with (first
      | (go_at_call 16; refine (open_nil _).mono ?_; rintro e w2 ⟨rfl, hw2⟩; rw [hw2]; clear hw2 w2)
      | (go_at_call 27; refine (step_nil _).mono ?_; rintro e w2 ⟨rfl, hw2⟩; rw [hw2]; clear hw2 w2)
      | (go_at_call 20; refine (tread_nil _ _).mono ?_; rintro e w2 ⟨rfl, hw2⟩; rw [hw2]; clear hw2 w2)
      | (go_at_call 14; refine (talive_any _).mono ?_; rintro e w3 ⟨rfl, hb3⟩
         have K3 := Lib.hid (K1.out.below hb3); have B3 := Lib.hid (bthen B1.out hb3); clear hb3 c1
         have c2 := K3.out.cell 2; have c3 := K3.out.cell 3
         simp only [List.getElem?_toArray, List.getElem?_cons_zero, List.getElem?_cons_succ] at c2 c3)
      | (go_at_call 17; refine (append_nil _ _ _ _).mono ?_; rintro e w2 ⟨rfl, hw2⟩; rw [hw2]; clear hw2 w2)
      | (go_at_call 25; refine (replace_nil _ _ _ _).mono ?_; rintro e w2 ⟨rfl, hw2⟩; rw [hw2]; clear hw2 w2)
      | (go_at_call 18; refine (commit_nil _).mono ?_; rintro e w2 ⟨rfl, hw2⟩; rw [hw2]; clear hw2 w2)
      | (go_at_call 19; refine (tlen_nil _).mono ?_; rintro e w2 ⟨rfl, hw2⟩; rw [hw2]; clear hw2 w2)
      | (go_at_call 24; refine (waiting_nil _).mono ?_; rintro e w2 ⟨rfl, hw2⟩; rw [hw2]; clear hw2 w2)
      | (go_at_call 23; refine (room_nil _).mono ?_; rintro e w2 ⟨rfl, hw2⟩; rw [hw2]; clear hw2 w2))
    go_ret
    exact ⟨rfl, B3.out⟩

theorem vwBB : Vw 22 1 (slV (slV (intV .u8) 1) 1) := Vw.sl Try.underlying22 (by kernel_rfl) vwBytes (by omega)
def tactV : View (Int × Int × List Int × List (List Int) × List Bool × Unit) := consV (intV .i64) (consV (intV .i64) (consV (slV (intV .u8) 1) (consV (slV (slV (intV .u8) 1) 1) (consV (slV boolV 1) nilV))))
theorem vwTAct : Vw 43 (1 + (1 + (1 + (1 + (1 + 0))))) tactV := Vw.st Try.underlying43 (by kernel_rfl) (Fl.cons rfl vwInt (Fl.cons rfl vwInt (Fl.cons rfl vwBytes (Fl.cons rfl vwBB (Fl.cons rfl vwBools (Fl.nil _))))))
theorem RdBB.of {w : World} {A : Option Addr} {n : Nat} {L : List Bs} (h : RdL (slV (intV .u8) 1) 1 w A n L) : RdBB w A n L ∧ ∀ x ∈ L, okB x := by
  refine ⟨⟨h.len, fun hn => ?_⟩, fun x hx => ?_⟩
  · obtain ⟨b, off, e, hc⟩ := h.at' hn
    obtain ⟨cs0, ⟨A0, c0, rfl, hr0⟩, h20⟩ := hc 0 (by rw [h.len]; exact hn)
    have hc0 := h20 0 (by simp)
    refine ⟨b, off, e, World.block_lt_of_cell? w _ hc0, fun i hi => ?_⟩
    obtain ⟨cs, ⟨A', c, rfl, hr⟩, h2⟩ := hc i hi
    have := h2 0 (by simp)
    exact ⟨A', c, by simpa using this, RdU8.of hr⟩
  · obtain ⟨i, hi, rfl⟩ := List.getElem_of_mem hx
    obtain ⟨b, off, e, hc⟩ := h.at' (by rw [← h.len]; omega)
    obtain ⟨cs, ⟨A', c, rfl, hr⟩, h2⟩ := hc i hi
    intro y hy
    exact byte_wf (hr.wf y hy)
theorem RdLL.of {w : World} {A : Option Addr} {n : Nat} {L : List Bs} (h : RdBB w A n L) : RdLL w A n :=
  ⟨fun hn => by
    obtain ⟨b, off, e, hlt, hc⟩ := h.at' hn
    refine ⟨b, off, e, hlt, fun i hi => ?_⟩
    obtain ⟨A', c, h1, _⟩ := hc i (by rw [h.len]; exact hi)
    exact ⟨A', _, c, h1⟩⟩
theorem TActC.of {w : World} {cs : List Value} {x : Int × Int × List Int × List (List Int) × List Bool × Unit} (h : tactV w cs x) :
    ∃ kind i bA bn bc lA ln lc kA kn kc, cs = [.int .i64 kind, .int .i64 i, .slice bA bn bc, .slice lA ln lc, .slice kA kn kc] ∧ RdLL w lA ln := by
  obtain ⟨_, _, rfl, ⟨rfl, _⟩, _, _, rfl, ⟨rfl, _⟩, _, _, rfl, ⟨bA, bc, rfl, hb⟩, _, _, rfl, ⟨lA, lc, rfl, hl⟩, _, _, rfl, ⟨kA, kc, rfl, hk⟩, rfl⟩ := h
  exact ⟨_, _, bA, _, bc, lA, _, lc, kA, _, kc, rfl, RdLL.of (RdBB.of hl).1⟩
end Go.Proofs.Ytlgimhhhlpmjcaa
