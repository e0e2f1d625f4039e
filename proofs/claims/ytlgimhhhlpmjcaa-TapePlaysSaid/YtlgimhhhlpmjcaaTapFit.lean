/- The tape: what fits tells of an act. -/
import Derived.Test.YtlgimhhhlpmjcaaTapPs
import Derived.Test.YtlgimhhhlpmjcaaTapZ
set_option linter.unusedVariables false
set_option linter.unusedSimpArgs false
namespace Go.Proofs.Ytlgimhhhlpmjcaa
open Go.RowKit Go.Maps Go.WideMaps Go.Shelf

/-- Lists that are gone through. -/
def fitsM (M : List Bs) : Prop := M.length ≤ 20 ∧ ∀ x ∈ M, x.length ≤ 400
theorem fitsM.size {M : List Bs} (h : fitsM M) : sizeB M ≤ 1000000 := by
  have : ∀ (M : List Bs), (∀ x ∈ M, x.length ≤ 400) → sizeB M ≤ 402 * M.length := by
    intro M
    induction M with
    | nil => intro _; simp [sizeB]
    | cons a M ih =>
      intro h
      rw [sizeB_cons, List.length_cons]
      have h1 := h a (by simp)
      have h2 := ih (fun x hx => h x (by simp [hx]))
      omega
  have := this M h.2
  have := h.1
  omega
def FitsPost2 (w : World) (bn : Nat) (M : List Bs) (e : Ending) (w' : World) : Prop := ∃ b, e = .returned (.bool b) ∧ Below w.heap.size w w' ∧ (b = true → fitsM M ∧ bn ≤ 400)
set_option maxRecDepth 100000 in
theorem fits_two (kind i : Int) (bA : Option Addr) (bn bc : Nat) (lA : Option Addr) (ln lc : Nat) (kA : Option Addr) (kn kc : Nat) (M : List Bs) (w : World) (hl : RdBB w lA ln M) :
    Calls Try.prog 26 #[.agg #[.int .i64 kind, .int .i64 i, .slice bA bn bc, .slice lA ln lc, .slice kA kn kc]] w (FitsPost2 w bn M) := by
  have K := Lib.hid (Blk.new w #[.int .i64 kind, .int .i64 i, .slice bA bn bc, .slice lA ln lc, .slice kA kn kc] 43)
  have B0 := Lib.hid (balloc (Below.refl w.heap.size w) (.cells #[.int .i64 kind, .int .i64 i, .slice bA bn bc, .slice lA ln lc, .slice kA kn kc] 43))
  have HLN := Lib.hid hl.len
  have HL := Lib.hid (hl.below B0.out)
  clear hl
  go_enter Try.func26, Try.ntmps26
  go_wp2_with fail
  have c2 := K.out.cell 2; have c3 := K.out.cell 3
  simp only [List.getElem?_toArray, List.getElem?_cons_zero, List.getElem?_cons_succ] at c2 c3
  have kl := K.out.lt
  generalize w.alloc (.cells #[.int .i64 kind, .int .i64 i, .slice bA bn bc, .slice lA ln lc, .slice kA kn kc] 43) = w1 at *
  obtain ⟨g, hg⟩ : ∃ g, g = w.heap.size := ⟨_, rfl⟩
  rw [← hg] at c2 c3 kl ⊢
  have HG := Lib.hid hg; clear hg K
  go_loop [3] (fun s => ∃ k : Nat, k ≤ ln ∧ k ≤ 20 ∧ s = .int .i64 k ∧ Hid (∀ x ∈ M.take k, x.length ≤ 400)) (fun s => 21 - (intOf s).toNat)
  case atStart => exact ⟨0, Nat.zero_le _, by omega, rfl, Lib.hid (fun x h => by cases h)⟩
  case round =>
    obtain ⟨k, hk, hk20, rfl, hI⟩ := hrel
    by_cases hlt : k < ln
    · by_cases h20 : k = 20
      · subst h20
        go_wp2
        go_ret
        exact ⟨_, rfl, B0.out, fun h => absurd h (by simp)⟩
      · obtain ⟨b, off, rfl, hb, hc⟩ := HL.out.at' (by omega)
        have hkM : k < M.length := by rw [HLN.out]; exact hlt
        obtain ⟨A', c, hck, _⟩ := hc k hkM
        have hk0 : (0 : Int) ≤ (k : Int) := by omega
        have hlt2 : (k : Int) < ln := by omega
        have h20' : decide ((k : Int) = 20) = false := decide_eq_false (by omega)
        have h20n : ¬ (k : Int) = 20 := by omega
        have HTK := Lib.hid (List.take_succ_eq_append_getElem hkM)
        obtain ⟨m, hm⟩ : ∃ m, m = M[k].length := ⟨_, rfl⟩
        rw [← hm] at hck
        have HM := Lib.hid hm; clear hm
        clear hc hb
        by_cases hm : (400 : Int) < m
        · go_wp2
          go_ret
          exact ⟨_, rfl, B0.out, fun h => absurd h (by simp)⟩
        · go_wp2
          go_round
          case rel => exact ⟨k + 1, by omega, by omega, by go_num, Lib.hid (by
            rw [HTK.out]
            intro x hx
            rcases List.mem_append.1 hx with h | h
            · exact hI.out x h
            · rw [List.mem_singleton.1 h, ← HM.out]; omega)⟩
          case measure => simp [intOf]; omega
    · have hkln : k = ln := by omega
      have hF := Lib.hid (show fitsM M from ⟨by rw [HLN.out]; omega, by have := hI.out; rwa [List.take_of_length_le (by rw [HLN.out]; omega)] at this⟩)
      clear hI
      go_wp2
      go_ret
      exact ⟨_, rfl, B0.out, fun h => ⟨hF.out, by simp at h; omega⟩⟩
end Go.Proofs.Ytlgimhhhlpmjcaa
