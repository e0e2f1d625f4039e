/- bits.whole, bits.Pack. -/
import Derived.Test.YtnffkefhajodmaaBitsA
import Derived.Test.YtnffkefhajodmaaPlainPack
import Derived.Test.YtnffkefhajodmaaShelf
import Derived.Test.YtnffkefhajodmaaRd
set_option linter.unusedVariables false
set_option linter.unusedSimpArgs false
namespace Go.Proofs.Ytnffkefhajodmaa
open Go.RowKit

theorem whole_any (A : Option Addr) (n c : Nat) (ws : List Int) (w : World) (h : RdI .i64 w A n ws) (hw : okW ws) :
    Calls Try.prog 70 #[.slice A n c] w fun e w' => e = .returned (.int .i64 ((wsum ws + 8 - 1) / 8)) ∧ w = w' := by
  have h1 := wsum_nonneg hw
  have h2 := wsum_le hw
  have hn := h.small
  have hl := h.len
  have b1 : wsum ws ≤ 64 * n := by omega
  have Hl := Lib.hid hl; clear hl
  go_enter Try.func70, Try.ntmps70
  go_wp2
  go_loop [8, 3] (fun i s => ∃ k : Nat, k ≤ n ∧ i = .int .i64 k ∧ s = .int .i64 (wsum (ws.take k))) (fun i _ => n - (intOf i).toNat)
  case atStart => exact ⟨0, Nat.zero_le _, rfl, by simp [wsum]⟩
  case round =>
    obtain ⟨k, hk, rfl, rfl⟩ := hrel
    have b2 := wsum_take_le hw k
    have b3 := wsum_nonneg (okW_take hw k)
    by_cases hlt : k < n
    · obtain ⟨b, off, rfl, hc⟩ := h.at' (by omega)
      have hk' : k < ws.length := by rw [Hl.out]; exact hlt
      have hck := hc k hk'
      have b4 := wsum_take_succ ws k hk'
      have b5 := hw _ (List.getElem_mem hk')
      have b6 := wsum_take_le hw (k + 1)
      rw [b4] at b6
      have B4 := Lib.hid b4; clear b4 hc
      obtain ⟨b50, b51⟩ := b5
      go_wp2
      go_round
      case rel => exact ⟨k + 1, by omega, by go_num, by rw [B4.out]⟩
      case measure => simp [intOf]; omega
    · have : k = n := by omega
      subst this
      have e : ws.take k = ws := List.take_of_length_le (by rw [Hl.out]; exact Nat.le_refl _)
      rw [e]
      go_wp2
      go_ret
      exact ⟨rfl, rfl⟩


/-- What Pack asks of its arguments. -/
def packOk (ws vs : List Int) : Prop := okW ws ∧ ws.length = vs.length ∧ ∀ i (h1 : i < ws.length) (h2 : i < vs.length), 0 ≤ vs[i] ∧ vs[i] < 18446744073709551616 ∧ (Lib.bitLen vs[i].toNat : Int) ≤ ws[i]

/-- How many bytes. -/
def pbytes (ws : List Int) : Nat := ((wsum ws + 8 - 1) / 8).toNat

/-- Block g holds what is packed. -/
def Packed (w : World) (g : Nat) (ws vs : List Int) : Prop := ∃ ys, Bytes w g ys ∧ ys.length = pbytes ws ∧ small8 ys ∧ bits8 ys = packBits ws vs ++ zeros (8 * pbytes ws - (wsum ws).toNat)

theorem madeBytes (w : World) (m : Nat) : Bytes (w.alloc (.cells (madeCells #[.int .u8 0] m) 5)) w.heap.size (List.replicate m 0) := by
  unfold Bytes
  rw [heap_alloc_new]
  have e : madeCells #[.int .u8 0] m = (nums8 (List.replicate m 0)).toArray := by
    apply Array.ext'
    rw [toList_madeCells_one]
    simp [nums8]
  rw [e]

set_option maxHeartbeats 1000000 in
theorem Pack_any (A B : Option Addr) (n c c' : Nat) (ws vs : List Int) (w : World) (h : RdI .i64 w A n ws) (h' : RdI .u64 w B n vs) (hp : packOk ws vs) (hn : n ≤ 100000000000) :
    Calls Try.prog 49 #[.slice A n c, .slice B n c'] w fun e w' => ∃ g, e = .returned (.tuple #[.slice (some ⟨g, 0, none⟩) (pbytes ws) (pbytes ws), .bool true]) ∧ w.heap.size ≤ g ∧ Below w.heap.size w w' ∧ Packed w' g ws vs := by
  obtain ⟨hw, hlen, hv⟩ := hp
  have s0 := wsum_nonneg hw
  have s1 := wsum_le hw
  have hl := h.len
  have hl' := h'.len
  have b1 : wsum ws ≤ 64 * n := by omega
  have Hl := Lib.hid hl; clear hl
  have Hl' := Lib.hid hl'; clear hl'
  have Hlen := Lib.hid hlen; clear hlen
  have Hv := Lib.hid hv; clear hv
  have hmk : ∀ W : World, (Instr.makeSlice 54 (.int .i64 ((wsum ws + 8 - 1) / 8)) (.int .i64 ((wsum ws + 8 - 1) / 8))).run Try.prog W = .ok (.slice (some ⟨W.heap.size, 0, none⟩) (pbytes ws) (pbytes ws)) (W.alloc (.cells (madeCells #[.int .u8 0] (pbytes ws)) 5)) := by
    intro W
    have e : ((wsum ws + 8 - 1) / 8 : Int) = ((pbytes ws : Nat) : Int) := by unfold pbytes; omega
    rw [e]
    have : pbytes ws ≤ 100000000000000 := by unfold pbytes; omega
    exact run_make_row' 54 5 (.int .u8 0) 1 (by kernel_rfl) (by kernel_rfl) rfl .i64 .i64 (pbytes ws) (by omega) (by omega) W
  go_enter Try.func49, Try.ntmps49
  go_wp2
  go_loop [19] (fun i => ∃ k : Nat, k ≤ n ∧ i = .int .i64 k) (fun i => n - (intOf i).toNat)
  case atStart => exact ⟨0, Nat.zero_le _, rfl⟩
  case round =>
    obtain ⟨k, hk, rfl⟩ := hrel
    by_cases hlt : k < n
    · obtain ⟨b, off, rfl, hc⟩ := h.at' (by omega)
      obtain ⟨b', off', rfl, hc'⟩ := h'.at' (by omega)
      have hk1 : k < ws.length := by rw [Hl.out]; exact hlt
      have hk2 : k < vs.length := by rw [Hl'.out]; exact hlt
      have hck := hc k hk1
      have hck' := hc' k hk2
      obtain ⟨b50, b51⟩ := hw _ (List.getElem_mem hk1)
      obtain ⟨b60, b61, b62⟩ := Hv.out k hk1 hk2
      clear hc hc' hmk
      go_wp2_with (go_at_call 69; refine (Try.bits_Len64 _ _ (by omega) (by omega)).mono ?_; rintro e w' ⟨rfl, rfl⟩)
      go_round
      case rel => exact ⟨k + 1, by omega, by go_num⟩
      case measure => simp [intOf]; omega
    · have : k = n := by omega
      subst this
      go_wp2_with (go_at_call 70; refine (whole_any _ _ _ ws _ h hw).mono ?_; rintro e w' ⟨rfl, rfl⟩)
      have rd : RdI .i64 (w.alloc (.cells (madeCells #[.int .u8 0] (pbytes ws)) 5)) A k ws := h.below ((Below.refl _ _).alloc (Nat.le_refl _) _)
      go_loopw [45, 9] (fun i s wr => ∃ j : Nat, j ≤ k ∧ i = .int .i64 j ∧ s = .int .i64 (wsum (ws.take j)) ∧ Below w.heap.size w wr ∧ ∃ ys, Bytes wr w.heap.size ys ∧ Hid (ys.length = pbytes ws) ∧ Hid (small8 ys) ∧ Hid (bits8 ys = packBits (ws.take j) (vs.take j) ++ zeros (8 * pbytes ws - (wsum (ws.take j)).toNat))) (fun i _ _ => k - (intOf i).toNat)
      case atStart => exact ⟨0, Nat.zero_le _, rfl, by simp [wsum], (Below.refl _ _).alloc (Nat.le_refl _) _, _, madeBytes _ _, by simp [Hid], by intro x hx; simp at hx; omega, by show _ = _; rw [bits8_zeros]; simp [packBits, wsum]⟩
      case round =>
        obtain ⟨j, hj, rfl, rfl, hb, ys, q1, q2, q3, q4⟩ := hrel
        have c2 := wsum_take_le hw j
        have c3 := wsum_nonneg (okW_take hw j)
        by_cases hlt2 : j < k
        · obtain ⟨b, off, rfl, hc⟩ := (h.below hb).at' (by omega)
          obtain ⟨b', off', rfl, hc'⟩ := (h'.below hb).at' (by omega)
          have hk1 : j < ws.length := by rw [Hl.out]; exact hlt2
          have hk2 : j < vs.length := by rw [Hl'.out]; exact hlt2
          have hck := hc j hk1
          have hck' := hc' j hk2
          obtain ⟨b50, b51⟩ := hw _ (List.getElem_mem hk1)
          obtain ⟨b60, b61, b62⟩ := Hv.out j hk1 hk2
          have c4 := wsum_take_succ ws j hk1
          have c6 := wsum_take_le hw (j + 1)
          have c7 : (pbytes ws : Int) = (wsum ws + 8 - 1) / 8 := by unfold pbytes; omega
          have hpl := packBits_length (okW_take hw j) (vs := vs.take j) (by simp [Hlen.out])
          rw [c4] at c6
          have C4 := Lib.hid c4; clear c4 hc hc' hmk
          have hsz : w.heap.size < wr.heap.size := q1.lt
          have C7 := Lib.hid c7; clear c7
          have HPL := Lib.hid hpl; clear hpl
          go_wp2_with (go_at_call 71; refine (set_any w.heap.size (pbytes ws) (pbytes ws) ys _ _ _ _ q1 q3.out q2.out c3 b50 b51 (by have := C7.out; omega) (by have := C7.out; omega) b60 b61).mono ?_; rintro e w' ⟨rfl, hg, ys', r1, r2, r3, r4⟩)
          have R2 := Lib.hid r2; clear r2
          have R4 := Lib.hid r4; clear r4
          go_wp2
          go_roundw
          case rel =>
            refine ⟨j + 1, by omega, by go_num, by rw [C4.out], hb.grown hg (by omega) (by rintro k' hk'; injection hk' with hk'; omega), ys', r1, R2.out, r3, ?_⟩
            show _ = _
            rw [R4.out, q4.out, ← HPL.out, splice_zeros _ _ _ (by simp only [bitsN_length]; have := C7.out; have := HPL.out; omega), packBits_take_succ ws vs j hk1 hk2, HPL.out, C4.out]
            congr 2
            simp only [bitsN_length]; omega
          case measure => simp [intOf]; omega
        · have : j = k := by omega
          subst this
          have e1 : ws.take j = ws := List.take_of_length_le (by rw [Hl.out]; exact Nat.le_refl _)
          have e2 : vs.take j = vs := List.take_of_length_le (by rw [Hl'.out]; exact Nat.le_refl _)
          rw [e1, e2] at q4
          rw [e1]
          clear e1 e2
          go_wp2
          go_ret2
          exact ⟨_, rfl, Nat.le_refl _, hb, ys, q1, q2.out, q3.out, q4.out⟩

end Go.Proofs.Ytnffkefhajodmaa
