/- The tape: Clone, frame, frames, size. -/
import Derived.Test.YtlgimhhhlpmjcaaTapC
set_option linter.unusedVariables false
set_option linter.unusedSimpArgs false
namespace Go.Proofs.Ytlgimhhhlpmjcaa
open Go.RowKit Go.Maps Go.WideMaps Go.Shelf

theorem Own8.lit (W : World) (x : Bs) (base g n : Nat) (hg : g = W.heap.size) (hn : x.length = n) (hb : base ≤ W.heap.size) (hm : n ≤ 100000) : Own8 (W.alloc (.cells (sc x).toArray 5)) base (.slice (some ⟨g, 0, none⟩) n n) x := by
  subst hg; subst hn
  exact ⟨by simp [sc], .inr ⟨_, _, _, rfl, hb, heap_alloc_new _ _, Nat.le_refl _, by unfold maxLen; omega, by simp [sc], by simp [sc, List.take_of_length_le]⟩⟩

set_option maxRecDepth 100000 in
theorem clone_any (A : Option Addr) (n c : Nat) (xs : Bs) (w : World) (h : RdU8 w A n xs) (hn : n ≤ 100000) (hA : A = none → c = 0) :
    Calls Try.prog 54 #[.slice A n c] w fun e w' => ∃ v, e = .returned v ∧ Own8 w' w.heap.size v xs ∧ Below w.heap.size w w' := by
  have hl := h.len
  have q0 : ∀ W, Sem.run Try.prog (binOp BinOp.eql 31 (Value.slice none 0 0) (Value.slice none 0 0)) W = .ok (.bool true) W := fun W => by kernel_rfl
  have q1 : ∀ a n c W, Sem.run Try.prog (binOp BinOp.eql 31 (Value.slice (some a) n c) (Value.slice none 0 0)) W = .ok (.bool false) W := fun a n c W => by kernel_rfl
  go_enter Try.func54, Try.ntmps54
  cases A with
  | none =>
    have h0 : n = 0 := by
      rcases Nat.eq_zero_or_pos n with h0 | h0
      · exact h0
      · obtain ⟨b, off, e, _⟩ := h.at' h0; cases e
    have hc := hA rfl
    subst h0; subst hc
    have hx : xs = [] := List.eq_nil_of_length_eq_zero hl
    subst hx
    go_wp2
    go_ret
    exact ⟨_, rfl, Own8.nil _ _, Below.refl _ _⟩
  | some a =>
    have hcell : ∀ j u, (sc xs)[j]? = some u → (w.alloc (.cells #[] 5)).cell? (a.add j) = some u := by
      intro j u hj
      rcases Nat.eq_zero_or_pos n with h0 | h0
      · have hx : xs = [] := List.eq_nil_of_length_eq_zero (by omega)
        subst hx; simp [sc] at hj
      · obtain ⟨a', e, hc⟩ := (h.below ((Below.refl _ _).alloc (Nat.le_refl _) (.cells #[] 5))).lt_max h0
        cases e; exact hc j u hj
    have HC := Lib.hid hcell; have HL := Lib.hid (show (sc xs).length = n * 1 by rw [sc_len]; omega); have Hl := Lib.hid hl
    have O0 := Lib.hid (Own8.lit w [] w.heap.size w.heap.size 0 rfl rfl (Nat.le_refl _) (by omega))
    clear hcell h hl
    go_wp2_with (at_builtin; refine list_app rfl (.tmp 5) (.tmp 6) 31 rfl w.heap.size 5 (.int .u8 0) 1 1 u8Info Try.underlying31 rfl (by omega) _ 0 _ rfl O0.out a n c (sc xs) rfl HL.out HC.out ?_ ?_ ?_ ?_ ?_; (exact sc_one _); (unfold maxLen; omega); (omega); (simp); intro v6 w6 O6 G6; have HO6 := Lib.hid (app_sc2 O6 rfl Hl.out); obtain ⟨va6, vc6, rfl⟩ := HO6.out.form; have HG6 := Lib.hid G6; clear O6 G6)
    go_ret
    exact ⟨_, rfl, by simpa using HO6.out, ((Below.refl w.heap.size w).alloc (Nat.le_refl _) _).grown HG6.out (by simp) (fun j hj => (O0.out.lt j hj).1)⟩

set_option maxRecDepth 100000 in
theorem frame_any (A : Option Addr) (n c : Nat) (xs : Bs) (w : World) (h : RdU8 w A n xs) (hn : n ≤ 100000) (h0 : 0 < n) :
    Calls Try.prog 93 #[.slice A n c] w fun e w' => ∃ v, e = .returned v ∧ Own8 w' w.heap.size v (frameB xs) ∧ Below w.heap.size w w' := by
  have hl := h.len
  have hfr : frameB xs = [(n : Int) / 256 % 256, (n : Int) % 256] ++ xs := by simp [frameB, hl]
  have HFR := Lib.hid hfr; clear hfr
  have bA : Below w.heap.size w (w.alloc (.cells (sc [(n : Int) / 256 % 256, (n : Int) % 256]).toArray 5)) := (Below.refl _ _).alloc (Nat.le_refl _) _
  obtain ⟨a, rfl, hcell⟩ := (h.below bA).lt_max h0
  have O0 := Lib.hid (Own8.lit w [(n : Int) / 256 % 256, (n : Int) % 256] w.heap.size w.heap.size 2 rfl rfl (Nat.le_refl _) (by omega))
  have HC := Lib.hid hcell; have HL := Lib.hid (show (sc xs).length = n * 1 by rw [sc_len]; omega); have Hl := Lib.hid hl; have HB := Lib.hid bA
  clear hcell h hl bA
  go_enter Try.func93, Try.ntmps93
  go_wp2_with (at_builtin; refine list_app rfl (.tmp 10) (.tmp 11) 31 rfl w.heap.size 5 (.int .u8 0) 1 1 u8Info Try.underlying31 rfl (by omega) _ 2 _ rfl O0.out a n c (sc xs) rfl HL.out HC.out ?_ ?_ ?_ ?_ ?_; (exact sc_one _); (unfold maxLen; omega); (omega); (simp); intro v6 w6 O6 G6; have HO6 := Lib.hid (app_sc2 O6 rfl Hl.out); obtain ⟨va6, vc6, rfl⟩ := HO6.out.form; have HG6 := Lib.hid G6; clear O6 G6)
  go_ret
  exact ⟨_, rfl, by rw [HFR.out]; exact HO6.out, HB.out.grown HG6.out (by simp) (fun j hj => (O0.out.lt j hj).1)⟩

set_option maxRecDepth 100000 in
theorem size_any (A : Option Addr) (n c : Nat) (L : List Bs) (w : World) (h : RdBB w A n L) (hs : sizeB L ≤ 1000000) :
    Calls Try.prog 55 #[.slice A n c] w fun e w' => e = .returned (.int .i64 (sizeB L : Nat)) ∧ w' = w := by
  have hl := h.len
  have hsl := sizeB_len L
  have hn : n ≤ 1000000 := by omega
  have hle : ∀ k, sizeB (L.take k) ≤ 1000000 := fun k => Nat.le_trans (sizeB_take_le L k) hs
  have Hl := Lib.hid hl; have HLE := Lib.hid hle; clear hl hsl hle hs
  go_enter Try.func55, Try.ntmps55
  go_wp2
  go_loop [8, 3] (fun i s => ∃ k : Nat, k ≤ n ∧ i = .int .i64 k ∧ s = .int .i64 (sizeB (L.take k) : Nat)) (fun i _ => n - (intOf i).toNat)
  case atStart => exact ⟨0, Nat.zero_le _, rfl, rfl⟩
  case round =>
    obtain ⟨k, hk, rfl, rfl⟩ := hrel
    by_cases hlt : k < n
    · obtain ⟨b, off, rfl, hlt2, hc⟩ := h.at' (by omega)
      have hk' : k < L.length := by rw [Hl.out]; exact hlt
      obtain ⟨A', c', hck, _⟩ := hc k hk'
      have b1 := HLE.out k
      have b2 := HLE.out (k + 1)
      have b3 := sizeB_take_succ L k hk'
      rw [b3] at b2
      have B3 := Lib.hid b3; clear b3 hc
      generalize sizeB (L.take k) = y at *
      generalize L[k].length = x at *
      go_wp2
      go_round
      case rel => exact ⟨k + 1, by omega, by go_num, by rw [B3.out]; go_num⟩
      case measure => simp [intOf]; omega
    · have : k = n := by omega
      subst this
      have e : L.take k = L := List.take_of_length_le (by rw [Hl.out]; exact Nat.le_refl _)
      rw [e]
      go_wp2
      go_ret
      exact ⟨rfl, rfl⟩

set_option maxRecDepth 100000 in
theorem frames_any (A : Option Addr) (n c : Nat) (L : List Bs) (w : World) (h : RdBB w A n L) (hp : ∀ x ∈ L, 0 < x.length) (hs : sizeB L ≤ 100000) :
    Calls Try.prog 83 #[.slice A n c] w fun e w' => ∃ v, e = .returned v ∧ Own8 w' w.heap.size v (framesB L) ∧ Below w.heap.size w w' := by
  have hl := h.len
  have hsl := sizeB_len L
  have hn : n ≤ 100000 := by omega
  have hle : ∀ k, sizeB (L.take k) ≤ 100000 := fun k => Nat.le_trans (sizeB_take_le L k) hs
  have Hl := Lib.hid hl; have HLE := Lib.hid hle; have HP := Lib.hid hp; clear hl hsl hle hs hp
  have H := Lib.hid h; clear h
  go_enter Try.func83, Try.ntmps83
  go_wp2
  go_loopw [3, 8] (fun v i wr => ∃ k : Nat, k ≤ n ∧ i = .int .i64 k ∧ Hid (Own8 wr w.heap.size v (framesB (L.take k))) ∧ Hid (Below w.heap.size w wr)) (fun _ i _ => n - (intOf i).toNat)
  case atStart => exact ⟨0, Nat.zero_le _, rfl, Lib.hid (Own8.nil _ _), Lib.hid (Below.refl _ _)⟩
  case round =>
    obtain ⟨k, hk, rfl, hO, hB⟩ := hrel
    by_cases hlt : k < n
    · obtain ⟨b, off, rfl, hlt2, hc⟩ := (H.out.below hB.out).at' (by omega)
      have hk' : k < L.length := by rw [Hl.out]; exact hlt
      obtain ⟨A', c', hck, hr⟩ := hc k hk'
      have hp1 := HP.out L[k] (List.getElem_mem hk')
      have b1 := HLE.out k
      have b2 := HLE.out (k + 1)
      have b3 := sizeB_take_succ L k hk'
      have b4 := framesB_take_succ L k hk'
      rw [b3] at b2
      have HR := Lib.hid hr; have B4 := Lib.hid b4; clear b3 b4 hc hr
      have hfl : (framesB (L.take k)).length = sizeB (L.take k) := framesB_len _
      have HFL := Lib.hid hfl; clear hfl
      obtain ⟨va, vc, rfl⟩ := hO.out.form
      generalize L[k] = x at *
      go_wp2_with (first
        | (go_at_call 93; refine (frame_any _ _ _ _ _ HR.out (by omega) hp1).mono ?_; rintro e w1 ⟨v1, rfl, O1, B1⟩; obtain ⟨a1, c1, rfl⟩ := O1.form; rw [frameB_len]; obtain ⟨ad, rfl, hcells⟩ := (by simpa [frameB_len] using O1.rd : RdU8 w1 a1 (x.length + 2) (frameB x)).lt_max (by omega); have HC1 := Lib.hid hcells; have HB1 := Lib.hid B1; clear O1 B1 hcells)
        | (at_builtin; refine list_app rfl (.tmp 12) (.tmp 14) 31 rfl w.heap.size 5 (.int .u8 0) 1 1 u8Info Try.underlying31 rfl (by omega) _ (framesB (L.take k)).length _ rfl (hO.out.below HB1.out) ad (x.length + 2) c1 (sc (frameB x)) rfl ?_ HC1.out ?_ ?_ ?_ ?_ ?_; (rw [sc_len, frameB_len]; omega); (exact sc_one _); (rw [HFL.out]; unfold maxLen; omega); (rw [HFL.out]; omega); (exact Nat.le_trans hB.out.size HB1.out.size); intro v6 w6 O6 G6; have HO6 := Lib.hid (app_sc2 O6 rfl (frameB_len x)); have HG6 := Lib.hid G6; clear O6 G6))
      go_roundw
      case rel => exact ⟨k + 1, by omega, by go_num, Lib.hid (by rw [B4.out]; exact HO6.out), Lib.hid ((bthen hB.out HB1.out).grown HG6.out (Nat.le_trans hB.out.size HB1.out.size) (fun j hj => (hO.out.lt j hj).1))⟩
      case measure => simp [intOf]; omega
    · have : k = n := by omega
      subst this
      have e : L.take k = L := List.take_of_length_le (by rw [Hl.out]; exact Nat.le_refl _)
      have hO' := Lib.hid (show Own8 wr w.heap.size u3 (framesB L) by rw [← e]; exact hO.out)
      obtain ⟨va, vc, rfl⟩ := hO'.out.form
      go_wp2
      go_ret
      exact ⟨_, rfl, hO'.out, hB.out⟩
end Go.Proofs.Ytlgimhhhlpmjcaa
