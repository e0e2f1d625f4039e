/- The tape: Concat, super. -/
import Derived.Test.YtlgimhhhlpmjcaaTapA
set_option linter.unusedVariables false
set_option linter.unusedSimpArgs false
namespace Go.Proofs.Ytlgimhhhlpmjcaa
open Go.RowKit Go.Maps Go.WideMaps Go.Shelf

/-- A slice of slices of bytes, read. -/
structure RdBB (w : World) (A : Option Addr) (n : Nat) (L : List Bs) : Prop where
  len : L.length = n
  at' : 0 < n → ∃ b off, A = some ⟨b, off, none⟩ ∧ b < w.heap.size ∧ ∀ i (h : i < L.length), ∃ A' c, w.cell? ⟨b, off + i, none⟩ = some (.slice A' L[i].length c) ∧ RdU8 w A' L[i].length L[i]
theorem RdBB.below {w w' : World} {A : Option Addr} {n : Nat} {L : List Bs} (h : RdBB w A n L) (hb : Below w.heap.size w w') : RdBB w' A n L :=
  ⟨h.len, fun hn => by
    obtain ⟨b, off, e, hlt, hc⟩ := h.at' hn
    refine ⟨b, off, e, Nat.lt_of_lt_of_le hlt hb.size, fun i hi => ?_⟩
    obtain ⟨A', c, h1, h2⟩ := hc i hi
    exact ⟨A', c, (hb.cell (p := ⟨b, off + i, none⟩) hlt).trans h1, h2.below hb⟩⟩
theorem RdBB.nil (w : World) (A : Option Addr) : RdBB w A 0 [] := ⟨rfl, fun h => by omega⟩
theorem RdU8.lt_max {w : World} {A : Option Addr} {n : Nat} {xs : Bs} (h : RdU8 w A n xs) (h0 : 0 < n) : ∃ a : Addr, A = some a ∧ ∀ j u, (sc xs)[j]? = some u → w.cell? (a.add j) = some u := by
  obtain ⟨b, off, rfl, hlt, hc⟩ := h.at' h0
  refine ⟨_, rfl, fun j u hj => ?_⟩
  unfold sc at hj
  rw [List.getElem?_map] at hj
  obtain ⟨x, hx, rfl⟩ := Option.map_eq_some_iff.1 hj
  obtain ⟨hlt, rfl⟩ := List.getElem?_eq_some_iff.1 hx
  rw [add_none]
  exact hc j hlt
theorem app_sc2 {w : World} {base n : Nat} {v : Value} {xs ys : Bs} {m : Nat} (h : w.ownsRow base 5 1 v (n + m) (sc xs ++ sc ys)) (hn : xs.length = n) (hm : ys.length = m) : Own8 w base v (xs ++ ys) := by
  unfold Own8
  rw [sc_append, List.length_append, hn, hm]
  exact h

theorem flat_take_succ (L : List Bs) (k : Nat) (h : k < L.length) : (L.take (k + 1)).flatten = (L.take k).flatten ++ L[k] := by
  rw [List.take_succ_eq_append_getElem h, List.flatten_append]; simp
theorem flat_pos : ∀ (L : List Bs), 0 < L.length → (∀ x ∈ L, 0 < x.length) → 0 < L.flatten.length
  | [], h, _ => by simp at h
  | a :: r, _, h => by
    have := h a (by simp)
    rw [List.flatten_cons, List.length_append]; omega

def grRen : Ren := ⟨fun | 4 => 92 | n => n, fun | 0 => 0 | 3 => 3 | 4 => 4 | 9 => 9 | 20 => 20 | 22 => 31 | 25 => 5 | n => n, fun | n => n⟩
theorem grLays : Lays8.n4 Try.prog grRen := {
  mixed := by kernel_rfl
  f4 := ⟨"slices.Grow[[]byte,byte]", by kernel_rfl, Try.func92.trans (congrArg some (by kernel_rfl))⟩
  t0 := Try.underlying0
  a0 := Try.isAgg0
  z0 := Try.sizeOf0
  v0 := Try.zeroValue0
  t3 := Try.underlying3
  a3 := Try.isAgg3
  z3 := Try.sizeOf3
  v3 := Try.zeroValue3
  t4 := Try.underlying4
  a4 := Try.isAgg4
  z4 := Try.sizeOf4
  v4 := Try.zeroValue4
  t9 := Try.underlying9
  a9 := Try.isAgg9
  z9 := Try.sizeOf9
  v9 := Try.zeroValue9
  t20 := Try.underlying20
  a20 := Try.isAgg20
  z20 := Try.sizeOf20
  v20 := Try.zeroValue20
  t22 := Try.underlying31
  a22 := Try.isAgg31
  z22 := Try.sizeOf31
  v22 := Try.zeroValue31 }
theorem grow_nil (n : Nat) (w : World) (h0 : 0 < n) (h1 : n ≤ 100000) :
    Calls Try.prog 92 #[.slice none 0 0, .int .i64 n] w fun e w' => ∃ v, e = .returned v ∧ Own8 w' w.heap.size v [] ∧ Below w.heap.size w w' := by
  obtain ⟨i, hi, hzz⟩ := Option.map_eq_some_iff.1 u8Info
  simp only [Prod.mk.injEq] at hzz
  obtain ⟨hz, hsize, hby⟩ := hzz
  refine (Any8.slices_Grow_grow grLays i (.int .u8 0) hi hz (by omega) none 0 0 n [] w (by omega) (by omega) (by rw [hby]; omega) (by omega) (by simp) (fun _ => rfl) (fun a h => by cases h)).mono ?_
  rintro e w' ⟨rfl, rfl⟩
  refine ⟨_, rfl, ?_, (show Below w.heap.size w w.drew from ⟨rfl, rfl, rfl, Nat.le_refl _, fun _ _ => rfl⟩).alloc (Nat.le_refl _) _⟩
  have g1 := grownCap_ge w n 0 5
  have g2 := grownCap_le_maxLen w n 0 5 (by unfold maxLen; omega)
  refine ⟨by simp [sc], .inr ⟨w.heap.size, grownCap w n 0 5, _, ?_, Nat.le_refl _, heap_alloc_new _ _, by simp, g2, ?_, by simp [sc]⟩⟩
  · simp [grRen]
  · have hz1 : (Value.int IntKind.u8 0).cells.size = 1 := rfl
    simp [size_zeroCells, hz1, grRen]; omega

set_option maxRecDepth 100000 in
set_option maxHeartbeats 1000000 in
theorem concat_any (A : Option Addr) (n c : Nat) (L : List Bs) (w : World) (h : RdBB w A n L) (hp : ∀ x ∈ L, 0 < x.length) (hn : 0 < n) (hs : sizeB L ≤ 1000) :
    Calls Try.prog 77 #[.slice A n c] w fun e w' => ∃ v, e = .returned v ∧ Own8 w' w.heap.size v L.flatten ∧ Below w.heap.size w w' := by
  have hl := h.len
  have Hl := Lib.hid hl; clear hl
  have HP := Lib.hid hp; have HS := Lib.hid hs; clear hp hs
  obtain ⟨b, off, rfl, hlt2, hc⟩ := h.at' hn
  have HC := Lib.hid hc; clear hc
  have htot : ∀ k, k ≤ n → ((L.take k).flatten).length + 2 * k = sizeB (L.take k) := by
    intro k
    induction k with
    | zero => intro _; simp [sizeB]
    | succ k ih =>
      intro hk
      have hk' : k < L.length := by rw [Hl.out]; omega
      rw [sizeB_take_succ L k hk', ← ih (by omega), flat_take_succ L k hk', List.length_append]
      omega
  have HT := Lib.hid htot; clear htot
  have hsl := sizeB_len L
  have hn2 : n ≤ 1000 := by have := HS.out; have := Hl.out; omega
  have hlen : ∀ k, k ≤ n → (L.take k).flatten.length ≤ 1000 := fun k hk => by have := HT.out k hk; have := sizeB_take_le L k; have := HS.out; omega
  have HLE := Lib.hid hlen; clear hlen
  have H := Lib.hid h; clear h hsl
  go_enter Try.func77, Try.ntmps77
  go_wp2
  go_loop [11, 3] (fun i s => ∃ k : Nat, k ≤ n ∧ i = .int .i64 k ∧ s = .int .i64 ((L.take k).flatten.length : Nat)) (fun i _ => n - (intOf i).toNat)
  case atStart => exact ⟨0, Nat.zero_le _, rfl, by simp⟩
  case round =>
    obtain ⟨k, hk, rfl, rfl⟩ := hrel
    by_cases hlt : k < n
    · have hk' : k < L.length := by rw [Hl.out]; exact hlt
      obtain ⟨A', c', hck, _⟩ := HC.out k hk'
      have b1 := HLE.out k hk
      have b2 := HLE.out (k + 1) (by omega)
      have b3 : (L.take (k + 1)).flatten.length = (L.take k).flatten.length + L[k].length := by rw [flat_take_succ L k hk', List.length_append]
      rw [b3] at b2
      have B3 := Lib.hid b3; clear b3
      generalize (L.take k).flatten.length = y at *
      generalize L[k].length = x at *
      go_wp2
      go_round
      case rel => exact ⟨k + 1, by omega, by go_num, by rw [B3.out]; go_num⟩
      case measure => simp [intOf]; omega
    · have : k = n := by omega
      subst this
      have hpos : 0 < (L.take k).flatten.length := by
        have e2 : L.take k = L := List.take_of_length_le (by rw [Hl.out]; exact Nat.le_refl _)
        rw [e2]
        exact flat_pos L (by rw [Hl.out]; omega) HP.out
      have b1 := HLE.out k (Nat.le_refl _)
      generalize (L.take k).flatten.length = y at *
      go_wp2_with (go_at_call 92; refine (grow_nil y _ hpos (by omega)).mono ?_; rintro e w1 ⟨v1, rfl, O1, B1⟩; obtain ⟨va, vc, rfl⟩ := O1.form; have HO1 := Lib.hid O1; have HB1 := Lib.hid B1; clear O1 B1)
      go_loopw [6, 27] (fun v i wr => ∃ j : Nat, j ≤ k ∧ i = .int .i64 j ∧ Hid (Own8 wr w.heap.size v (L.take j).flatten) ∧ Hid (Below w.heap.size w wr)) (fun _ i _ => k - (intOf i).toNat)
      case atStart => exact ⟨0, Nat.zero_le _, rfl, Lib.hid (by simpa using HO1.out), HB1⟩
      case round =>
        obtain ⟨j, hj, rfl, hO, hB⟩ := hrel
        have zr := hB.out.size
        by_cases hlt : j < k
        · have hj' : j < L.length := by rw [Hl.out]; exact hlt
          obtain ⟨A', c', hck, hr⟩ := HC.out j hj'
          have hck' := (hB.out.cell (p := ⟨b, off + j, none⟩) hlt2).trans hck
          have hr' := Lib.hid (hr.below hB.out)
          have hp1 := HP.out L[j] (List.getElem_mem hj')
          obtain ⟨ad, rfl, hcells⟩ := hr'.out.lt_max hp1
          have HCL := Lib.hid hcells
          have b1 := HLE.out j hj
          have b2 := HLE.out (j + 1) (by omega)
          have b3 : (L.take (j + 1)).flatten = (L.take j).flatten ++ L[j] := flat_take_succ L j hj'
          rw [b3, List.length_append] at b2
          have B3 := Lib.hid b3; have HLX := Lib.hid (show (sc L[j]).length = L[j].length * 1 by rw [sc_len]; omega); clear b3 hck hr hcells
          obtain ⟨va2, vc2, rfl⟩ := hO.out.form
          go_wp2_with (at_builtin; refine list_app rfl (.tmp 31) (.tmp 32) 31 rfl w.heap.size 5 (.int .u8 0) 1 1 u8Info Try.underlying31 rfl (by omega) _ (L.take j).flatten.length _ rfl hO.out ad L[j].length c' (sc L[j]) rfl HLX.out HCL.out ?_ ?_ ?_ ?_ ?_; (exact sc_one _); (unfold maxLen; omega); (omega); (omega); intro v6 w6 O6 G6; have HO6 := Lib.hid (app_sc2 O6 rfl rfl); have HG6 := Lib.hid G6; clear O6 G6)
          go_roundw
          case rel => exact ⟨j + 1, by omega, by go_num, Lib.hid (by rw [B3.out]; exact HO6.out), Lib.hid (hB.out.grown HG6.out zr (fun j hj => (hO.out.lt j hj).1))⟩
          case measure => simp [intOf]; omega
        · have : j = k := by omega
          subst this
          have e : L.take j = L := List.take_of_length_le (by rw [Hl.out]; exact Nat.le_refl _)
          have hO' := Lib.hid (show Own8 wr w.heap.size u6 L.flatten by rw [← e]; exact hO.out)
          obtain ⟨va2, vc2, rfl⟩ := hO'.out.form
          go_wp2
          go_ret
          exact ⟨_, rfl, hO'.out, hB.out⟩
end Go.Proofs.Ytlgimhhhlpmjcaa
