/- The law's small functions: fits, told, same. -/
import Derived.Test.YtjalhcfphhdcbaaStrG
set_option linter.unusedVariables false
set_option linter.unusedSimpArgs false
namespace Go.Proofs.Ytjalhcfphhdcbaa
open Go.RowKit

theorem fits7_any (kind : Int) (dA : Option Addr) (nd dc : Nat) (A : Option Addr) (n c : Nat) (w : World) :
    Calls Try.prog 34 #[.agg #[.int .i64 kind, .slice dA nd dc, .slice A n c]] w fun e w' => e = .returned (.bool (decide (nd ≤ 400 ∧ n ≤ 30))) ∧ Below w.heap.size w w' := by
  have b1 : Below w.heap.size w (w.alloc (.cells #[.int .i64 kind, .slice dA nd dc, .slice A n c] 41)) := (Below.refl _ _).alloc (Nat.le_refl _) _
  by_cases hd : (nd : Int) ≤ 400
  · go_enter Try.func34, Try.ntmps34
    go_wp2
    go_ret
    exact ⟨ret_bool (by rw [Bool.eq_iff_iff]; simp; omega), b1⟩
  · go_enter Try.func34, Try.ntmps34
    go_wp2
    go_ret
    exact ⟨ret_bool (by rw [Bool.eq_iff_iff]; simp; omega), b1⟩

set_option maxRecDepth 100000 in
theorem fits_any (A : Option Addr) (n c : Nat) (vs : List Sl) (w : World) (h : RdV w A n vs) :
    Calls Try.prog 17 #[.slice A n c] w fun e w' => ∃ r : Bool, e = .returned (.bool r) ∧ (r = true → vs.length ≤ 100 ∧ ∀ x ∈ vs, x.bs.length ≤ 30) ∧ Below w.heap.size w w' := by
  have hlen := h.len
  have HH := Lib.hid h; clear h
  go_enter Try.func17, Try.ntmps17
  go_wp2
  go_loopw [3] (fun i wr => ∃ k : Nat, k ≤ n ∧ k ≤ 100 ∧ i = .int .i64 k ∧ Below w.heap.size w wr ∧ Hid (∀ i (h : i < vs.length), i < k → vs[i].bs.length ≤ 30)) (fun i _ => n - (intOf i).toNat)
  case atStart => exact ⟨0, Nat.zero_le _, Nat.zero_le _, rfl, Below.refl _ _, Lib.hid (fun i h h0 => absurd h0 (by omega))⟩
  case round =>
    obtain ⟨k, hk, hk100, rfl, hb, hf⟩ := hrel
    by_cases hlt : k < n
    · obtain ⟨b, off, rfl, hc⟩ := (HH.out.below hb).at' (by omega)
      have hk1 : k < vs.length := by omega
      have hsl := hc k hk1
      have hvk : ∀ y, vs[k] = y → y.bs.length ≤ 30 → ∀ i (h : i < vs.length), i < k + 1 → vs[i].bs.length ≤ 30 := fun y hy hy2 i h hi => by
        by_cases hik : i < k
        · exact hf.out i h hik
        · have : i = k := by omega
          subst this
          rw [hy]; exact hy2
      generalize hx : vs[k] = x at *
      have HVK := Lib.hid (hvk x rfl); clear hvk hc
      obtain ⟨st, kind, nd, bs⟩ := x
      obtain ⟨dA, dc, A', n', c', d0, d1, d2, d3, hrb⟩ := hsl
      dsimp only at d0 d1 d2 d3 hrb HVK
      have hl' := hrb.len
      have hzr := hb.size
      have HB := Lib.hid hb; clear hb hrb hx
      go_wp2_with fail
      refine (fits7_any kind dA nd dc A' n' c' _).mono ?_
      rintro e w2 ⟨rfl, hb2⟩
      have B2 := Lib.hid (HB.out.trans (hb2.mono hzr)); clear hb2
      cases hfit : decide (nd ≤ 400 ∧ n' ≤ 30) with
      | true =>
        have hfit' := of_decide_eq_true hfit
        by_cases h100 : (k : Int) = 100
        · go_wp2
          go_ret
          exact ⟨false, rfl, fun h => by simp at h, B2.out⟩
        · have hkl : (k : Int) < 100 := by omega
          have hkn : (k : Int) < n := by omega
          have H30 := Lib.hid (HVK.out (by omega))
          clear hfit'
          go_wp2
          go_roundw
          case rel => exact ⟨k + 1, by omega, by omega, by go_num, B2.out, Lib.hid H30.out⟩
          case measure => simp [intOf]; omega
      | false =>
        go_wp2
        go_ret
        exact ⟨false, rfl, fun h => by simp at h, B2.out⟩
    · have hkk : k = n := by omega
      subst hkk
      have HB := Lib.hid hb; clear hb
      go_wp2
      go_ret
      exact ⟨true, rfl, fun _ => ⟨by omega, fun x hx => by
        obtain ⟨i, hi, rfl⟩ := List.getElem_of_mem hx
        exact hf.out i hi (by omega)⟩, HB.out⟩

/-- The cells of a row as they lie. -/
def rawC (w : World) (b off : Nat) (k : Nat) : List Value := (List.range (k * 4)).map fun j => (w.cell? ⟨b, off + j, none⟩).getD undef
theorem rawC_succ (w : World) (b off k : Nat) (x0 x1 x2 x3 : Value) (h0 : w.cell? ⟨b, off + k * 4, none⟩ = some x0) (h1 : w.cell? ⟨b, off + k * 4 + 1, none⟩ = some x1) (h2 : w.cell? ⟨b, off + k * 4 + 2, none⟩ = some x2) (h3 : w.cell? ⟨b, off + k * 4 + 3, none⟩ = some x3) :
    rawC w b off (k + 1) = rawC w b off k ++ [x0, x1, x2, x3] := by
  unfold rawC
  rw [show (k + 1) * 4 = k * 4 + 4 by omega, List.range_add]
  simp only [List.map_append, List.map_map]
  congr 1
  simp only [Nat.add_assoc] at h1 h2 h3
  simp [List.range_succ_eq_map, h0, h1, h2, h3, Function.comp]
theorem rawC_get (w : World) (b off k i j : Nat) (h : i * 4 + j < k * 4) {x : Value} (hx : w.cell? ⟨b, off + i * 4 + j, none⟩ = some x) : (rawC w b off k)[i * 4 + j]? = some x := by
  unfold rawC
  rw [List.getElem?_map, List.getElem?_range h]
  simp [← Nat.add_assoc, hx]
theorem slotInfo : (Try.prog.info? 59).map (fun i => (i.zero, i.size, i.bytes)) = some (some (.agg #[.int .i64 0, .int .i64 0, .slice none 0 0, .slice none 0 0]), 4, 64) := by kernel_rfl

set_option maxRecDepth 100000 in
theorem told_any (A : Option Addr) (n c : Nat) (vs : List Sl) (w : World) (h : RdV w A n vs) (hn : n ≤ 100) :
    Calls Try.prog 19 #[.slice A n c] w fun e w' => ∃ A' c', e = .returned (.slice A' n c') ∧ RdV w' A' n vs ∧ Below w.heap.size w w' := by
  have hlen := h.len
  by_cases h0 : n = 0
  · subst h0
    go_enter Try.func19, Try.ntmps19
    go_wp2
    refine wp_loop_rounds 1 ?_
    rw [rounds_succ]
    go_wp2
    go_ret
    exact ⟨none, 0, rfl, ⟨hlen, fun h => absurd h (by omega)⟩, Below.refl _ _⟩
  · obtain ⟨b, off, rfl, hc⟩ := h.at' (by omega)
    have HC := Lib.hid hc; clear hc h
    go_enter Try.func19, Try.ntmps19
    go_wp2
    go_loopw [3, 4] (fun o i wr => ∃ k : Nat, k ≤ n ∧ i = .int .i64 k ∧ Below w.heap.size w wr ∧ Hid (wr.ownsRow w.heap.size 59 4 o k (rawC w b off k))) (fun _ i _ => n - (intOf i).toNat)
    case atStart => exact ⟨0, Nat.zero_le _, rfl, Below.refl _ _, Lib.hid (World.ownsRow_nil _ _ _ _)⟩
    case round =>
      obtain ⟨k, hk, rfl, hb, ho⟩ := hrel
      by_cases hlt : k < n
      · have hk1 : k < vs.length := by omega
        obtain ⟨dA, dc, A', n', c', d0, d1, d2, d3, hrb⟩ := HC.out k hk1
        have hr := rawC_succ w b off k _ _ _ _ d0 d1 d2 d3
        have hbw : b < w.heap.size := World.block_lt_of_cell? w _ d0
        have e0 := (hb.cell (p := ⟨b, off + k * 4, none⟩) hbw).trans d0
        have e1 := (hb.cell (p := ⟨b, off + k * 4 + 1, none⟩) hbw).trans d1
        have e2 := (hb.cell (p := ⟨b, off + k * 4 + 2, none⟩) hbw).trans d2
        have e3 := (hb.cell (p := ⟨b, off + k * 4 + 3, none⟩) hbw).trans d3
        have HR := Lib.hid hr; clear hr d0 d1 d2 d3 hrb
        generalize vs[k] = x at *
        obtain ⟨st, kind, nd, bs⟩ := x
        dsimp only at e0 e1 e2 e3 HR
        have hzr := hb.size
        have HB := Lib.hid hb; clear hb
        have hkn : (k : Int) < n := by omega
        have hk0 : (0 : Int) ≤ (k : Int) := by omega
        have hk100 : (k : Int) < 100 := by omega
        go_wp2_with fail
        have hbr : b < wr.heap.size := by omega
        have hown : (wr.alloc (.cells #[.int .i64 st, .int .i64 kind, .slice dA nd dc, .slice A' n' c'] 59)).ownsRow w.heap.size 59 4 u3 k (rawC w b off k) := ownsRow_below ho.out ((Below.refl _ _).alloc (Nat.le_refl _) _)
        have HOW := Lib.hid hown; clear hown
        have BA := Lib.hid (((Below.refl wr.heap.size wr).alloc (Nat.le_refl _) (.cells #[.int .i64 st, .int .i64 kind, .slice dA nd dc, .slice A' n' c'] 59)).drew)
        have K1 := Lib.hid (Blk.new wr #[.int .i64 st, .int .i64 kind, .slice dA nd dc, .slice A' n' c'] 59)
        go_region_held3 (fun W => W.cell? ⟨b, off + k * 4, none⟩ = some (.int .i64 st) ∧ W.cell? ⟨b, off + k * 4 + 1, none⟩ = some (.int .i64 kind) ∧ W.cell? ⟨b, off + k * 4 + 2, none⟩ = some (.slice dA nd dc) ∧ W.cell? ⟨b, off + k * 4 + 3, none⟩ = some (.slice A' n' c')) (first | exact ⟨r0, r1, r2, r3⟩ | go_keep)
          (first
            | (refine step_app rfl _ _ 49 rfl w.heap.size 59 (.agg #[.int .i64 0, .int .i64 0, .slice none 0 0, .slice none 0 0]) 4 64 slotInfo Try.underlying49 rfl (by omega) u3 k (rawC w b off k) rfl HOW.out.drew ⟨wr.heap.size, 0, none⟩ 1 1 [.int .i64 st, .int .i64 kind, .slice dA nd dc, .slice A' n' c'] rfl rfl ?_ ?_ ?_ ?_ ?_ ?_
               · intro j u hj; match j, hj with | 0, hj => (simp at hj; subst hj; exact K1.out.drew.cell 0) | 1, hj => (simp at hj; subst hj; exact K1.out.drew.cell 1) | 2, hj => (simp at hj; subst hj; exact K1.out.drew.cell 2) | 3, hj => (simp at hj; subst hj; exact K1.out.drew.cell 3)
               · intro u hu; simp at hu; rcases hu with rfl | rfl | rfl | rfl <;> rfl
               · unfold maxLen; omega
               · omega
               · show w.heap.size ≤ (wr.alloc _).heap.size; simp; omega
               intro v4 w4 O4 G4
               have hg4 := G4.block b (by show b < (wr.alloc _).heap.size; simp; omega) (fun e => by have := (HOW.out.lt b e.symm).1; omega)
               have r0 : w4.cell? ⟨b, off + k * 4, none⟩ = some (.int .i64 st) := (World.cell?_of_block (a := ⟨b, _, none⟩) hg4).trans ((BA.out.cell (p := ⟨b, _, none⟩) hbr).trans e0)
               have r1 : w4.cell? ⟨b, off + k * 4 + 1, none⟩ = some (.int .i64 kind) := (World.cell?_of_block (a := ⟨b, _, none⟩) hg4).trans ((BA.out.cell (p := ⟨b, _, none⟩) hbr).trans e1)
               have r2 : w4.cell? ⟨b, off + k * 4 + 2, none⟩ = some (.slice dA nd dc) := (World.cell?_of_block (a := ⟨b, _, none⟩) hg4).trans ((BA.out.cell (p := ⟨b, _, none⟩) hbr).trans e2)
               have r3 : w4.cell? ⟨b, off + k * 4 + 3, none⟩ = some (.slice A' n' c') := (World.cell?_of_block (a := ⟨b, _, none⟩) hg4).trans ((BA.out.cell (p := ⟨b, _, none⟩) hbr).trans e3)
               have HO4 := Lib.hid O4; have HG4 := Lib.hid G4; clear O4 G4))
        go_wp2
        go_roundw
        case rel =>
          refine ⟨k + 1, by omega, by go_num, ?_, Lib.hid ?_⟩
          · exact ((HB.out.alloc hzr _).drew).grown HG4.out (by show w.heap.size ≤ (wr.alloc _).heap.size; simp; omega) (fun j hj => (HOW.out.lt j hj).1)
          · rw [HR.out]; exact HO4.out
        case measure => simp [intOf]; omega
      · have hkk : k = n := by omega
        subst hkk
        obtain ⟨_, h2⟩ := ho.out
        have HO := ho
        rcases h2 with ⟨_, h00⟩ | ⟨g, cap, cur, rfl, hg, hh, _, _, _, _⟩
        · exact absurd h00 h0
        have HB := Lib.hid hb; clear hb
        go_wp2
        go_ret
        refine ⟨_, _, rfl, ⟨hlen, fun _ => ⟨g, 0, rfl, fun i hi => ?_⟩⟩, HB.out⟩
        obtain ⟨dA, dc, A', n', c', d0, d1, d2, d3, hrb⟩ := HC.out i hi
        have c0 := HO.out.cellAt (i * 4) (by omega)
        have c1 := HO.out.cellAt (i * 4 + 1) (by omega)
        have c2 := HO.out.cellAt (i * 4 + 2) (by omega)
        have c3 := HO.out.cellAt (i * 4 + 3) (by omega)
        rw [show i * 4 = i * 4 + 0 by rfl, rawC_get w b off k i 0 (by omega) d0] at c0
        rw [rawC_get w b off k i 1 (by omega) d1] at c1
        rw [rawC_get w b off k i 2 (by omega) d2] at c2
        rw [rawC_get w b off k i 3 (by omega) d3] at c3
        rw [Nat.zero_add]
        exact ⟨dA, dc, A', n', c', c0, c1, c2, c3, hrb.below HB.out⟩
end Go.Proofs.Ytjalhcfphhdcbaa
