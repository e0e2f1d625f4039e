/- The law's small, made; the document's Ahead. -/
import Derived.Test.YtjalhcfphhdcbaaStrS
set_option linter.unusedVariables false
set_option linter.unusedSimpArgs false
namespace Go.Proofs.Ytjalhcfphhdcbaa
open Go.RowKit

def SmallPost (w : World) (ms : List Md) (e : Ending) (w' : World) : Prop := ∃ r : Bool, e = .returned (.bool r) ∧ (r = true → SmallM ms) ∧ w' = w
theorem SmallPost.mk' {w : World} {ms : List Md} {e : Ending} {w' : World} (h : ∃ r : Bool, e = .returned (.bool r) ∧ (r = true → SmallM ms) ∧ w' = w) : SmallPost w ms e w' := h

set_option maxRecDepth 100000 in
theorem small_any (A : Option Addr) (n c : Nat) (ms : List Md) (w : World) (h : RdM w A n ms) :
    Calls Try.prog 9 #[.slice A n c] w fun e w' => SmallPost w ms e w' := by
  have hlen := h.len
  have HH := Lib.hid h; clear h
  go_enter Try.func9, Try.ntmps9
  go_wp2
  go_loopw [3] (fun i wr => ∃ k : Nat, k ≤ n ∧ k ≤ 100 ∧ i = .int .i64 k ∧ wr = w ∧ Hid (∀ i (h : i < ms.length), i < k → ms[i].str.length ≤ 100 ∧ ms[i].nd ≤ 1000)) (fun i _ => n - (intOf i).toNat)
  case atStart => exact ⟨0, Nat.zero_le _, Nat.zero_le _, rfl, rfl, Lib.hid (fun i h h0 => absurd h0 (by omega))⟩
  case round =>
    obtain ⟨k, hk, hk100, rfl, rfl, hf⟩ := hrel
    by_cases hlt : k < n
    · obtain ⟨b, off, rfl, hc⟩ := HH.out.at' (by omega)
      have hk1 : k < ms.length := by omega
      have hsl := hc k hk1
      have hvk : ∀ y, ms[k] = y → y.str.length ≤ 20 → y.nd ≤ 200 → ∀ i (h : i < ms.length), i < k + 1 → ms[i].str.length ≤ 100 ∧ ms[i].nd ≤ 1000 := fun y hy h1 h2 i h hi => by
        by_cases hik : i < k
        · exact hf.out i h hik
        · have : i = k := by omega
          subst this
          rw [hy]; omega
      generalize hx : ms[k] = x at *
      have HVK := Lib.hid (hvk x rfl); clear hvk hc
      obtain ⟨str, nd, junk⟩ := x
      obtain ⟨sA, sc, dA, dc, ds, d0, d1, d2, _, _⟩ := hsl
      dsimp only at d0 d1 d2 HVK
      clear hx
      have hkn : (k : Int) < n := by omega
      by_cases h100 : (k : Int) = 100
      · go_wp2
        go_ret
        exact SmallPost.mk' ⟨false, rfl, fun h => by simp at h, by first | rfl | trivial⟩
      · have hkl : (k : Int) < 100 := by omega
        by_cases hs : (20 : Int) < str.length
        · go_wp2
          go_ret
          exact SmallPost.mk' ⟨false, rfl, fun h => by simp at h, by first | rfl | trivial⟩
        · by_cases hd : (200 : Int) < nd
          · go_wp2
            go_ret
            exact SmallPost.mk' ⟨false, rfl, fun h => by simp at h, by first | rfl | trivial⟩
          · have H30 := Lib.hid (HVK.out (by omega) (by omega))
            go_wp2
            go_roundw
            case rel => exact ⟨k + 1, by omega, by omega, by go_num, by first | rfl | trivial, Lib.hid H30.out⟩
            case measure => simp [intOf]; omega
    · have hkk : k = n := by omega
      subst hkk
      go_wp2
      go_ret
      exact SmallPost.mk' ⟨true, rfl, fun _ => ⟨by omega, fun x hx => by
        obtain ⟨i, hi, rfl⟩ := List.getElem_of_mem hx
        exact hf.out i hi (by omega)⟩, by first | rfl | trivial⟩

/-- The cells of a row of makings as they lie. -/
def rawM (w : World) (b off : Nat) (k : Nat) : List Value := (List.range (k * 3)).map fun j => (w.cell? ⟨b, off + j, none⟩).getD undef
theorem rawM_succ (w : World) (b off k : Nat) (x0 x1 x2 : Value) (h0 : w.cell? ⟨b, off + k * 3, none⟩ = some x0) (h1 : w.cell? ⟨b, off + k * 3 + 1, none⟩ = some x1) (h2 : w.cell? ⟨b, off + k * 3 + 2, none⟩ = some x2) :
    rawM w b off (k + 1) = rawM w b off k ++ [x0, x1, x2] := by
  unfold rawM
  rw [show (k + 1) * 3 = k * 3 + 3 by omega, List.range_add]
  simp only [List.map_append, List.map_map]
  congr 1
  simp only [Nat.add_assoc] at h1 h2
  simp [List.range_succ_eq_map, h0, h1, h2, Function.comp]
theorem rawM_get (w : World) (b off k i j : Nat) (h : i * 3 + j < k * 3) {x : Value} (hx : w.cell? ⟨b, off + i * 3 + j, none⟩ = some x) : (rawM w b off k)[i * 3 + j]? = some x := by
  unfold rawM
  rw [List.getElem?_map, List.getElem?_range h]
  simp [← Nat.add_assoc, hx]
theorem madeInfo : (Try.prog.info? 74).map (fun i => (i.zero, i.size, i.bytes)) = some (some (.agg #[.slice none 0 0, .slice none 0 0, .bool false]), 3, 56) := by kernel_rfl

set_option maxRecDepth 100000 in
theorem made_any (A : Option Addr) (n c : Nat) (ms : List Md) (w : World) (h : RdM w A n ms) (hn : n ≤ 100) :
    Calls Try.prog 13 #[.slice A n c] w fun e w' => ∃ A' c', e = .returned (.slice A' n c') ∧ RdM w' A' n ms ∧ Below w.heap.size w w' := by
  have hlen := h.len
  by_cases h0 : n = 0
  · subst h0
    go_enter Try.func13, Try.ntmps13
    go_wp2
    refine wp_loop_rounds 1 ?_
    rw [rounds_succ]
    go_wp2
    go_ret
    exact ⟨none, 0, rfl, ⟨hlen, fun h => absurd h (by omega)⟩, Below.refl _ _⟩
  · obtain ⟨b, off, rfl, hc⟩ := h.at' (by omega)
    have HC := Lib.hid hc; clear hc h
    go_enter Try.func13, Try.ntmps13
    go_wp2
    go_loopw [3, 4] (fun o i wr => ∃ k : Nat, k ≤ n ∧ i = .int .i64 k ∧ Below w.heap.size w wr ∧ Hid (wr.ownsRow w.heap.size 74 3 o k (rawM w b off k))) (fun _ i _ => n - (intOf i).toNat)
    case atStart => exact ⟨0, Nat.zero_le _, rfl, Below.refl _ _, Lib.hid (World.ownsRow_nil _ _ _ _)⟩
    case round =>
      obtain ⟨k, hk, rfl, hb, ho⟩ := hrel
      by_cases hlt : k < n
      · have hk1 : k < ms.length := by omega
        obtain ⟨sA, sc, dA, dc, ds, d0, d1, d2, _, _⟩ := HC.out k hk1
        have hr := rawM_succ w b off k _ _ _ d0 d1 d2
        have hbw : b < w.heap.size := World.block_lt_of_cell? w _ d0
        have e0 := (hb.cell (p := ⟨b, off + k * 3, none⟩) hbw).trans d0
        have e1 := (hb.cell (p := ⟨b, off + k * 3 + 1, none⟩) hbw).trans d1
        have e2 := (hb.cell (p := ⟨b, off + k * 3 + 2, none⟩) hbw).trans d2
        have HR := Lib.hid hr; clear hr d0 d1 d2
        generalize ms[k] = x at *
        obtain ⟨str, nd, junk⟩ := x
        dsimp only at e0 e1 e2 HR
        have hzr := hb.size
        have HB := Lib.hid hb; clear hb
        have hkn : (k : Int) < n := by omega
        have hk0 : (0 : Int) ≤ (k : Int) := by omega
        have hk100 : (k : Int) < 100 := by omega
        go_wp2_with fail
        have hbr : b < wr.heap.size := by omega
        have hown : (wr.alloc (.cells #[.slice sA str.length sc, .slice dA nd dc, .bool junk] 74)).ownsRow w.heap.size 74 3 u3 k (rawM w b off k) := ownsRow_below ho.out ((Below.refl _ _).alloc (Nat.le_refl _) _)
        have HOW := Lib.hid hown; clear hown
        have BA := Lib.hid (((Below.refl wr.heap.size wr).alloc (Nat.le_refl _) (.cells #[.slice sA str.length sc, .slice dA nd dc, .bool junk] 74)).drew)
        have K1 := Lib.hid (Blk.new wr #[.slice sA str.length sc, .slice dA nd dc, .bool junk] 74)
        go_region_held3 (fun W => W.cell? ⟨b, off + k * 3, none⟩ = some (.slice sA str.length sc) ∧ W.cell? ⟨b, off + k * 3 + 1, none⟩ = some (.slice dA nd dc) ∧ W.cell? ⟨b, off + k * 3 + 2, none⟩ = some (.bool junk)) (first | exact ⟨r0, r1, r2⟩ | go_keep)
          (first
            | (refine step_app rfl _ _ 31 rfl w.heap.size 74 (.agg #[.slice none 0 0, .slice none 0 0, .bool false]) 3 56 madeInfo Try.underlying31 rfl (by omega) u3 k (rawM w b off k) rfl HOW.out.drew ⟨wr.heap.size, 0, none⟩ 1 1 [.slice sA str.length sc, .slice dA nd dc, .bool junk] rfl rfl ?_ ?_ ?_ ?_ ?_ ?_
               · intro j u hj; match j, hj with | 0, hj => (simp at hj; subst hj; exact K1.out.drew.cell 0) | 1, hj => (simp at hj; subst hj; exact K1.out.drew.cell 1) | 2, hj => (simp at hj; subst hj; exact K1.out.drew.cell 2)
               · intro u hu; simp at hu; rcases hu with rfl | rfl | rfl <;> rfl
               · unfold maxLen; omega
               · omega
               · show w.heap.size ≤ (wr.alloc _).heap.size; simp; omega
               intro v4 w4 O4 G4
               have hg4 := G4.block b (by show b < (wr.alloc _).heap.size; simp; omega) (fun e => by have := (HOW.out.lt b e.symm).1; omega)
               have r0 : w4.cell? ⟨b, off + k * 3, none⟩ = some (.slice sA str.length sc) := (World.cell?_of_block (a := ⟨b, _, none⟩) hg4).trans ((BA.out.cell (p := ⟨b, _, none⟩) hbr).trans e0)
               have r1 : w4.cell? ⟨b, off + k * 3 + 1, none⟩ = some (.slice dA nd dc) := (World.cell?_of_block (a := ⟨b, _, none⟩) hg4).trans ((BA.out.cell (p := ⟨b, _, none⟩) hbr).trans e1)
               have r2 : w4.cell? ⟨b, off + k * 3 + 2, none⟩ = some (.bool junk) := (World.cell?_of_block (a := ⟨b, _, none⟩) hg4).trans ((BA.out.cell (p := ⟨b, _, none⟩) hbr).trans e2)
               have HO4 := Lib.hid O4; have HG4 := Lib.hid G4; clear O4 G4))
        go_wp2
        go_roundw
        case rel =>
          refine ⟨k + 1, by omega, by go_num, ?_, Lib.hid ?_⟩
          · exact ((HB.out.alloc hzr _).drew).grown HG4.out (by show w.heap.size ≤ (wr.alloc _).heap.size; simp; omega) (fun j hj => (HOW.out.lt j hj).1)
          · rw [HR.out]; exact HO4.out
        case measure => simp [intOf]; omega
      · have hkk : k = n := by omega
        subst hkk
        obtain ⟨_, h2⟩ := ho.out
        have HO := ho
        rcases h2 with ⟨_, h00⟩ | ⟨g, cap, cur, rfl, hg, hh, _, _, _, _⟩
        · exact absurd h00 h0
        have HB := Lib.hid hb; clear hb
        go_wp2
        go_ret
        refine ⟨_, _, rfl, ⟨hlen, fun _ => ⟨g, 0, rfl, fun i hi => ?_⟩⟩, HB.out⟩
        obtain ⟨sA, sc, dA, dc, ds, d0, d1, d2, hs, hd⟩ := HC.out i hi
        have c0 := HO.out.cellAt (i * 3) (by omega)
        have c1 := HO.out.cellAt (i * 3 + 1) (by omega)
        have c2 := HO.out.cellAt (i * 3 + 2) (by omega)
        rw [show i * 3 = i * 3 + 0 by rfl, rawM_get w b off k i 0 (by omega) d0] at c0
        rw [rawM_get w b off k i 1 (by omega) d1] at c1
        rw [rawM_get w b off k i 2 (by omega) d2] at c2
        rw [Nat.zero_add]
        exact ⟨sA, sc, dA, dc, ds, c0, c1, c2, hs.below HB.out, hd.below HB.out⟩
end Go.Proofs.Ytjalhcfphhdcbaa
