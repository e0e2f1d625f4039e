/- The tape: numbers, the super. -/
import Derived.Test.YtlgimhhhlpmjcaaDskE
import Derived.Test.YtlgimhhhlpmjcaaPlainT
import Derived.Test.YtlgimhhhlpmjcaaOpen
import Derived.Shelf.Spec.SlicesGrow
import Derived.Laws.BitsAllLaws
set_option linter.unusedVariables false
set_option linter.unusedSimpArgs false
namespace Go.Proofs.Ytlgimhhhlpmjcaa
open Go.RowKit Go.Maps Go.WideMaps Go.Shelf

theorem u8Info : (Try.prog.info? 5).map (fun i => (i.zero, i.size, i.bytes)) = some (some (.int .u8 0), 1, 1) := by kernel_rfl
theorem bbInfo : (Try.prog.info? 31).map (fun i => (i.zero, i.size, i.bytes)) = some (some (.slice none 0 0), 1, 24) := by kernel_rfl

/-- Two numbers whose bits are apart. -/
theorem or_low (a c : Int) (ha : 0 ≤ a) (ha2 : a < 16777216) (h0 : 0 ≤ c) (h1 : c < 256) : bits .or .i64 (a * 256) c = a * 256 + c := by
  obtain ⟨n, rfl⟩ := Int.eq_ofNat_of_zero_le ha
  obtain ⟨m, rfl⟩ := Int.eq_ofNat_of_zero_le h0
  have e : ((n : Int) * 256) = ((n * 256 : Nat) : Int) := by omega
  rw [e]
  show IntKind.i64.wrap ((BitVec.ofInt 64 ((n * 256 : Nat) : Int) ||| BitVec.ofInt 64 ((m : Nat) : Int)).toNat : Int) = _
  rw [BitVec.toNat_or, ofInt_u64 _ (by omega), ofInt_u64 _ (by omega), nat_join 8 (n * 256) m (by omega) (by omega), IntKind.wrap_i64]
  omega

theorem number_any (A : Option Addr) (n c : Nat) (xs : Bs) (w : World) (h : RdU8 w A n xs) (hn : n ≤ 4) (hb : okB xs) :
    Calls Try.prog 48 #[.slice A n c] w fun e w' => e = .returned (.int .i64 (numB xs)) ∧ w' = w := by
  have hl := h.len
  have Hl := Lib.hid hl; clear hl
  have HB := Lib.hid hb; clear hb
  go_enter Try.func48, Try.ntmps48
  go_wp2
  go_loop [8, 3] (fun i s => ∃ k : Nat, k ≤ n ∧ i = .int .i64 k ∧ s = .int .i64 (numB (xs.take k))) (fun i _ => n - (intOf i).toNat)
  case atStart => exact ⟨0, Nat.zero_le _, rfl, rfl⟩
  case round =>
    obtain ⟨k, hk, rfl, rfl⟩ := hrel
    by_cases hlt : k < n
    · obtain ⟨b, off, rfl, hlt2, hc⟩ := h.at' (by omega)
      have hk' : k < xs.length := by rw [Hl.out]; exact hlt
      have hck := hc k hk'
      have b5 := HB.out _ (List.getElem_mem hk')
      have b1 := numB_nonneg (okB_take HB.out k)
      have b2 := numB_lt _ (okB_take HB.out k)
      have b3 : numB (xs.take k) < 16777216 := by
        have e : (xs.take k).length = k := by simp; omega
        rw [e] at b2
        have hk3 : k = 0 ∨ k = 1 ∨ k = 2 ∨ k = 3 := by omega
        rcases hk3 with rfl | rfl | rfl | rfl <;> omega
      have b4 := numB_take_succ xs k hk'
      have b6 := or_low _ _ b1 b3 b5.1 b5.2
      have B4 := Lib.hid b4; have B6 := Lib.hid b6; clear hc b2 b4 b6
      obtain ⟨b50, b51⟩ := b5
      generalize xs[k] = x at *
      generalize numB (xs.take k) = y at *
      go_wp2
      go_round
      case rel => exact ⟨k + 1, by omega, by go_num, by rw [B4.out, ← B6.out]⟩
      case measure => simp [intOf]; omega
    · have : k = n := by omega
      subst this
      have e : xs.take k = xs := List.take_of_length_le (by rw [Hl.out]; exact Nat.le_refl _)
      rw [e]
      go_wp2
      go_ret
      exact ⟨rfl, rfl⟩

theorem right_any (A : Option Addr) (n c : Nat) (w : World) (hn : n ≤ 140737488355328) :
    Calls Try.prog 53 #[.slice A n c] w fun e w' => e = .returned (.bool (decide (0 < n) && decide (n ≤ 300))) ∧ w' = w := by
  go_enter Try.func53, Try.ntmps53
  by_cases h1 : 0 < n
  · by_cases h2 : n ≤ 300
    · go_wp2
      go_ret
      exact ⟨by simp [h1, h2]; omega, rfl⟩
    · go_wp2
      go_ret
      exact ⟨by simp [h1, h2]; omega, rfl⟩
  · have : n = 0 := by omega
    subst this
    go_wp2
    go_ret
    exact ⟨by simp, rfl⟩

/-- A row of bytes that a call made. -/
def Own8 (w : World) (base : Nat) (v : Value) (xs : Bs) : Prop := w.ownsRow base 5 1 v xs.length (sc xs)
theorem Own8.nil (w : World) (base : Nat) : Own8 w base (.slice none 0 0) [] := World.ownsRow_nil _ _ _ _
theorem Own8.form {w : World} {base : Nat} {v : Value} {xs : Bs} (h : Own8 w base v xs) : ∃ a c, v = .slice a xs.length c := by
  rcases h.2 with ⟨rfl, h0⟩ | ⟨g', cap, cur, rfl, _⟩
  · rw [h0]; exact ⟨none, 0, rfl⟩
  · exact ⟨_, _, rfl⟩
theorem Own8.rd {w : World} {base n c : Nat} {A : Option Addr} {xs : Bs} (h : Own8 w base (.slice A n c) xs) : RdU8 w A n xs := by
  have hn : n = xs.length := by
    rcases h.2 with ⟨e, h0⟩ | ⟨g, cap, cur, e, _⟩
    · cases e; omega
    · cases e; rfl
  refine ⟨hn.symm, fun h0 => ?_⟩
  rcases h.2 with ⟨e, e0⟩ | ⟨g, cap, cur, e, hg, hgb, e1, e2, e3, e4⟩
  · omega
  · cases e
    refine ⟨g, 0, rfl, (Array.getElem?_eq_some_iff.1 hgb).1, fun i hi => ?_⟩
    have := h.cells (g := g) rfl i (.int .u8 xs[i]) (by simp [sc, hi])
    rw [← this, add_none]
theorem Own8.below {w w' : World} {base : Nat} {v : Value} {xs : Bs} (h : Own8 w base v xs) (hb : Below w.heap.size w w') : Own8 w' base v xs := ownsRow_below h hb
theorem sc_append (a b : Bs) : sc (a ++ b) = sc a ++ sc b := by simp [sc]

theorem app_sc {w : World} {base n : Nat} {v : Value} {xs : Bs} {b : Int} (h : w.ownsRow base 5 1 v (n + 1) (sc xs ++ [.int .u8 b])) (hn : xs.length = n) : Own8 w base v (xs ++ [b]) := by
  unfold Own8
  rw [sc_append]
  simpa [hn, sc] using h
set_option maxRecDepth 100000 in
set_option maxHeartbeats 1000000 in
theorem long_any (n : Int) (w : World) (h0 : 0 ≤ n) (h1 : n < 9223372036854775808) :
    Calls Try.prog 78 #[.int .i64 n] w fun e w' => ∃ v, e = .returned v ∧ Own8 w' w.heap.size v (long4 n) ∧ Below w.heap.size w w' := by
  go_enter Try.func78, Try.ntmps78
  go_wp2
  go_loopw [3, 4] (fun v i wr => ∃ k : Nat, k ≤ 4 ∧ i = .int .i64 (3 - (k : Int)) ∧ Hid (Own8 wr w.heap.size v ((long4 n).take k)) ∧ Hid (Below w.heap.size w wr)) (fun _ i _ => (intOf i + 1).toNat)
  case atStart => exact ⟨0, by omega, rfl, Lib.hid (Own8.nil _ _), Lib.hid (Below.refl _ _)⟩
  case round =>
    obtain ⟨k, hk, rfl, hO, hB⟩ := hrel
    have zr := hB.out.size
    by_cases hlt : k < 4
    · have hk3 : k = 0 ∨ k = 1 ∨ k = 2 ∨ k = 3 := by omega
      rcases hk3 with rfl | rfl | rfl | rfl
      · rw [show (3 : Int) - ((0 : Nat) : Int) = 3 from rfl]
        clear hk hlt
        go_wp2_with (at_builtin; refine list_app rfl (.tmp 9) (.tmp 15) 31 rfl w.heap.size 5 (.int .u8 0) 1 1 u8Info Try.underlying31 rfl (by omega) _ 0 _ rfl (ownsRow_below hO.out ((Below.refl _ _).alloc (Nat.le_refl _) _)) ⟨wr.heap.size, 0, none⟩ 1 1 [.int .u8 (n / 16777216 % 256)] rfl rfl ?_ ?_ ?_ ?_ ?_ ?_; (intro j u hj; match j, hj with | 0, hj => (simp at hj; subst hj; exact (Blk.newAt wr #[.int .u8 (n / 16777216 % 256)] 5 wr.heap.size rfl).cell 0)); (intro u hu; simp at hu; subst hu; rfl); (unfold maxLen; omega); (omega); (simp; omega); intro v6 w6 O6 G6; have HO6 := Lib.hid (app_sc O6 rfl); have HG6 := Lib.hid G6; clear O6 G6)
        go_roundw
        case rel => exact ⟨1, by omega, by go_num, Lib.hid HO6.out, Lib.hid ((hB.out.alloc zr _).grown HG6.out (by simp; omega) (fun j hj => (hO.out.lt j hj).1))⟩
        case measure => simp [intOf]
      · rw [show (3 : Int) - ((1 : Nat) : Int) = 2 from rfl]
        clear hk hlt
        go_wp2_with (at_builtin; refine list_app rfl (.tmp 9) (.tmp 15) 31 rfl w.heap.size 5 (.int .u8 0) 1 1 u8Info Try.underlying31 rfl (by omega) _ 1 _ rfl (ownsRow_below hO.out ((Below.refl _ _).alloc (Nat.le_refl _) _)) ⟨wr.heap.size, 0, none⟩ 1 1 [.int .u8 (n / 65536 % 256)] rfl rfl ?_ ?_ ?_ ?_ ?_ ?_; (intro j u hj; match j, hj with | 0, hj => (simp at hj; subst hj; exact (Blk.newAt wr #[.int .u8 (n / 65536 % 256)] 5 wr.heap.size rfl).cell 0)); (intro u hu; simp at hu; subst hu; rfl); (unfold maxLen; omega); (omega); (simp; omega); intro v6 w6 O6 G6; have HO6 := Lib.hid (app_sc O6 rfl); have HG6 := Lib.hid G6; clear O6 G6)
        go_roundw
        case rel => exact ⟨2, by omega, by go_num, Lib.hid HO6.out, Lib.hid ((hB.out.alloc zr _).grown HG6.out (by simp; omega) (fun j hj => (hO.out.lt j hj).1))⟩
        case measure => simp [intOf]
      · rw [show (3 : Int) - ((2 : Nat) : Int) = 1 from rfl]
        clear hk hlt
        go_wp2_with (at_builtin; refine list_app rfl (.tmp 9) (.tmp 15) 31 rfl w.heap.size 5 (.int .u8 0) 1 1 u8Info Try.underlying31 rfl (by omega) _ 2 _ rfl (ownsRow_below hO.out ((Below.refl _ _).alloc (Nat.le_refl _) _)) ⟨wr.heap.size, 0, none⟩ 1 1 [.int .u8 (n / 256 % 256)] rfl rfl ?_ ?_ ?_ ?_ ?_ ?_; (intro j u hj; match j, hj with | 0, hj => (simp at hj; subst hj; exact (Blk.newAt wr #[.int .u8 (n / 256 % 256)] 5 wr.heap.size rfl).cell 0)); (intro u hu; simp at hu; subst hu; rfl); (unfold maxLen; omega); (omega); (simp; omega); intro v6 w6 O6 G6; have HO6 := Lib.hid (app_sc O6 rfl); have HG6 := Lib.hid G6; clear O6 G6)
        go_roundw
        case rel => exact ⟨3, by omega, by go_num, Lib.hid HO6.out, Lib.hid ((hB.out.alloc zr _).grown HG6.out (by simp; omega) (fun j hj => (hO.out.lt j hj).1))⟩
        case measure => simp [intOf]
      · rw [show (3 : Int) - ((3 : Nat) : Int) = 0 from rfl]
        clear hk hlt
        go_wp2_with (at_builtin; refine list_app rfl (.tmp 9) (.tmp 15) 31 rfl w.heap.size 5 (.int .u8 0) 1 1 u8Info Try.underlying31 rfl (by omega) _ 3 _ rfl (ownsRow_below hO.out ((Below.refl _ _).alloc (Nat.le_refl _) _)) ⟨wr.heap.size, 0, none⟩ 1 1 [.int .u8 (n % 256)] rfl rfl ?_ ?_ ?_ ?_ ?_ ?_; (intro j u hj; match j, hj with | 0, hj => (simp at hj; subst hj; exact (Blk.newAt wr #[.int .u8 (n % 256)] 5 wr.heap.size rfl).cell 0)); (intro u hu; simp at hu; subst hu; rfl); (unfold maxLen; omega); (omega); (simp; omega); intro v6 w6 O6 G6; have HO6 := Lib.hid (app_sc O6 rfl); have HG6 := Lib.hid G6; clear O6 G6)
        go_roundw
        case rel => exact ⟨4, by omega, by go_num, Lib.hid HO6.out, Lib.hid ((hB.out.alloc zr _).grown HG6.out (by simp; omega) (fun j hj => (hO.out.lt j hj).1))⟩
        case measure => simp [intOf]
    · have hk4 : k = 4 := by omega
      subst hk4
      rw [show (3 : Int) - ((4 : Nat) : Int) = -1 from rfl]
      obtain ⟨a, c, rfl⟩ := hO.out.form
      go_wp2
      go_ret
      exact ⟨_, rfl, hO.out, hB.out⟩
end Go.Proofs.Ytlgimhhhlpmjcaa
