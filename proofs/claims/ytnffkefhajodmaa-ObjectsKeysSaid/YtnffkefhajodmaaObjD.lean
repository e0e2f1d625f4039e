/- objects: widths, folded, Encode. -/
import Derived.Test.YtnffkefhajodmaaObjB
import Derived.Test.YtnffkefhajodmaaBitsC
import Derived.Test.YtnffkefhajodmaaKitB
set_option linter.unusedVariables false
set_option linter.unusedSimpArgs false
namespace Go.Proofs.Ytnffkefhajodmaa
open Go.RowKit

theorem widths_any (w : World) :
    Calls Try.prog 50 #[] w fun e w' => e = .returned (.slice (some ⟨w.heap.size, 0, none⟩) 3 3) ∧ w' = w.alloc (.cells #[.int .i64 4, .int .i64 5, .int .i64 6] 3) := by
  go_enter Try.func50, Try.ntmps50
  go_wp2
  go_ret
  exact ⟨rfl, rfl⟩

/-- cast.Zig, as the code computes it. -/
def zig (v : Int) : Int := bits .xor .u64 (IntKind.u64.wrap (IntKind.u64.wrap v * 2)) (IntKind.u64.wrap (v / 9223372036854775808))

theorem zig_any (v : Int) (w : World) (h1 : -9223372036854775808 ≤ v) (h2 : v ≤ 9223372036854775807) :
    Calls Try.prog 67 #[.int .i64 v] w fun e w' => e = .returned (.int .u64 (zig v)) ∧ w = w' := by
  go_enter Try.func67, Try.ntmps67
  go_wp2
  go_ret
  exact ⟨rfl, rfl⟩

theorem zig_range (v : Int) : 0 ≤ zig v ∧ zig v < 18446744073709551616 := by
  have h1 := bits_lo_u64 .xor (IntKind.u64.wrap (IntKind.u64.wrap v * 2)) (IntKind.u64.wrap (v / 9223372036854775808))
  have h2 := bits_hi_u64 .xor (IntKind.u64.wrap (IntKind.u64.wrap v * 2)) (IntKind.u64.wrap (v / 9223372036854775808))
  unfold zig; omega

theorem folded_any (v : Int) (w : World) (h1 : -9223372036854775808 ≤ v) (h2 : v ≤ 9223372036854775807) :
    Calls Try.prog 46 #[.int .i64 v] w fun e w' => ∃ g bs, e = .returned (.slice (some ⟨g, 0, none⟩) bs.length bs.length) ∧ w.heap.size ≤ g ∧ Below w.heap.size w w' ∧ Bytes w' g bs ∧ Hid (bs = packBytes [64] [zig v]) := by
  have hz := zig_range v
  go_enter Try.func46, Try.ntmps46
  go_wp2_with (go_at_call 67; refine (zig_any _ _ h1 h2).mono ?_; rintro e w1 ⟨rfl, rfl⟩)
  refine (Pack_bytes _ _ 1 1 1 [64] [zig v] _ (RdI.ofBlk (t := 3) (xs := [64]) ((Blk.new w _ _).alloc _) (by simp)) (RdI.ofBlk (t := 25) (xs := [zig v]) (Blk.newAt (w.alloc _) _ _ (w.heap.size + 1) (by simp)) (by simp)) ⟨⟨by omega, by omega, hz.1, hz.2⟩, trivial⟩ (by omega)).mono ?_
  rintro e w2 ⟨g, bs, rfl, hg, hb, hB, hbs⟩
  go_wp2
  go_ret
  exact ⟨g, bs, rfl, by simp at hg; omega, ((((Below.refl w.heap.size w).alloc (Nat.le_refl _) _).alloc (by simp) _).trans (hb.mono (by simp; omega))), hB, hbs⟩

end Go.Proofs.Ytnffkefhajodmaa
