/- The law's live question. -/
import Derived.Test.YtjalhcfphhdcbaaStrO
import Derived.Test.YtjalhcfphhdcbaaStrI
import Derived.Lib.SlBytesConst
set_option linter.unusedVariables false
set_option linter.unusedSimpArgs false
namespace Go.Proofs.Ytjalhcfphhdcbaa
open Go.RowKit

theorem rdI_blk {k : IntKind} {w : World} {g t : Nat} {cs : Array Value} {fr : Nat × Nat} (h : w.heap[g]? = some (.cells cs t fr)) (xs : List Int) (hc : cs = (xs.map (Value.int k)).toArray) (hs : xs.length ≤ 1000) : RdJ k w (some ⟨g, 0, none⟩) xs.length xs :=
  ⟨rfl, fun _ => ⟨g, 0, rfl, fun i hi => by
    subst hc
    rw [Nat.zero_add, cell_of_row w g i _ _ _ h]
    simp [hi]⟩⟩
theorem rdI_nil (k : IntKind) (w : World) : RdJ k w none 0 [] := ⟨rfl, fun h => absurd h (by omega)⟩

/-- What the live question makes. -/
def aliveM : List Md := [⟨[1], 0, false⟩, ⟨[1, 2], 0, true⟩, ⟨[2], 0, false⟩, ⟨[1], 1, false⟩]
def aliveW (w : World) : World := ((((((w.alloc (.cells #[.int .i64 1] 3)).alloc (.cells #[.int .i64 1, .int .i64 2] 3)).alloc (.cells #[.int .i64 2] 3)).alloc (.cells #[.int .i64 1] 3)).alloc (.cells #[.int .u8 120] 5 (1, 2))).alloc
  (.cells #[.slice (some ⟨w.heap.size, 0, none⟩) 1 1, .slice none 0 0, .bool false, .slice (some ⟨w.heap.size + 1, 0, none⟩) 2 2, .slice none 0 0, .bool true, .slice (some ⟨w.heap.size + 1 + 1, 0, none⟩) 1 1, .slice none 0 0, .bool false,
    .slice (some ⟨w.heap.size + 1 + 1 + 1, 0, none⟩) 1 1, .slice (some ⟨w.heap.size + 1 + 1 + 1 + 1, 0, none⟩) 1 1, .bool false] 67))

theorem alive_rd (w : World) : RdM (aliveW w) (some ⟨w.heap.size + 1 + 1 + 1 + 1 + 1, 0, none⟩) 4 aliveM := by
  unfold aliveW
  generalize h1 : w.alloc (.cells #[.int .i64 1] 3) = w1
  have z1 : w1.heap.size = w.heap.size + 1 := by rw [← h1]; simp
  have a1 : Blk w1 w.heap.size #[.int .i64 1] 3 := by rw [← h1]; exact Blk.new _ _ _
  generalize h2 : w1.alloc (.cells #[.int .i64 1, .int .i64 2] 3) = w2
  have z2 : w2.heap.size = w.heap.size + 1 + 1 := by rw [← h2]; simp [z1]
  have a2 : Blk w2 (w.heap.size + 1) #[.int .i64 1, .int .i64 2] 3 := by rw [← h2, ← z1]; exact Blk.new _ _ _
  have a1 : Blk w2 w.heap.size #[.int .i64 1] 3 := by rw [← h2]; exact a1.alloc _
  generalize h3 : w2.alloc (.cells #[.int .i64 2] 3) = w3
  have z3 : w3.heap.size = w.heap.size + 1 + 1 + 1 := by rw [← h3]; simp [z2]
  have a3 : Blk w3 (w.heap.size + 1 + 1) #[.int .i64 2] 3 := by rw [← h3, ← z2]; exact Blk.new _ _ _
  have a2 : Blk w3 (w.heap.size + 1) #[.int .i64 1, .int .i64 2] 3 := by rw [← h3]; exact a2.alloc _
  have a1 : Blk w3 w.heap.size #[.int .i64 1] 3 := by rw [← h3]; exact a1.alloc _
  generalize h4 : w3.alloc (.cells #[.int .i64 1] 3) = w4
  have z4 : w4.heap.size = w.heap.size + 1 + 1 + 1 + 1 := by rw [← h4]; simp [z3]
  have a4 : Blk w4 (w.heap.size + 1 + 1 + 1) #[.int .i64 1] 3 := by rw [← h4, ← z3]; exact Blk.new _ _ _
  have a3 : Blk w4 (w.heap.size + 1 + 1) #[.int .i64 2] 3 := by rw [← h4]; exact a3.alloc _
  have a2 : Blk w4 (w.heap.size + 1) #[.int .i64 1, .int .i64 2] 3 := by rw [← h4]; exact a2.alloc _
  have a1 : Blk w4 w.heap.size #[.int .i64 1] 3 := by rw [← h4]; exact a1.alloc _
  generalize h5 : w4.alloc (.cells #[.int .u8 120] 5 (1, 2)) = w5
  have z5 : w5.heap.size = w.heap.size + 1 + 1 + 1 + 1 + 1 := by rw [← h5]; simp [z4]
  have a5 : w5.heap[w.heap.size + 1 + 1 + 1 + 1]? = some (.cells #[.int .u8 120] 5 (1, 2)) := by rw [← h5, ← z4]; exact heap_alloc_new _ _
  have a4 : Blk w5 (w.heap.size + 1 + 1 + 1) #[.int .i64 1] 3 := by rw [← h5]; exact a4.alloc _
  have a3 : Blk w5 (w.heap.size + 1 + 1) #[.int .i64 2] 3 := by rw [← h5]; exact a3.alloc _
  have a2 : Blk w5 (w.heap.size + 1) #[.int .i64 1, .int .i64 2] 3 := by rw [← h5]; exact a2.alloc _
  have a1 : Blk w5 w.heap.size #[.int .i64 1] 3 := by rw [← h5]; exact a1.alloc _
  have b5 : ∀ o, (w5.alloc o).heap[w.heap.size + 1 + 1 + 1 + 1]? = some (.cells #[.int .u8 120] 5 (1, 2)) := fun o => (Below.heap_alloc _ _ _ (by omega)).trans a5
  have r1 := fun o => rdI_blk (k := .i64) (a1.alloc o) [1] rfl (by decide)
  have r2 := fun o => rdI_blk (k := .i64) (a2.alloc o) [1, 2] rfl (by decide)
  have r3 := fun o => rdI_blk (k := .i64) (a3.alloc o) [2] rfl (by decide)
  have r4 := fun o => rdI_blk (k := .i64) (a4.alloc o) [1] rfl (by decide)
  have r5 := fun o => rdI_blk (k := .u8) (b5 o) [120] rfl (by decide)
  refine ⟨rfl, fun _ => ⟨w.heap.size + 1 + 1 + 1 + 1 + 1, 0, rfl, fun i hi => ?_⟩⟩
  rw [← z5]
  have B := fun cs => Blk.new w5 cs 67
  match i, hi with
  | 0, _ => exact ⟨_, _, _, _, _, (B _).cell 0, (B _).cell 1, (B _).cell 2, r1 _, rdI_nil _ _⟩
  | 1, _ => exact ⟨_, _, _, _, _, (B _).cell 3, (B _).cell 4, (B _).cell 5, r2 _, rdI_nil _ _⟩
  | 2, _ => exact ⟨_, _, _, _, _, (B _).cell 6, (B _).cell 7, (B _).cell 8, r3 _, rdI_nil _ _⟩
  | 3, _ => exact ⟨_, _, _, _, _, (B _).cell 9, (B _).cell 10, (B _).cell 11, r4 _, r5 _⟩

theorem below_aliveW (w : World) : Below w.heap.size w (aliveW w) := by
  unfold aliveW
  exact ((((((Below.refl _ _).alloc (Nat.le_refl _) _).alloc (by simp) _).alloc (by simp; omega) _).alloc (by simp; omega) _).alloc (by simp; omega) _).alloc (by simp; omega) _

theorem slots_rd {w : World} {lo n c : Nat} {a : Option Addr} {cs : List Value} {vs : List Sl} (ho : w.ownsRow lo 43 4 (.slice a n c) n cs) (hs : Slots w lo cs vs) (hl : vs.length = n) : RdV w a n vs :=
  ⟨hl, fun h0 => by
    have hh := ho
    obtain ⟨_, h2⟩ := ho
    rcases h2 with ⟨_, h00⟩ | ⟨g, cap, cur, hv, hg, hb, _, _, _, _⟩
    · omega
    · cases hv
      refine ⟨g, 0, rfl, fun i hi => ?_⟩
      obtain ⟨dA, dc, v, h0, h1, h2, h3, hr⟩ := hs.2 i hi
      obtain ⟨ra, rc, rfl⟩ := hr.form
      rw [Nat.zero_add]
      exact ⟨dA, dc, ra, vs[i].bs.length, rc, (World.ownsRow.cellAt hh _ (by omega)).trans h0, (World.ownsRow.cellAt hh _ (by omega)).trans h1, (World.ownsRow.cellAt hh _ (by omega)).trans h2, (World.ownsRow.cellAt hh _ (by omega)).trans h3, hr.rd⟩⟩

def aliveV : List Sl := [⟨1, 1, 0, [⟨1, NN, NN⟩]⟩, ⟨1, 2, 0, []⟩, ⟨1, 1, 0, [⟨2, 1, NN⟩]⟩, ⟨1, 1, 1, [⟨1, 1, 0⟩]⟩]
theorem alive_build : buildP 0 (fun _ => none) aliveM = aliveV := by kernel_rfl
theorem alive_lin : linP 1 aliveV (0 : Int).toNat = ([0, 3], 0) := by kernel_rfl
theorem alive_walk : walkP 1 0 aliveV 3 1 = (0, [0, 3], 3) := by kernel_rfl
theorem alive_small : SmallV aliveV := ⟨by decide, fun x hx => by unfold aliveV at hx; simp at hx; rcases hx with rfl | rfl | rfl | rfl <;> decide⟩
theorem alive_nat : NatV aliveV := fun x hx => by
  unfold aliveV at hx; simp at hx
  rcases hx with rfl | rfl | rfl | rfl <;> (intro k hk; simp at hk) <;> (subst hk; decide)

theorem eql2 (w : World) : (binOp .eql 29 (.agg #[.int .u64 1, .int .u64 0]) (.agg #[.int .u64 1, .int .u64 0])).run Try.prog w = .ok (.bool true) w := by kernel_rfl

set_option maxRecDepth 100000 in
set_option maxHeartbeats 4000000 in
theorem alive_any (w : World) : Calls Try.prog 10 #[] w fun e w' => e = .returned (.bool true) ∧ Below w.heap.size w w' := by
  have hcv : (convert 38 38 (.slice (some ⟨w.heap.size + 1 + 1 + 1 + 1, 0, none⟩) 1 1)).run Try.prog (((((w.alloc (.cells #[.int .i64 1] 3)).alloc (.cells #[.int .i64 1, .int .i64 2] 3)).alloc (.cells #[.int .i64 2] 3)).alloc (.cells #[.int .i64 1] 3)).alloc (.cells #[.int .u8 120] 5)) =
      .ok (.slice (some ⟨w.heap.size + 1 + 1 + 1 + 1, 0, none⟩) 1 1) (((((w.alloc (.cells #[.int .i64 1] 3)).alloc (.cells #[.int .i64 1, .int .i64 2] 3)).alloc (.cells #[.int .i64 2] 3)).alloc (.cells #[.int .i64 1] 3)).alloc (.cells #[.int .u8 120] 5 (1, 2))) := by
    have h := Lib.run_convert_bytes_const (P := Try.prog) ((((w.alloc (.cells #[.int .i64 1] 3)).alloc (.cells #[.int .i64 1, .int .i64 2] 3)).alloc (.cells #[.int .i64 2] 3)).alloc (.cells #[.int .i64 1] 3)) 38 5 #[.int .u8 120] 1 1 Try.underlying38 Try.underlying5
    rw [show ((((w.alloc (.cells #[.int .i64 1] 3)).alloc (.cells #[.int .i64 1, .int .i64 2] 3)).alloc (.cells #[.int .i64 2] 3)).alloc (.cells #[.int .i64 1] 3)).heap.size = w.heap.size + 1 + 1 + 1 + 1 by simp] at h
    exact h
  have hbd := build_any _ 4 4 aliveM (aliveW w) (alive_rd w) ⟨by decide, by decide⟩
  have HBD := Lib.hid hbd; have BA := Lib.hid (below_aliveW w); clear hbd
  go_enter Try.func10, Try.ntmps10
  go_wp2_with fail
  refine HBD.out.mono ?_
  rintro e w2 ⟨va, vc, cs, rfl, ho, hs, hb2⟩
  rw [alive_build] at hs
  have hrd := slots_rd ho hs rfl
  have B2 := Lib.hid (BA.out.trans (hb2.mono BA.out.size))
  have hl := linear_any va 4 vc aliveV 1 0 w2 hrd alive_small (by decide)
  rw [alive_lin] at hl
  have HL := Lib.hid hl; have HRD := Lib.hid hrd; clear hl hrd hb2 ho hs
  go_wp2_with fail
  refine HL.out.mono ?_
  rintro e w3 ⟨vl, rfl, hrl, hb3⟩
  have B3 := Lib.hid (B2.out.trans (hb3.mono B2.out.size))
  have HRD3 := Lib.hid (HRD.out.below hb3)
  have hw := Walk_any va 4 vc aliveV 1 0 3 1 w3 HRD3.out alive_small alive_nat (by decide) (by decide) (by decide)
  rw [alive_walk] at hw
  have HW := Lib.hid hw; have HRL := Lib.hid hrl; clear hw hb3 hrl
  go_wp2_with fail
  refine HW.out.mono ?_
  rintro e w4 ⟨vw, rfl, hrw, hb4⟩
  have B4 := Lib.hid (B3.out.trans (hb4.mono B3.out.size))
  have HRD4 := Lib.hid (HRD3.out.below hb4)
  have HRL4 := Lib.hid (HRL.out.below hb4)
  have hsm := same_any vl vw _ _ [0, 3] [0, 3] w4 HRL4.out hrw (by decide)
  have HSM := Lib.hid hsm; clear hsm hb4 hrw
  obtain ⟨la, lc, rfl⟩ := HRL4.out.form
  obtain ⟨gl, rfl, hgl, hlc⟩ := HRL4.out.at' (by decide)
  have l1 := hlc 1 (by decide)
  obtain ⟨g, off, rfl, hvc⟩ := HRD4.out.at' (by decide)
  obtain ⟨dA, dc, bA, bn, bc, -, -, -, v3, hbr⟩ := hvc 3 (by decide)
  have hbn := hbr.len
  have hbn' : bn = 1 := hbn.symm
  subst hbn'
  obtain ⟨bb, bo, rfl, hbc⟩ := hbr.at' (by decide)
  obtain ⟨-, k1, k2⟩ := hbc 0 (by decide)
  have K1 : w4.cell? ⟨bb, bo + 1, none⟩ = some (.int .u64 1) := k1
  have K2 : w4.cell? ⟨bb, bo + 2, none⟩ = some (.int .u64 0) := k2
  have L1 : w4.cell? ⟨gl, 1, none⟩ = some (.int .u64 3) := l1
  have V3 : w4.cell? ⟨g, off + 15, none⟩ = some (.slice (some ⟨bb, bo, none⟩) 1 bc) := v3
  clear l1 v3 k1 k2 hbc hvc hlc hbr
  go_wp2_with fail
  refine HSM.out.mono ?_
  rintro e w5 ⟨rfl, hb5⟩
  have B5 := Lib.hid (B4.out.trans (hb5.mono B4.out.size))
  have K1' := (hb5.cell (p := ⟨bb, bo + 1, none⟩) (World.block_lt_of_cell? w4 _ K1)).trans K1
  have K2' := (hb5.cell (p := ⟨bb, bo + 2, none⟩) (World.block_lt_of_cell? w4 _ K2)).trans K2
  have V3' := (hb5.cell (p := ⟨g, off + 15, none⟩) (World.block_lt_of_cell? w4 _ V3)).trans V3
  clear hb5
  simp only [decide_true]
  have heq := eql2
  go_wp2
  go_ret
  exact ⟨rfl, B5.out⟩
end Go.Proofs.Ytjalhcfphhdcbaa
