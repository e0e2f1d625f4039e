/- DiskNil: the walk. -/
import Derived.Test.YtlgimhhhlpmjcaaDskI
import Derived.Test.YtlgimhhhlpmjcaaSecEq
import Derived.Test.YtlgimhhhlpmjcaaOpen
set_option linter.unusedVariables false
set_option linter.unusedSimpArgs false
namespace Go.Proofs.Ytlgimhhhlpmjcaa
open Go.RowKit Go.Maps Go.WideMaps Go.Shelf

theorem RdU8.of {w : World} {A : Option Addr} {n : Nat} {xs : List Int} (h : RdL (intV .u8) 1 w A n xs) : RdU8 w A n xs :=
  ⟨h.len, fun hn => by
    obtain ⟨b, off, e, hc⟩ := h.cell hn
    exact ⟨b, off, e, World.block_lt_of_cell? w _ (hc 0 (by rw [h.len]; exact hn)), hc⟩⟩
theorem RdBo.of {w : World} {A : Option Addr} {n : Nat} {xs : List Bool} (h : RdL boolV 1 w A n xs) : RdBo w A n xs :=
  ⟨h.len, fun hn => by
    obtain ⟨b, off, e, hc⟩ := h.cellB hn
    exact ⟨b, off, e, World.block_lt_of_cell? w _ (hc 0 (by rw [h.len]; exact hn)), hc⟩⟩

/-- An act of a disk's script. -/
structure DA where
  kind : Int
  i : Int
  b : List Int
  keep : List Bool
/-- Its cells. -/
def ActC (w : World) (cs : List Value) (a : DA) : Prop :=
  ∃ bA bc kA kc, cs = [.int .i64 a.kind, .int .i64 a.i, .slice bA a.b.length bc, .slice kA a.keep.length kc] ∧ RdU8 w bA a.b.length a.b ∧ RdBo w kA a.keep.length a.keep
def actV : View (Int × Int × List Int × List Bool × Unit) := consV (intV .i64) (consV (intV .i64) (consV (slV (intV .u8) 1) (consV (slV boolV 1) nilV)))
theorem vwInt : Vw 3 1 (intV .i64) := Vw.int Try.underlying3 (by kernel_rfl)
theorem vwU8 : Vw 5 1 (intV .u8) := Vw.int Try.underlying5 (by kernel_rfl)
theorem vwBool : Vw 4 1 boolV := Vw.bool Try.underlying4 (by kernel_rfl)
theorem vwBytes : Vw 31 1 (slV (intV .u8) 1) := Vw.sl Try.underlying31 (by kernel_rfl) vwU8 (by omega)
theorem vwBools : Vw 41 1 (slV boolV 1) := Vw.sl Try.underlying41 (by kernel_rfl) vwBool (by omega)
theorem vwAct : Vw 52 (1 + (1 + (1 + (1 + 0)))) actV := Vw.st Try.underlying52 (by kernel_rfl) (Fl.cons rfl vwInt (Fl.cons rfl vwInt (Fl.cons rfl vwBytes (Fl.cons rfl vwBools (Fl.nil _)))))
theorem ActC.of {w : World} {cs : List Value} {x : Int × Int × List Int × List Bool × Unit} (h : actV w cs x) : ∃ a, ActC w cs a := by
  obtain ⟨_, _, rfl, ⟨rfl, _⟩, _, _, rfl, ⟨rfl, _⟩, _, _, rfl, ⟨bA, bc, rfl, hb⟩, _, _, rfl, ⟨kA, kc, rfl, hk⟩, rfl⟩ := h
  exact ⟨⟨x.1, x.2.1, x.2.2.1, x.2.2.2.1⟩, bA, bc, kA, kc, rfl, RdU8.of hb, RdBo.of hk⟩

set_option maxRecDepth 100000 in
set_option maxHeartbeats 2000000 in
theorem nil_any (kind i : Int) (bA : Option Addr) (bn bc : Nat) (bs : List Int) (kA : Option Addr) (kn kc : Nat) (ks : List Bool) (w : World) (hb : RdU8 w bA bn bs) (hk : RdBo w kA kn ks) :
    Calls Try.prog 9 #[.agg #[.int .i64 kind, .int .i64 i, .slice bA bn bc, .slice kA kn kc]] w fun e w' => e = .returned (.bool true) ∧ Below w.heap.size w w' := by
  obtain ⟨z, HZ, hz⟩ := zsec_named
  have Hz := Lib.hid hz; clear hz
  have K := Lib.hid (Blk.new w #[.int .i64 kind, .int .i64 i, .slice bA bn bc, .slice kA kn kc] 52)
  have B0 := Lib.hid ((Below.refl w.heap.size w).alloc (Nat.le_refl _) (.cells #[.int .i64 kind, .int .i64 i, .slice bA bn bc, .slice kA kn kc] 52))
  have z0 := B0.out.size
  have HB := Lib.hid hb; have HK := Lib.hid hk; clear hb hk
  by_cases hn : (100 : Int) < bn
  · go_enter Try.func9, Try.ntmps9
    go_wp2_with fail
    refine (alive_any _).mono ?_
    rintro e w1 ⟨rfl, hb1⟩
    have B1 := Lib.hid (B0.out.trans (hb1.mono z0)); clear hb1
    go_wp2
    go_ret
    exact ⟨rfl, B1.out⟩
  · have hn2 : (bn : Int) ≤ 100 := by omega
    go_enter Try.func9, Try.ntmps9
    go_wp2_with fail
    refine (read_nil _ _).mono ?_
    rintro e w1 ⟨rfl, hb1⟩
    rw [← HZ.out]
    have B1 := Lib.hid (B0.out.trans (hb1.mono z0)); have K1 := Lib.hid (K.out.below hb1); have z1 := B1.out.size; clear hb1
    have k1 := Blk.new w1 (sc z).toArray 55
    have J2 := Lib.hid (k1.secStore (s' := z) rfl)
    have bW : Below w1.heap.size w1 ((w1.alloc (.cells (sc z).toArray 55)).setCells w1.heap.size 0 (sc z)) := below_cells ((Below.refl _ _).alloc (Nat.le_refl _) _) (Nat.le_refl _) _ _
    have B2 := Lib.hid (B1.out.trans (bW.mono z1)); have K2 := Lib.hid (K1.out.below bW); have T1 := Lib.hid (k1.secThere Hz.out)
    have z2 := B2.out.size
    clear bW k1
    go_wp2_with (first
      | ((with_reducible refine sec_alloc secT1 HZ rfl rfl ?_); try simp only [World.size_alloc])
      | ((with_reducible refine is_store 55 (x := .tmp 4) rfl ?_); refine sec_store secT1 rfl _ _ rfl w1.heap.size 0 z Hz.out rfl rfl T1.out ?_;
         generalize ((w1.alloc (.cells (sc z).toArray 55)).setCells w1.heap.size 0 (sc z)) = w2 at *))
    have hlit : (#[.int .u8 0, .int .u8 0, .int .u8 0, .int .u8 0, .int .u8 0, .int .u8 0, .int .u8 0, .int .u8 0, .int .u8 0, .int .u8 0, .int .u8 0, .int .u8 0, .int .u8 0, .int .u8 0, .int .u8 0, .int .u8 0, .int .u8 0, .int .u8 0, .int .u8 0, .int .u8 0, .int .u8 0, .int .u8 0, .int .u8 0, .int .u8 0, .int .u8 0, .int .u8 0, .int .u8 0, .int .u8 0, .int .u8 0, .int .u8 0, .int .u8 0, .int .u8 0, .int .u8 0, .int .u8 0, .int .u8 0, .int .u8 0, .int .u8 0, .int .u8 0, .int .u8 0, .int .u8 0, .int .u8 0, .int .u8 0, .int .u8 0, .int .u8 0, .int .u8 0, .int .u8 0, .int .u8 0, .int .u8 0, .int .u8 0, .int .u8 0, .int .u8 0, .int .u8 0, .int .u8 0, .int .u8 0, .int .u8 0, .int .u8 0, .int .u8 0, .int .u8 0, .int .u8 0, .int .u8 0, .int .u8 0, .int .u8 0, .int .u8 0, .int .u8 0] : Array Value) = (sc z).toArray := by rw [HZ.out]; kernel_rfl
    have heq : ∀ W : World, (Op.equalIn 10000 55 (.agg (sc z).toArray) (.agg (sc z).toArray)).run Try.prog W = .ok true W := fun W => by
      rw [sec_eq Try.underlying55 z z Hz.out Hz.out W]; simp
    have hu := Try.underlying55
    have hi : (Try.prog.info? 55).map (·.size) = some (sc z).length := by rw [sc_len, Hz.out]; exact secSize
    have hl : (sc z).length = 64 := by rw [sc_len, Hz.out]
    have hone := sc_one z
    have q1 := K2.out.cell 1; have q2 := K2.out.cell 2; have q3 := K2.out.cell 3
    simp at q1 q2 q3
    have hr := J2.out.sec
    have q2l := K2.out.lt; have j2l := J2.out.lt
    have X2 := Lib.hid (B2.out.drew)
    go_region_held3 (fun W => W.cell? ⟨w.heap.size, 1, none⟩ = some (.int .i64 i) ∧ W.cell? ⟨w.heap.size, 2, none⟩ = some (.slice bA bn bc) ∧ W.cell? ⟨w.heap.size, 3, none⟩ = some (.slice kA kn kc) ∧ W.rangeAt w1.heap.size 0 (sc z)) (first | exact ⟨r1, r2, r3, r4⟩ | go_keep)
      (first
        | (go_at_call 29; refine (alive_any _).mono ?_; rintro e w3 ⟨rfl, hb3⟩
           have r1 := (hb3.cell (p := ⟨w.heap.size, 1, none⟩) q2l).trans q1; have r2 := (hb3.cell (p := ⟨w.heap.size, 2, none⟩) q2l).trans q2; have r3 := (hb3.cell (p := ⟨w.heap.size, 3, none⟩) q2l).trans q3
           have r4 : w3.rangeAt w1.heap.size 0 (sc z) := rangeAt_keep hr (hb3.block _ j2l)
           have B3 := Lib.hid (X2.out.trans (hb3.mono z2)); clear hb3)
        | (go_at_call 31; refine (fill_any bA bn bc bs _ (HB.out.below B3.out)).mono ?_; rintro e w4 ⟨rfl, hb4⟩
           have r1' := r1; have r2' := r2; have r3' := r3
           have r1 := (hb4.cell (p := ⟨w.heap.size, 1, none⟩) (World.block_lt_of_cell? w3 _ r1')).trans r1'; have r2 := (hb4.cell (p := ⟨w.heap.size, 2, none⟩) (World.block_lt_of_cell? w3 _ r2')).trans r2'; have r3 := (hb4.cell (p := ⟨w.heap.size, 3, none⟩) (World.block_lt_of_cell? w3 _ r3')).trans r3'
           have r4 : w4.rangeAt w1.heap.size 0 (sc z) := rangeAt_keep r4 (hb4.block _ (by have := B3.out.size; have := World.block_lt_of_cell? w3 _ (r4 0 (.int .u8 0) (by rw [HZ.out]; rfl)); simpa using this))
           have B4 := Lib.hid (B3.out.trans (hb4.mono B3.out.size)); clear hb4)
        | (go_at_call 30; refine (write_nil _ (fillS bs) _).mono ?_; rintro e w5 ⟨rfl, hb5⟩
           have r1' := r1; have r2' := r2; have r3' := r3
           have r1 := (hb5.cell (p := ⟨w.heap.size, 1, none⟩) (World.block_lt_of_cell? w4 _ r1')).trans r1'; have r2 := (hb5.cell (p := ⟨w.heap.size, 2, none⟩) (World.block_lt_of_cell? w4 _ r2')).trans r2'; have r3 := (hb5.cell (p := ⟨w.heap.size, 3, none⟩) (World.block_lt_of_cell? w4 _ r3')).trans r3'
           have r4 : w5.rangeAt w1.heap.size 0 (sc z) := rangeAt_keep r4 (hb5.block _ (by have := World.block_lt_of_cell? w4 _ (r4 0 (.int .u8 0) (by rw [HZ.out]; rfl)); simpa using this))
           have B5 := Lib.hid (B4.out.trans (hb5.mono B4.out.size)); clear hb5)
        | (go_at_call 34; refine (flush_nil _).mono ?_; rintro e w6 ⟨rfl, rfl⟩)
        | (go_at_call 42; refine (len_nil _).mono ?_; rintro e w6 ⟨rfl, rfl⟩)
        | (go_at_call 41; refine (dirty_nil _).mono ?_; rintro e w6 ⟨rfl, rfl⟩)
        | (go_at_call 36; refine (crash_nil _ _ _ _).mono ?_; rintro e w6 ⟨rfl, rfl⟩))
    go_wp2
    go_ret
    exact ⟨rfl, B5.out⟩
end Go.Proofs.Ytlgimhhhlpmjcaa
