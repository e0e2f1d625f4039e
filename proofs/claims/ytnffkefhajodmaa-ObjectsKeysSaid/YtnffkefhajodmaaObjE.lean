/- objects: Encode. -/
import Derived.Test.YtnffkefhajodmaaObjD
set_option linter.unusedVariables false
set_option linter.unusedSimpArgs false
namespace Go.Proofs.Ytnffkefhajodmaa
open Go.RowKit

def strNats (s : ByteArray) : List Nat := s.data.toList.map (·.toNat)
/-- An update's bytes. -/
def encB (k : Int) (key val : ByteArray) (n : Int) : List Nat :=
  packBytes [4, 5, 6] [k, key.size, val.size] ++ strNats key ++ strNats val ++ (if k = 4 then packBytes [64] [zig n] else [])
theorem strCells_nums (s : ByteArray) : Lib.strCells s = nums8 (strNats s) := by
  simp [Lib.strCells, nums8, strNats]
theorem nums8_app (xs ys : List Nat) : nums8 (xs ++ ys) = nums8 xs ++ nums8 ys := by simp [nums8]
theorem strNats_length (s : ByteArray) : (strNats s).length = s.size := by simp [strNats]
theorem nums8_one (xs : List Nat) : ∀ u ∈ nums8 xs, u.oneCell' = true := by
  intro u hu; simp [nums8] at hu; obtain ⟨x, _, rfl⟩ := hu; rfl
theorem Bytes.news {w : World} {g : Nat} {xs : List Nat} (h : Bytes w g xs) : ∀ j u, (nums8 xs)[j]? = some u → w.cell? ((⟨g, 0, none⟩ : Addr).add j) = some u := by
  intro j u hu
  have hj : j < xs.length := by have := (List.getElem?_eq_some_iff.1 hu).1; simpa [nums8] using this
  have hadd : (⟨g, 0, none⟩ : Addr).add j = ⟨g, j, none⟩ := by unfold Addr.add; split <;> simp_all
  rw [hadd, h.cell j hj, ← hu]; simp [nums8, hj]

theorem ne_own {g b n c : Nat} (h : b ≠ g) : some b ≠ (Value.slice (some ⟨g, 0, none⟩) n c).ownBlock := fun e => h (Option.some.inj e)

theorem own_list {w : World} {base n : Nat} {e : TypeId} {v : Value} {xs : List Value} {ys : List Nat} (h : w.ownsRow base e 1 v n xs) (hx : xs = nums8 ys) : w.ownsRow base e 1 v ys.length (nums8 ys) := by
  subst hx
  have h1 := h.1
  simp [nums8] at h1
  rw [h1]; exact h

theorem info8 : (Try.prog.info? 5).map (fun i => (i.zero, i.size, i.bytes)) = some (some (.int .u8 0), 1, 1) := by kernel_rfl

theorem pack3 (k a b : Int) (w1 : World) (h1 : 0 ≤ k) (h2 : k < 16) (h3 : 0 ≤ a) (h4 : a < 32) (h5 : 0 ≤ b) (h6 : b < 64) :
    Calls Try.prog 49 #[.slice (some ⟨w1.heap.size, 0, none⟩) 3 3, .slice (some ⟨w1.heap.size + 1, 0, none⟩) 3 3]
      ((w1.alloc (.cells #[.int .i64 4, .int .i64 5, .int .i64 6] 3)).alloc (.cells #[.int .u64 k, .int .u64 a, .int .u64 b] 25)).drew fun e w' =>
      ∃ g bs, e = .returned (.tuple #[.slice (some ⟨g, 0, none⟩) bs.length bs.length, .bool true]) ∧ w1.heap.size ≤ g ∧ Below w1.heap.size w1 w' ∧ Bytes w' g bs ∧ Hid (bs = packBytes [4, 5, 6] [k, a, b]) := by
  have hin : inW [4, 5, 6] [k, a, b] := ⟨⟨by omega, by omega, by omega, by simp; omega⟩, ⟨by omega, by omega, by omega, by simp; omega⟩, ⟨by omega, by omega, by omega, by simp; omega⟩, trivial⟩
  have r1 : RdI .i64 ((w1.alloc (.cells #[.int .i64 4, .int .i64 5, .int .i64 6] 3)).alloc (.cells #[.int .u64 k, .int .u64 a, .int .u64 b] 25)).drew (some ⟨w1.heap.size, 0, none⟩) 3 [4, 5, 6] :=
    RdI.ofBlk (t := 3) (xs := [4, 5, 6]) (((Blk.new w1 _ _).alloc _).drew) (by simp)
  have r2 : RdI .u64 ((w1.alloc (.cells #[.int .i64 4, .int .i64 5, .int .i64 6] 3)).alloc (.cells #[.int .u64 k, .int .u64 a, .int .u64 b] 25)).drew (some ⟨w1.heap.size + 1, 0, none⟩) 3 [k, a, b] :=
    RdI.ofBlk (t := 25) (xs := [k, a, b]) (Blk.newAt (w1.alloc _) _ _ (w1.heap.size + 1) (by simp)).drew (by simp)
  refine (Pack_bytes _ _ 3 3 3 _ _ _ r1 r2 hin (by omega)).mono ?_
  rintro e w' ⟨g, bs, rfl, hg, hb, hB, hbs⟩
  refine ⟨g, bs, rfl, ?_, ?_, hB, hbs⟩
  · have : w1.heap.size + 1 + 1 ≤ g := by simpa [World.drew] using hg
    omega
  · exact ((((Below.refl w1.heap.size w1).alloc (Nat.le_refl _) _).alloc (by simp) _).drew).trans (hb.mono (by simp [World.drew]; omega))

theorem pack3' (k a b : Int) (w1 : World) (h1 : 0 ≤ k) (h2 : k < 16) (h3 : 0 ≤ a) (h4 : a < 32) (h5 : 0 ≤ b) (h6 : b < 64) :
    Calls Try.prog 49 #[.slice (some ⟨w1.heap.size + 1, 0, none⟩) 3 3, .slice (some ⟨w1.heap.size, 0, none⟩) 3 3]
      ((w1.alloc (.cells #[.int .u64 k, .int .u64 a, .int .u64 b] 25)).alloc (.cells #[.int .i64 4, .int .i64 5, .int .i64 6] 3)).drew fun e w' =>
      ∃ g bs, e = .returned (.tuple #[.slice (some ⟨g, 0, none⟩) bs.length bs.length, .bool true]) ∧ w1.heap.size ≤ g ∧ Below w1.heap.size w1 w' ∧ Bytes w' g bs ∧ Hid (bs = packBytes [4, 5, 6] [k, a, b]) := by
  have hin : inW [4, 5, 6] [k, a, b] := ⟨⟨by omega, by omega, by omega, by simp; omega⟩, ⟨by omega, by omega, by omega, by simp; omega⟩, ⟨by omega, by omega, by omega, by simp; omega⟩, trivial⟩
  have r1 : RdI .i64 ((w1.alloc (.cells #[.int .u64 k, .int .u64 a, .int .u64 b] 25)).alloc (.cells #[.int .i64 4, .int .i64 5, .int .i64 6] 3)).drew (some ⟨w1.heap.size + 1, 0, none⟩) 3 [4, 5, 6] :=
    RdI.ofBlk (t := 3) (xs := [4, 5, 6]) ((Blk.newAt (w1.alloc _) _ _ (w1.heap.size + 1) (by simp)).drew) (by simp)
  have r2 : RdI .u64 ((w1.alloc (.cells #[.int .u64 k, .int .u64 a, .int .u64 b] 25)).alloc (.cells #[.int .i64 4, .int .i64 5, .int .i64 6] 3)).drew (some ⟨w1.heap.size, 0, none⟩) 3 [k, a, b] :=
    RdI.ofBlk (t := 25) (xs := [k, a, b]) ((Blk.new w1 _ _).alloc _).drew (by simp)
  refine (Pack_bytes _ _ 3 3 3 _ _ _ r1 r2 hin (by omega)).mono ?_
  rintro e w' ⟨g, bs, rfl, hg, hb, hB, hbs⟩
  refine ⟨g, bs, rfl, ?_, ?_, hB, hbs⟩
  · have : w1.heap.size + 1 + 1 ≤ g := by simpa [World.drew] using hg
    omega
  · exact ((((Below.refl w1.heap.size w1).alloc (Nat.le_refl _) _).alloc (by simp) _).drew).trans (hb.mono (by simp [World.drew]; omega))

set_option maxRecDepth 100000 in
set_option maxHeartbeats 2000000 in
theorem encode_any (k n : Int) (key val : ByteArray) (w : World) (hr : rightB k key val n = true) (h1 : 1 ≤ k) (h2 : k ≤ 8) (h3 : key.size ≤ 16) (h4 : val.size ≤ 60) (hn1 : -9223372036854775808 ≤ n) (hn2 : n ≤ 9223372036854775807) :
    Calls Try.prog 24 #[.agg #[.int .i64 k, .string key, .string val, .int .i64 n]] w fun e w' => ∃ v, e = .returned (.tuple #[v, .int .i64 0]) ∧ Below w.heap.size w w' ∧ w'.ownsRow w.heap.size 5 1 v (encB k key val n).length (nums8 (encB k key val n)) := by
  have e1 : IntKind.u64.wrap k = k := IntWalk.u64_in _ (by omega)
  have e2 : IntKind.u64.wrap (key.size : Int) = key.size := IntWalk.u64_in _ (by omega)
  have e3 : IntKind.u64.wrap (val.size : Int) = val.size := IntWalk.u64_in _ (by omega)
  have hin : inW [4, 5, 6] [k, key.size, val.size] := ⟨⟨by omega, by omega, by omega, by simp; omega⟩, ⟨by omega, by omega, by omega, by simp; omega⟩, ⟨by omega, by omega, by omega, by simp; omega⟩, trivial⟩
  have hin' := Lib.hid hin; clear hin
  go_enter Try.func24, Try.ntmps24
  go_wp2_with (go_at_call 27; refine (right_any _ _ _ _ _).mono ?_; rw [hr]; rintro e w1 ⟨rfl, hb⟩; have hz1 := hb.size; simp only [World.size_alloc] at hz1)
  have k0 : Blk w1 w.heap.size #[.int .i64 k, .string key, .string val, .int .i64 n] 32 := ((Blk.new _ _ _)).keep (hb.block _ (by simp))
  have k00 := k0.cell 0
  have k01 := k0.cell 1
  have k02 := k0.cell 2
  have k03 := k0.cell 3
  simp at k00 k01 k02 k03
  have HB := Lib.hid ((((Below.refl w.heap.size w).alloc (Nat.le_refl _) _).trans (hb.mono (B' := w.heap.size) (by simp)))); clear hb
  have K0 := Lib.hid k0; clear k0
  go_region_held3 (fun W => W.cell? ⟨w.heap.size, 0, none⟩ = some (.int .i64 k) ∧ W.cell? ⟨w.heap.size, 1, none⟩ = some (.string key) ∧ W.cell? ⟨w.heap.size, 2, none⟩ = some (.string val)) (first | exact ⟨s0, s1, s2⟩ | go_keep)
    (first
      | (go_at_call 50; refine (widths_any _).mono ?_; rintro e w2 ⟨rfl, rfl⟩)
      | (go_at_call 49; (with_reducible refine (pack3 k key.size val.size w1 (by omega) (by omega) (by omega) (by omega) (by omega) (by omega)).mono ?_); rintro e w3 ⟨g, bs, rfl, hg, hb3, hB3, hbs⟩
         have K3 := Lib.hid (K0.out.below hb3)
         have s0 := K3.out.cell 0; have s1 := K3.out.cell 1; have s2 := K3.out.cell 2
         have s3 := K3.out.cell 3
         simp at s0 s1 s2 s3
         have HB3 := Lib.hid hb3; clear hb3)
      | (go_at_call 49; (with_reducible refine (pack3' k key.size val.size w1 (by omega) (by omega) (by omega) (by omega) (by omega) (by omega)).mono ?_); rintro e w3 ⟨g, bs, rfl, hg, hb3, hB3, hbs⟩
         have K3 := Lib.hid (K0.out.below hb3)
         have s0 := K3.out.cell 0; have s1 := K3.out.cell 1; have s2 := K3.out.cell 2
         have s3 := K3.out.cell 3
         simp at s0 s1 s2 s3
         have HB3 := Lib.hid hb3; clear hb3))
  all_goals
    clear e1 e2 e3 hin'
    have hg2 : w.heap.size + 1 ≤ g := by omega
    have hbl : bs.length ≤ 1000 := by rw [hbs.out]; unfold packBytes; rw [toBytes_length]; simp [packBits]
    have O0 := Lib.hid (hB3.owns (base := w.heap.size + 1) hg2 (by unfold maxLen; omega))
    have B3 := Lib.hid (below_trans HB.out HB3.out (by omega))
    have hz3 := HB3.out.size
    have HBS := Lib.hid hbs
    clear hbs hB3 hg HB3
    generalize hxs : nums8 bs = xs0 at *
    have HXS := Lib.hid hxs; clear hxs
    go_wp2
    go_region_held3 (fun W => W.cell? ⟨w.heap.size, 0, none⟩ = some (.int .i64 k) ∧ W.cell? ⟨w.heap.size, 1, none⟩ = some (.string key) ∧ W.cell? ⟨w.heap.size, 2, none⟩ = some (.string val)) (first | exact ⟨r0, r1, r2⟩ | exact ⟨q0, q1, q2⟩ | go_keep)
      (first
        | (refine step_app_str rfl _ _ 54 9 rfl (w.heap.size + 1) 5 info8 Try.underlying54 Try.underlying9 _ _ _ rfl O0.out.drew key rfl ?_ ?_ ?_; (omega); (first | omega | (show w.heap.size + 1 ≤ w3.heap.size; omega)); intro v4 w4 O4 G4
           have K4 := Lib.hid (K3.out.drew.grown G4 (ne_own (by omega)))
           have q0 := K4.out.cell 0; have q1 := K4.out.cell 1; have q2 := K4.out.cell 2
           simp at q0 q1 q2
           have HO4 := Lib.hid O4; clear O4
           have HG4 := Lib.hid G4; clear G4)
        | (refine step_app_str rfl _ _ 54 9 rfl (w.heap.size + 1) 5 info8 Try.underlying54 Try.underlying9 _ _ _ rfl HO4.out val rfl ?_ ?_ ?_; (omega); (have hsz4 : w3.heap.size ≤ w4.heap.size := HG4.out.size; omega); intro v5 w5 O5 G5
           have K5 := Lib.hid (K4.out.grown G5 (by intro e; have := (HO4.out.lt _ e.symm).1; omega))
           have r0 := K5.out.cell 0; have r1 := K5.out.cell 1; have r2 := K5.out.cell 2
           simp at r0 r1 r2
           have HO5 := Lib.hid O5; clear O5
           have HG5 := Lib.hid G5; clear G5))
    have t0 := K5.out.cell 0
    have t3 := K5.out.cell 3
    simp at t0 t3
    have B5 : Below w.heap.size w w5 := ((B3.out.drew).grown HG4.out (by show w.heap.size ≤ w3.heap.size; omega) (by intro j e; have := Option.some.inj e; simp at this; omega)).grown HG5.out (by have : w3.heap.size ≤ w4.heap.size := HG4.out.size; omega) (fun j e => by have := (HO4.out.lt j e).1; omega)
    have hz5 : w.heap.size < w5.heap.size := K5.out.lt
    have HB5 := Lib.hid B5; clear B5
    by_cases hk4 : k = 4
    · subst hk4
      go_wp2_with (first
        | (go_at_call 46; refine (folded_any n _ hn1 hn2).mono ?_; rintro e w6 ⟨g6, bs6, rfl, hg6, hb6, hB6, hbs6⟩; have HB6 := Lib.hid hb6; clear hb6; have HBS6 := Lib.hid hbs6; clear hbs6; have HB6' := Lib.hid hB6; clear hB6)
        | (at_builtin; refine list_app rfl (.tmp 36) (.tmp 39) 54 rfl (w.heap.size + 1) 5 (.int .u8 0) 1 1 info8 Try.underlying54 rfl (by omega) v5 _ _ rfl (ownsRow_below HO5.out HB6.out) ⟨g6, 0, none⟩ bs6.length bs6.length (nums8 bs6) rfl ?_ HB6'.out.news (nums8_one _) ?_ ?_ ?_ ?_; (simp [nums8]); (rw [HBS6.out.out]; unfold packBytes; rw [toBytes_length]; simp [packBits, maxLen]; omega); (rw [HBS6.out.out]; unfold packBytes; rw [toBytes_length]; simp [packBits]; omega); (have := HB6.out.size; omega); intro v7 w7 O7 G7; have HO7 := Lib.hid O7; clear O7; have HG7 := Lib.hid G7; clear G7))
      go_ret2
      refine ⟨v7, rfl, ?_, ?_⟩
      · have hz6 := HB6.out.size
        exact (HB5.out.trans (HB6.out.mono (by omega))).grown HG7.out (by omega) (fun j e => by have := (HO5.out.lt j e).1; omega)
      · refine own_list (ownsRow_base HO7.out (by omega)) ?_
        rw [← HXS.out, HBS.out.out, HBS6.out.out, strCells_nums, strCells_nums]
        simp [encB, nums8_app]
    · go_wp2
      go_ret2
      refine ⟨v5, rfl, HB5.out, ?_⟩
      refine own_list (ownsRow_base HO5.out (by omega)) ?_
      rw [← HXS.out, HBS.out.out, strCells_nums, strCells_nums]
      simp [encB, nums8_app, hk4]

end Go.Proofs.Ytnffkefhajodmaa
