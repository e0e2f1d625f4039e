/- objects: the keys: had, put, drop. -/
import Derived.Test.YtnffkefhajodmaaObjA
import Derived.Test.YtnffkefhajodmaaQueue
import Derived.Test.YtnffkefhajodmaaPlainMap
import Derived.Maps.OwnOps
import Derived.Test.YtnffkefhajodmaaDeferB
set_option linter.unusedVariables false
set_option linter.unusedSimpArgs false
namespace Go.Proofs.Ytnffkefhajodmaa
open Go.RowKit Go.Maps Go.WideMaps

/-- Block b is a map with these entries. -/
def MapIs (w : World) (b : Nat) (m : Ents) : Prop := w.ownsMap Try.prog 9 (plainElem (H := Unit) Try.prog 9) b m.length (toD (H := Unit) m) ∧ Rises m

theorem MapIs.keep {w w' : World} {b : Nat} {m : Ents} (h : MapIs w b m) (hb : w'.heap[b]? = w.heap[b]?) : MapIs w' b m := by
  obtain ⟨⟨es, clock, h1, h2⟩, h3⟩ := h
  exact ⟨⟨es, clock, hb.trans h1, h2⟩, h3⟩
theorem MapIs.lt {w : World} {b : Nat} {m : Ents} (h : MapIs w b m) : b < w.heap.size := h.1.lt
theorem MapIs.alloc {w : World} {b : Nat} {m : Ents} (h : MapIs w b m) (o : Obj) : MapIs (w.alloc o) b m := h.keep (Below.heap_alloc _ _ _ h.lt)
theorem MapIs.drew {w : World} {b : Nat} {m : Ents} (h : MapIs w b m) : MapIs w.drew b m := h
theorem MapIs.drewN {w : World} {b : Nat} {m : Ents} (h : MapIs w b m) (n : Nat) : MapIs (w.drewN n) b m := h
theorem MapIs.below {w w' : World} {b : Nat} {m : Ents} (h : MapIs w b m) (hb : Below w.heap.size w w') : MapIs w' b m := h.keep (hb.block b h.lt)
theorem MapIs.grown {w w' : World} {b : Nat} {m : Ents} {r : Option Nat} (h : MapIs w b m) (hb : w.grownBy w' r) (hne : some b ≠ r) : MapIs w' b m := h.keep (hb.block b h.lt hne)
theorem MapIs.kept {w w' : World} {b : Nat} {m : Ents} {S : Nat → Prop} (h : MapIs w b m) (hk : Kept w w' S) (hn : ¬ S b) : MapIs w' b m := h.keep (hk.block b h.lt hn)
theorem MapIs.far {w : World} {b : Nat} {m : Ents} (h : MapIs w b m) {p : Addr} (hp : b ≠ p.block) (u : Value) : MapIs (w.setCell p u) b m := h.keep (Below.heap_setCell _ _ _ _ hp)
theorem MapIs.ne {w : World} {b g t : Nat} {m : Ents} {cs : Array Value} (h : MapIs w b m) (hg : Blk w g cs t) : g ≠ b := by
  obtain ⟨⟨es, clock, h1, h2⟩, h3⟩ := h
  intro e
  subst e
  rw [show w.heap[g]? = _ from hg] at h1
  cases h1
theorem MapIs.made (w : World) : MapIs (w.alloc (.map #[] 0)) w.heap.size [] := ⟨World.ownsMap_made _ _ _ _, List.Pairwise.nil⟩

theorem keyS {key : ByteArray} (h : key.size ≤ maxLen) : keyOf Try.prog 9 (.string key) = some (.string (bk key)) := keyOf_string_mk Try.underlying9 h
theorem zeroS (w : World) : (zeroValue 9).run Try.prog w = .ok (.string ByteArray.empty) w := by kernel_rfl
theorem plainS {s : ByteArray} (h : s.size ≤ maxLen) : plainElem (H := Unit) Try.prog 9 (.string s) = some (.lit (.string (bk s)), []) := plainElem_string Try.underlying9 h

theorem MapIs.look {w : World} {b : Nat} {m : Ents} (h : MapIs w b m) {key : ByteArray} (hk : key.size ≤ maxLen) (c : Bool) :
    (Instr.lookup 72 (.map (some b)) (.string key) true).run Try.prog w = .ok (.tuple #[.string ((getE key m).getD ByteArray.empty), .bool (hasE key m)]) w := by
  obtain ⟨v, ps, hrun, hv⟩ := h.1.look_ok (string_keyed Try.underlying9) Try.underlying72 (zeroS w) (plainS (by unfold maxLen; decide)) (keyS hk)
  rw [hrun, toD_has]
  obtain ⟨s, rfl, hz, _⟩ := plainElem_string_inv Try.underlying9 hv
  simp only [Prod.mk.injEq] at hz
  have e := hz.1
  rw [show bk ByteArray.empty = [] from rfl, toD_at] at e
  have : bk ((getE key m).getD ByteArray.empty) = bk s := Lit.string.inj (DataW.lit.inj e)
  rw [bk_inj this]
theorem MapIs.look' {w : World} {b : Nat} {m : Ents} (h : MapIs w b m) {key : ByteArray} (hk : key.size ≤ maxLen) :
    (Instr.lookup 72 (.map (some b)) (.string key) false).run Try.prog w = .ok (.string ((getE key m).getD ByteArray.empty)) w := by
  obtain ⟨v, ps, hrun, hv⟩ := h.1.lookup (string_keyed Try.underlying9) Try.underlying72 (zeroS w) (plainS (by unfold maxLen; decide)) (keyS hk)
  rw [hrun]
  obtain ⟨s, rfl, hz, _⟩ := plainElem_string_inv Try.underlying9 hv
  simp only [Prod.mk.injEq] at hz
  have e := hz.1
  rw [show bk ByteArray.empty = [] from rfl, toD_at] at e
  have : bk ((getE key m).getD ByteArray.empty) = bk s := Lit.string.inj (DataW.lit.inj e)
  rw [bk_inj this]
theorem MapIs.len {w : World} {b : Nat} {m : Ents} (h : MapIs w b m) (ty : TypeId) : (Builtin.len_ #[72] ty #[.map (some b)]).run Try.prog w = .ok (.int .i64 m.length) w := by
  rw [h.1.len Try.underlying72 ty, toD_size]

theorem ownsMap_sized {w : World} {b n : Nat} {m : Ents} (h : w.ownsMap Try.prog 9 (plainElem (H := Unit) Try.prog 9) b n (toD (H := Unit) m)) : w.ownsMap Try.prog 9 (plainElem (H := Unit) Try.prog 9) b m.length (toD (H := Unit) m) := by
  obtain ⟨es, clock, h1, h2, h3, h4⟩ := h
  refine ⟨es, clock, h1, h2, ?_, h4⟩
  have := congrArg Maps.size h4
  rw [toD_size] at this
  simp [Maps.size, length_sorted] at this
  omega

theorem MapIs.put {w : World} {b : Nat} {m : Ents} (h : MapIs w b m) {key val : ByteArray} (hk : key.size ≤ maxLen) (hv : val.size ≤ maxLen) (hn : m.length < maxLen) :
    ∃ w', (Instr.mapUpdate 72 (.map (some b)) (.string key) (.string val)).run Try.prog w = .ok () w' ∧ MapIs w' b (putE key val m) ∧ w.grownBy w' (some b) := by
  obtain ⟨w', hrun, h1, h2⟩ := h.1.update (string_keyed Try.underlying9) Try.underlying72 hn (keyS hk) (plainS hv)
  refine ⟨w', hrun, ⟨?_, rises_putE _ _ _ h.2⟩, h2⟩
  rw [toD_put] at h1
  exact ownsMap_sized h1
theorem MapIs.del {w : World} {b : Nat} {m : Ents} (h : MapIs w b m) {key : ByteArray} (hk : key.size ≤ maxLen) (ty : TypeId) :
    ∃ w', (Builtin.delete_ #[72, 9] ty #[.map (some b), .string key]).run Try.prog w = .ok (.tuple #[]) w' ∧ MapIs w' b (delE key m) ∧ w.grownBy w' (some b) := by
  obtain ⟨w', hrun, h1, h2⟩ := h.1.drop (string_keyed Try.underlying9) Try.underlying72 (keyS hk) ty
  refine ⟨w', hrun, ⟨?_, rises_delE _ _ h.2⟩, h2.grown⟩
  rw [toD_del] at h1
  exact ownsMap_sized h1

/-- What had tells. -/
def hadV (key : ByteArray) (m : Ents) : Value := .agg #[.bool (hasE key m), .string ((getE key m).getD ByteArray.empty), .int .i64 0, .int .i64 0]

set_option maxRecDepth 100000 in
set_option maxHeartbeats 1000000 in
theorem had_any (s b : Nat) (q : Value) (t : Int) (m : Ents) (u0 u2 u3 : Value) (key : ByteArray) (w : World) (h : StIs w s (.map (some b)) q t) (hm : MapIs w b m) (hk : key.size ≤ maxLen) :
    Calls Try.prog 34 #[.pointer (some ⟨s, 0, none⟩), .agg #[u0, .string key, u2, u3]] w fun e w' => e = .returned (hadV key m) ∧ Below w.heap.size w w' := by
  have c0 := h.c0
  have hs := h.lt
  have hlk := ((((hm.alloc (.cells #[u0, .string key, u2, u3] 32)).alloc (.cells #[.bool false, .string ⟨#[]⟩, .int .i64 0, .int .i64 0] 29)).drew).look hk true)
  have H := Lib.hid h; clear h
  have HM := Lib.hid hm; clear hm
  go_enter Try.func34, Try.ntmps34
  go_wp2
  go_region
  go_wp2
  go_returns
  exact ⟨rfl, by go_grown⟩

set_option maxRecDepth 100000 in
set_option maxHeartbeats 1000000 in
theorem put_full (s b : Nat) (q : Value) (t : Int) (m : Ents) (u0 u3 : Value) (key val : ByteArray) (w : World) (h : StIs w s (.map (some b)) q t) (hm : MapIs w b m) (hk : key.size ≤ maxLen) (hh : hasE key m = false) (hl : ¬ m.length < 30) :
    Calls Try.prog 32 #[.pointer (some ⟨s, 0, none⟩), .agg #[u0, .string key, .string val, u3]] w fun e w' => e = .returned (.agg #[.bool false, .string ⟨#[]⟩, .int .i64 0, .int .i64 152]) ∧ Below w.heap.size w w' := by
  have hs := h.lt
  have hl' : (30 : Int) ≤ (m.length : Int) := by omega
  have H := Lib.hid h; clear h
  have HM := Lib.hid hm; clear hm
  go_enter Try.func32, Try.ntmps32
  go_wp2_with fail
  refine (had_any s b q t m _ _ _ key _ ((H.out.alloc _).alloc _) ((HM.out.alloc _).alloc _) hk).mono ?_
  unfold hadV
  rw [hh]
  rintro e w1 ⟨rfl, hb1⟩
  have S1 := ((H.out.alloc (.cells #[u0, .string key, .string val, u3] 32)).alloc (.cells #[.bool false, .string ⟨#[]⟩, .int .i64 0, .int .i64 0] 29)).below hb1
  have c0 := S1.c0
  have hs1 := S1.lt
  have M1 := (((HM.out.alloc (.cells #[u0, .string key, .string val, u3] 32)).alloc (.cells #[.bool false, .string ⟨#[]⟩, .int .i64 0, .int .i64 0] 29)).below hb1)
  have hlen := (M1.alloc (.cells #[.bool false, .string ((getE key m).getD ByteArray.empty), .int .i64 0, .int .i64 0] 29)).len
  have K1 := Lib.hid ((Blk.newAt (w.alloc (.cells #[u0, .string key, .string val, u3] 32)) #[.bool false, .string ⟨#[]⟩, .int .i64 0, .int .i64 0] 29 (w.heap.size + 1) (by simp)).below hb1)
  have hz1 := hb1.size
  simp at hz1
  have k0 := K1.out.cell 0; have k1 := K1.out.cell 1; have k2 := K1.out.cell 2; have k3 := K1.out.cell 3; have f1 := K1.out.fr
  simp at k0 k1 k2 k3
  have HB1 := Lib.hid hb1; clear hb1
  have hy1 : w.heap.size + 1 < w1.heap.size := by omega
  clear S1 M1
  go_wp2
  refine bodyPost_ret (v := .agg #[.bool false, .string ⟨#[]⟩, .int .i64 0, .int .i64 152]) (results_cell_row rfl _ _ (w.heap.size + 1) 29 _ (0, 0) _ rfl (((((K1.out.set 0 _).set 1 _).set 2 _).set 3 _).alloc _) Try.underlying29 rfl (by kernel_rfl)) rfl ?_
  refine ⟨rfl, ?_⟩
  have q3 := ((((Below.refl w.heap.size w).alloc (Nat.le_refl _) _).alloc (by simp) _).trans (HB1.out.mono (B' := w.heap.size) (by simp; omega)))
  exact (((((q3.setCell (by simp) _).setCell (by simp) _).setCell (by simp) _).setCell (by simp) _).alloc (by simp; omega) _)

/-- What put leaves. -/
def PutPost (w : World) (s b : Nat) (q : Value) (t : Int) (m m' : Ents) (key : ByteArray) (e : Ending) (w' : World) : Prop :=
  e = .returned (hadV key m) ∧ StIs w' s (.map (some b)) q t ∧ MapIs w' b m' ∧ w.grownBy w' (some b)

set_option maxRecDepth 100000 in
set_option maxHeartbeats 1000000 in
theorem put_ok (s b : Nat) (q : Value) (t : Int) (m : Ents) (u0 u3 : Value) (key val : ByteArray) (w : World) (h : StIs w s (.map (some b)) q t) (hm : MapIs w b m) (hk : key.size ≤ maxLen) (hv : val.size ≤ maxLen) (hh : hasE key m = true ∨ m.length < 30) (hl : m.length < 1000) :
    Calls Try.prog 32 #[.pointer (some ⟨s, 0, none⟩), .agg #[u0, .string key, .string val, u3]] w (PutPost w s b q t m (putE key val m) key) := by
  have hs := h.lt
  have hsb : s ≠ b := hm.ne h
  have hbw := hm.lt
  have H := Lib.hid h; clear h
  have HM := Lib.hid hm; clear hm
  obtain ⟨hb0, hE⟩ : ∃ x, hasE key m = x := ⟨_, rfl⟩
  have hgd : hb0 = false → ¬ (30 : Int) ≤ (m.length : Int) := by
    intro e; subst e; rcases hh with hh | hh
    · rw [hE] at hh; cases hh
    · omega
  unfold PutPost hadV
  rw [hE]
  go_enter Try.func32, Try.ntmps32
  go_wp2_with fail
  refine (had_any s b q t m _ _ _ key _ ((H.out.alloc _).alloc _) ((HM.out.alloc _).alloc _) hk).mono ?_
  unfold hadV
  rw [hE]
  rintro e w1 ⟨rfl, hb1⟩
  have S1 := ((H.out.alloc (.cells #[u0, .string key, .string val, u3] 32)).alloc (.cells #[.bool false, .string ⟨#[]⟩, .int .i64 0, .int .i64 0] 29)).below hb1
  have M1 := (((HM.out.alloc (.cells #[u0, .string key, .string val, u3] 32)).alloc (.cells #[.bool false, .string ⟨#[]⟩, .int .i64 0, .int .i64 0] 29)).below hb1)
  have K0 := Lib.hid ((((Blk.new w #[u0, .string key, .string val, u3] 32).alloc (.cells #[.bool false, .string ⟨#[]⟩, .int .i64 0, .int .i64 0] 29)).below hb1))
  have K1 := Lib.hid (((Blk.newAt (w.alloc (.cells #[u0, .string key, .string val, u3] 32)) #[.bool false, .string ⟨#[]⟩, .int .i64 0, .int .i64 0] 29 (w.heap.size + 1) (by simp)).below hb1).alloc (.cells #[.bool hb0, .string ((getE key m).getD ByteArray.empty), .int .i64 0, .int .i64 0] 29))
  have K2 := Lib.hid (Blk.new w1 #[.bool hb0, .string ((getE key m).getD ByteArray.empty), .int .i64 0, .int .i64 0] 29)
  have S2 := Lib.hid (S1.alloc (.cells #[.bool hb0, .string ((getE key m).getD ByteArray.empty), .int .i64 0, .int .i64 0] 29))
  have M2 := Lib.hid (M1.alloc (.cells #[.bool hb0, .string ((getE key m).getD ByteArray.empty), .int .i64 0, .int .i64 0] 29))
  have hlen := M2.out.len
  have c0 := S1.c0
  have hs1 := S1.lt
  have hz1 := hb1.size
  simp at hz1
  obtain ⟨w3, hrun, M3, G3⟩ := (M2.out.drew).put hk hv (by unfold maxLen; omega)
  have B1 := Lib.hid ((((Below.refl w.heap.size w).alloc (Nat.le_refl _) (.cells #[u0, .string key, .string val, u3] 32)).alloc (by simp) (.cells #[.bool false, .string ⟨#[]⟩, .int .i64 0, .int .i64 0] 29)).trans (hb1.mono (B' := w.heap.size) (by simp; omega)))
  have k00 := K0.out.cell 1; have k01 := K0.out.cell 2
  simp at k00 k01
  have HB1 := Lib.hid hb1; clear hb1
  have HM3 := Lib.hid M3; have HG3 := Lib.hid G3
  clear S1 M1 M3 G3
  have hy0 : w.heap.size < w1.heap.size := by omega
  have hy1 : w.heap.size + 1 < w1.heap.size := by omega
  have N1 := Lib.hid ((MapIs.drew M2.out).ne K1.out.drew)
  have N2 := Lib.hid ((MapIs.drew M2.out).ne K2.out.drew)
  have L1 := Lib.hid (K1.out.drew.grown HG3.out (fun e => N1.out (Option.some.inj e)))
  have L2 := Lib.hid (K2.out.drew.grown HG3.out (fun e => N2.out (Option.some.inj e)))
  have S3 := Lib.hid (S2.out.drew.keep (HG3.out.block s S2.out.lt (fun e => hsb (Option.some.inj e))))
  have l0 := L1.out.cell 0; have l1 := L1.out.cell 1; have l2 := L1.out.cell 2; have l3 := L1.out.cell 3; have lf := L1.out.fr
  have j0 := L2.out.cell 0; have j1 := L2.out.cell 1; have j2 := L2.out.cell 2; have j3 := L2.out.cell 3
  simp at l0 l1 l2 l3 j0 j1 j2 j3
  have hz3 := HG3.out.size
  simp [World.drew] at hz3
  cases hb0
  all_goals
    try have hgd' := hgd rfl
    clear hgd
    go_wp2
    refine region_tail 8 (by kernel_rfl) (by kernel_rfl) ?_
    simp only [List.take_succ_cons, List.take_zero, List.drop_succ_cons, List.drop_zero]
    repeat still_step
    refine wpStill_nil ?_
    go_wp2
    refine bodyPost_ret (results_cell_row rfl _ _ (w.heap.size + 1) 29 _ (0, 0) _ rfl ((((L1.out.set 0 _).set 1 _).set 2 _).set 3 _) Try.underlying29 rfl (by kernel_rfl)) rfl ?_
    have hs3 : s ≠ w.heap.size + 1 := by omega
    have hb3 : b ≠ w.heap.size + 1 := by omega
    refine ⟨rfl, (((S3.out.far hs3 _).far hs3 _).far hs3 _).far hs3 _, (((HM3.out.far hb3 _).far hb3 _).far hb3 _).far hb3 _, ?_⟩
    have q3 := below_grownBy ((B1.out.alloc (by omega) _).drew) HG3.out
    exact grownBy_far (grownBy_far (grownBy_far (grownBy_far q3 (by simp) _) (by simp) _) (by simp) _) (by simp) _


set_option maxRecDepth 100000 in
set_option maxHeartbeats 1000000 in
theorem drop_any (s b : Nat) (q : Value) (t : Int) (m : Ents) (u0 u2 u3 : Value) (key : ByteArray) (w : World) (h : StIs w s (.map (some b)) q t) (hm : MapIs w b m) (hk : key.size ≤ maxLen) :
    Calls Try.prog 33 #[.pointer (some ⟨s, 0, none⟩), .agg #[u0, .string key, u2, u3]] w (PutPost w s b q t m (delE key m) key) := by
  have c0 := h.c0
  have hs := h.lt
  have hsb : s ≠ b := hm.ne h
  have hbw := hm.lt
  have H := Lib.hid h; clear h
  have HM := Lib.hid hm; clear hm
  have hs0 : s < w.heap.size := hs
  refine calls_of_wp_b Try.func33 rfl ?_
  simp only [Try.ntmps33, List.size_toArray, List.length_cons, List.length_nil, Nat.reduceAdd, Nat.reduceSub, Array.replicate_succ,
     Array.replicate_zero, List.push_toArray, List.append_toArray, List.nil_append, List.cons_append]
  go_wp2
  refine region_tail 6 (by kernel_rfl) (by kernel_rfl) ?_
  simp only [List.take_succ_cons, List.take_zero, List.drop_succ_cons, List.drop_zero]
  repeat still_step
  refine wpStill_nil ?_
  go_wp2_with fail
  refine (had_any s b q t m _ _ _ key _ (((H.out.alloc _).alloc _).drew) (((HM.out.alloc _).alloc _).drew) hk).mono ?_
  obtain ⟨hb0, hE⟩ : ∃ x, hasE key m = x := ⟨_, rfl⟩
  unfold PutPost hadV
  rw [hE]
  rintro e w1 ⟨rfl, hb1⟩
  have S1 := Lib.hid ((((H.out.alloc (.cells #[u0, .string key, u2, u3] 32)).alloc (.cells #[.bool false, .string ⟨#[]⟩, .int .i64 0, .int .i64 0] 29)).drew).below hb1)
  have M1 := Lib.hid ((((HM.out.alloc (.cells #[u0, .string key, u2, u3] 32)).alloc (.cells #[.bool false, .string ⟨#[]⟩, .int .i64 0, .int .i64 0] 29)).drew).below hb1)
  have K1 := Lib.hid (((Blk.newAt (w.alloc (.cells #[u0, .string key, u2, u3] 32)) #[.bool false, .string ⟨#[]⟩, .int .i64 0, .int .i64 0] 29 (w.heap.size + 1) (by simp)).drew).below hb1)
  have B1 := Lib.hid ((((Below.refl w.heap.size w).alloc (Nat.le_refl _) (.cells #[u0, .string key, u2, u3] 32)).alloc (by simp) (.cells #[.bool false, .string ⟨#[]⟩, .int .i64 0, .int .i64 0] 29)).drew.trans (hb1.mono (B' := w.heap.size) (by simp [World.drew]; omega)))
  have k0 := K1.out.cell 0; have k1 := K1.out.cell 1; have k2 := K1.out.cell 2; have k3 := K1.out.cell 3; have f1 := K1.out.fr
  simp at k0 k1 k2 k3
  have HB1 := Lib.hid hb1; clear hb1
  go_wp2
  have hs3 : s ≠ w.heap.size + 1 := by omega
  have hb3 : b ≠ w.heap.size + 1 := by omega
  obtain ⟨w3, hrun, M3, G3⟩ := ((((M1.out.far (p := ⟨w.heap.size + 1, 0, none⟩) hb3 (.bool hb0)).far (p := ⟨w.heap.size + 1, 1, none⟩) hb3 (.string ((getE key m).getD ByteArray.empty))).far (p := ⟨w.heap.size + 1, 2, none⟩) hb3 (.int .i64 0)).far (p := ⟨w.heap.size + 1, 3, none⟩) hb3 (.int .i64 0)).del hk 0
  have K3 := ((((K1.out.set 0 (.bool hb0)).set 1 (.string ((getE key m).getD ByteArray.empty))).set 2 (.int .i64 0)).set 3 (.int .i64 0)).grown G3 (fun e => hb3 (Option.some.inj e).symm)
  have S3 := ((((S1.out.far (p := ⟨w.heap.size + 1, 0, none⟩) hs3 (.bool hb0)).far (p := ⟨w.heap.size + 1, 1, none⟩) hs3 (.string ((getE key m).getD ByteArray.empty))).far (p := ⟨w.heap.size + 1, 2, none⟩) hs3 (.int .i64 0)).far (p := ⟨w.heap.size + 1, 3, none⟩) hs3 (.int .i64 0))
  have S4 := S3.keep (G3.block s S3.lt (fun e => hsb (Option.some.inj e)))
  have q4 := below_grownBy ((((B1.out.setCell (p := ⟨w.heap.size + 1, 0, none⟩) (by simp) (.bool hb0)).setCell (p := ⟨w.heap.size + 1, 1, none⟩) (by simp) (.string ((getE key m).getD ByteArray.empty))).setCell (p := ⟨w.heap.size + 1, 2, none⟩) (by simp) (.int .i64 0)).setCell (p := ⟨w.heap.size + 1, 3, none⟩) (by simp) (.int .i64 0)) G3
  have hinv : (invoke (.builtin .delete #[72, 9] 0 #[false, false]) #[.map (some b), .string key]).run Try.prog (((((w1.setCell ⟨w.heap.size + 1, 0, none⟩ (.bool hb0)).setCell ⟨w.heap.size + 1, 1, none⟩ (.string ((getE key m).getD ByteArray.empty))).setCell ⟨w.heap.size + 1, 2, none⟩ (.int .i64 0)).setCell ⟨w.heap.size + 1, 3, none⟩ (.int .i64 0))) = .ok (.value (.tuple #[])) w3 := by
    simp only [invoke, builtin, Sem.run_bind, Sem.run_pure, hrun, Result.andThen_ok]
  exact ⟨_, _, _, _, _, w3, _, _, rfl, hinv, results_cell_row rfl _ _ (w.heap.size + 1) 29 _ (0, 0) _ rfl K3 Try.underlying29 rfl (by kernel_rfl), (by show _ = Ending.returned (.agg #[.bool (hasE key m), .string ((getE key m).getD ByteArray.empty), .int .i64 0, .int .i64 0]); rw [hE]; rfl), S4, M3, q4⟩
end Go.Proofs.Ytnffkefhajodmaa
