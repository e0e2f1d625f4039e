/- objects: Keys. -/
import Derived.Test.YtnffkefhajodmaaObjM
import Derived.Test.YtnffkefhajodmaaKitB
import Derived.Test.YtnffkefhajodmaaIter
set_option linter.unusedVariables false
set_option linter.unusedSimpArgs false
namespace Go.Proofs.Ytnffkefhajodmaa
open Go.RowKit Go.Maps

/-- Entries' cells. -/
def entCells (m : Ents) : List Value := m.flatMap fun p => [.string p.1, .string p.2]
theorem entCells_len (m : Ents) : (entCells m).length = m.length * 2 := by
  induction m with
  | nil => rfl
  | cons p r ih => simp only [entCells, List.flatMap_cons, List.length_append, List.length_cons] at *; simp [ih]; omega
theorem entCells_succ (m : Ents) (k : Nat) (h : k < m.length) : entCells (m.take (k + 1)) = entCells (m.take k) ++ [.string m[k].1, .string m[k].2] := by
  unfold entCells
  rw [List.take_succ_eq_append_getElem h, List.flatMap_append]; simp
theorem entInfo : (Try.prog.info? 43).map (fun i => (i.zero, i.size, i.bytes)) = some (some (.agg #[.string ByteArray.empty, .string ByteArray.empty]), 2, 32) := by kernel_rfl

theorem ownsRow_ne {w : World} {base e size n g t : Nat} {v : Value} {xs : List Value} {cs : Array Value} (h : w.ownsRow base e size v n xs) (hg : Blk w g cs t) (ht : t ≠ e) : some g ≠ v.ownBlock := by
  rcases h.2 with ⟨rfl, _⟩ | ⟨g', cap, cur, rfl, hb, hh, _⟩
  · simp [Value.ownBlock]
  · intro he
    have : g = g' := Option.some.inj he
    subst this
    rw [show w.heap[g]? = _ from hg] at hh
    injection hh with hh
    injection hh with _ hh
    exact ht hh

theorem ownsRow_map {w : World} {base e size n b : Nat} {v : Value} {xs : List Value} {m : Ents} (h : w.ownsRow base e size v n xs) (hm : MapIs w b m) : some b ≠ v.ownBlock := by
  obtain ⟨⟨es, clock, h1, _⟩, _⟩ := hm
  rcases h.2 with ⟨rfl, _⟩ | ⟨g', cap, cur, rfl, hb, hh, _⟩
  · simp [Value.ownBlock]
  · intro he
    have : b = g' := Option.some.inj he
    subst this
    rw [h1] at hh
    cases hh

/-- A slice of texts that a call has made. -/
structure StrRow (w : World) (base : Nat) (v : Value) (xs : List ByteArray) : Prop where
  form : ∃ a c, v = .slice a xs.length c
  row : xs = [] ∨ ∃ g cap cur, v = .slice (some ⟨g, 0, none⟩) xs.length cap ∧ base ≤ g ∧ Blk w g cur 9 ∧ ∀ i (h : i < xs.length), cur[i]? = some (.string xs[i])

theorem StrRow.of {w : World} {base : Nat} {v : Value} {xs : List ByteArray} (h : w.ownsRow base 9 1 v xs.length (xs.map .string)) : StrRow w base v xs := by
  rcases h.2 with ⟨rfl, hn⟩ | ⟨g, cap, cur, rfl, hb, hh, h1, h2, h3, h4⟩
  · have : xs = [] := List.eq_nil_of_length_eq_zero hn
    subst this
    exact ⟨⟨none, 0, rfl⟩, .inl rfl⟩
  · refine ⟨⟨_, _, rfl⟩, .inr ⟨g, cap, cur, rfl, hb, hh, fun i hi => ?_⟩⟩
    have := congrArg (·[i]?) h4
    simp only [List.getElem?_take, List.getElem?_map, List.getElem?_eq_getElem hi] at this
    rw [if_pos (by omega)] at this
    simpa using this
theorem StrRow.keep {w w' : World} {base : Nat} {v : Value} {xs : List ByteArray} (h : StrRow w base v xs) (hb : ∀ g cs, v.ownBlock = some g → Blk w g cs 9 → Blk w' g cs 9) : StrRow w' base v xs := by
  refine ⟨h.form, ?_⟩
  rcases h.row with h | ⟨g, cap, cur, rfl, h1, h2, h3⟩
  · exact .inl h
  · exact .inr ⟨g, cap, cur, rfl, h1, hb g cur rfl h2, h3⟩
theorem StrRow.at {w : World} {base : Nat} {v : Value} {xs : List ByteArray} (h : StrRow w base v xs) {i : Nat} (hi : i < xs.length) : ∃ g cap, v = .slice (some ⟨g, 0, none⟩) xs.length cap ∧ g < w.heap.size ∧ w.cell? ⟨g, 0 + i, none⟩ = some (.string xs[i]) := by
  rcases h.row with rfl | ⟨g, cap, cur, rfl, h1, h2, h3⟩
  · simp at hi
  · exact ⟨g, cap, rfl, h2.lt, by rw [h2.cell, Nat.zero_add]; exact h3 i hi⟩

set_option maxRecDepth 100000 in
set_option maxHeartbeats 1000000 in
theorem keys_any (s b : Nat) (q : Value) (t : Int) (m : Ents) (w : World) (h : StIs w s (.map (some b)) q t) (hm : MapIs w b m) (hl : m.length ≤ 1000) (hks : ∀ p ∈ m, p.1.size ≤ 16) :
    Calls Try.prog 16 #[.pointer (some ⟨s, 0, none⟩)] w fun e w' => ∃ v, e = .returned v ∧ w'.ownsRow w.heap.size 43 2 v m.length (entCells m) ∧ Below w.heap.size w w' := by
  have c0 := h.c0
  have hs := h.lt
  have H := Lib.hid h; clear h
  have HM := Lib.hid hm; clear hm
  have HKS := Lib.hid hks; clear hks
  go_enter Try.func16, Try.ntmps16
  go_wp2_with fail
  refine (callsIn_wide.1 (Try.maps_Keys_42 (some b) w)).mono ?_
  rintro e w1 ⟨rfl, rfl⟩
  go_wp2_with fail
  refine (callsIn_wide.1 (Try.slices_Sorted_keys_41_42 b m.length (toD (H := Unit) m) _ w HM.out.1 (by rw [toD_size]; unfold maxLen; omega) (by rw [toD_size]; omega))).mono ?_
  rintro e w2 ⟨v, ss, rfl, hperm, hrow, _, hb2⟩
  have e1 := sorted_keys HM.out.2 hperm
  have el : ss.length = m.length := by rw [hperm.length_eq, strKeys_toD]; simp
  have e2 : (m.map fun p => bk p.1).map encStr = (m.map fun p => p.1).map Value.string := by
    rw [List.map_map, List.map_map]
    apply List.map_congr_left
    intro p _
    simp [encStr, bk]
  have R2 : StrRow w2 (w.heap.size + 1) v (m.map fun p => p.1) := StrRow.of (by
    rw [e1, el, e2, World.size_alloc] at hrow
    simpa using hrow)
  clear hrow hperm e1 el e2
  have S2 := Lib.hid ((H.out.alloc (.cells #[.map (some b)] 72)).below hb2)
  have M2 := Lib.hid ((HM.out.alloc (.cells #[.map (some b)] 72)).below hb2)
  have B2 := Lib.hid (((Below.refl w.heap.size w).alloc (Nat.le_refl _) (.cells #[.map (some b)] 72)).trans (hb2.mono (B' := w.heap.size) (by simp)))
  obtain ⟨va, vc, hvf⟩ := R2.form
  subst hvf
  have HR2 := Lib.hid R2
  clear R2 hb2
  simp only [List.length_map] at HR2 ⊢
  go_wp2
  go_loopw [15, 3] (fun i v' wr => ∃ k : Nat, k ≤ m.length ∧ i = .int .i64 k ∧ Below w.heap.size w wr ∧ Hid (StIs wr s (.map (some b)) q t) ∧ Hid (MapIs wr b m) ∧ Hid (StrRow wr (w.heap.size + 1) (.slice va m.length vc) (m.map fun p => p.1)) ∧ Hid (wr.ownsRow w.heap.size 43 2 v' k (entCells (m.take k)))) (fun i _ _ => m.length - (intOf i).toNat)
  case atStart => exact ⟨0, Nat.zero_le _, rfl, B2.out, S2, M2, HR2, World.ownsRow_nil _ _ _ _⟩
  case round =>
    obtain ⟨k, hk, rfl, hb, hs1, hm1, hr1, ho1⟩ := hrel
    have c0 := hs1.out.c0
    have hsr := hs1.out.lt
    by_cases hlt : k < m.length
    · obtain ⟨g, cap, hvv, hg, hc⟩ := hr1.out.at (i := k) (by simpa using hlt)
      simp only [List.getElem_map, List.length_map, Nat.zero_add] at hc hvv
      cases hvv
      have ek := entCells_succ m k hlt
      have hks1 := HKS.out m[k] (List.getElem_mem hlt)
      have hlk := hm1.out.look' (key := m[k].1) (by unfold maxLen; omega)
      have hget : getE m[k].1 m = some m[k].2 := getE_mem HM.out.2 hlt
      rw [hget] at hlk
      simp only [Option.getD_some] at hlk
      have EK := Lib.hid ek; clear ek hks1 hget
      generalize hkey : m[k].1 = key at *
      generalize hval : m[k].2 = val at *
      clear hkey hval
      have hb0 : w.heap.size ≤ wr.heap.size := hb.size
      have HB := Lib.hid hb; clear hb
      go_wp2_with (at_builtin; refine list_app rfl (.tmp 19) (.tmp 28) 40 rfl w.heap.size 43 (.agg #[.string ByteArray.empty, .string ByteArray.empty]) 2 32 entInfo Try.underlying40 rfl (by omega) u3 k _ rfl (ho1.out.alloc _) ⟨wr.heap.size, 0, none⟩ 1 1 [.string key, .string val] rfl rfl ?_ ?_ ?_ ?_ ?_ ?_; (intro j u hj; match j, hj with | 0, hj => (simp at hj; subst hj; exact (Blk.new wr #[.string key, .string val] 43).cell 0) | 1, hj => (simp at hj; subst hj; exact (Blk.new wr #[.string key, .string val] 43).cell 1)); (intro u hu; simp at hu; rcases hu with rfl | rfl <;> rfl); (unfold maxLen; omega); (omega); (simp; omega); intro v3 w3 O3 G3; have HO3 := Lib.hid O3; have HG3 := Lib.hid G3; clear O3 G3)
      go_roundw
      case rel =>
        have n1 := ownsRow_ne (ho1.out.alloc (.cells #[.string key, .string val] 43)) ((hs1.out.alloc (.cells #[.string key, .string val] 43))) (by decide)
        have n2 := ownsRow_map (ho1.out.alloc (.cells #[.string key, .string val] 43)) (hm1.out.alloc (.cells #[.string key, .string val] 43))
        refine ⟨k + 1, by omega, by go_num, ?_, (hs1.out.alloc _).keep (HG3.out.block _ (hs1.out.alloc _).lt n1), (hm1.out.alloc _).grown HG3.out n2, ?_, ?_⟩
        · exact (HB.out.alloc hb0 _).grown HG3.out (by simp; omega) (fun j hj => (ho1.out.lt j hj).1)
        · exact hr1.out.keep fun g' cs hg' hblk => (hblk.alloc _).grown HG3.out (ownsRow_ne ho1.out hblk (by decide))
        · rw [EK.out]; exact HO3.out
      case measure => simp [intOf]; omega
    · have : k = m.length := by omega
      subst this
      rw [List.take_length] at ho1
      go_wp2
      go_ret
      exact ⟨_, rfl, ho1.out, hb⟩

theorem entCells_get (m : Ents) : ∀ (k : Nat) (h : k < m.length), (entCells m)[k * 2]? = some (.string m[k].1) ∧ (entCells m)[k * 2 + 1]? = some (.string m[k].2) := by
  induction m with
  | nil => intro k h; simp at h
  | cons p r ih =>
    intro k h
    cases k with
    | zero => exact ⟨rfl, rfl⟩
    | succ k =>
      have := ih k (by simpa using h)
      simp only [entCells, List.flatMap_cons, List.getElem_cons_succ] at *
      rw [show (k + 1) * 2 = k * 2 + 2 by omega]
      exact this
/-- A row of entries, read. -/
theorem entRow_at {w : World} {base : Nat} {v : Value} {m : Ents} (h : w.ownsRow base 43 2 v m.length (entCells m)) {k : Nat} (hk : k < m.length) :
    ∃ g cap, v = .slice (some ⟨g, 0, none⟩) m.length cap ∧ g < w.heap.size ∧ w.cell? ⟨g, k * 2, none⟩ = some (.string m[k].1) ∧ w.cell? ⟨g, k * 2 + 1, none⟩ = some (.string m[k].2) := by
  rcases h.2 with ⟨rfl, h0⟩ | ⟨g, cap, cur, rfl, hb, hh, _⟩
  · omega
  · obtain ⟨h1, h2⟩ := entCells_get m k hk
    have c1 := h.cells (g := g) rfl _ _ h1
    have c2 := h.cells (g := g) rfl _ _ h2
    have ha : ∀ j, (⟨g, 0, none⟩ : Addr).add j = ⟨g, j, none⟩ := fun j => by unfold Addr.add; split <;> simp_all
    rw [ha] at c1 c2
    exact ⟨g, cap, rfl, (Array.getElem?_eq_some_iff.1 hh).1, c1, c2⟩
theorem entRow_form {w : World} {base : Nat} {v : Value} {m : Ents} (h : w.ownsRow base 43 2 v m.length (entCells m)) : ∃ a c, v = .slice a m.length c := by
  rcases h.2 with ⟨rfl, h0⟩ | ⟨g, cap, cur, rfl, hb, hh, _⟩
  · rw [h0]; exact ⟨none, 0, rfl⟩
  · exact ⟨_, _, rfl⟩
end Go.Proofs.Ytnffkefhajodmaa
