/- The document's disk: Dirty, Fill. -/
import Derived.Test.YtlgimhhhlpmjcaaRfB
set_option linter.unusedVariables false
set_option linter.unusedSimpArgs false
namespace Go.Proofs.Ytlgimhhhlpmjcaa
open Go.RowKit Go.Maps Go.WideMaps Go.Shelf

/-- Which are dirty, as bools. -/
def isDs (n : Nat) (df : Int → Option Sec) : List Bool := (List.range n).map (isD df)
theorem isDs_len (n : Nat) (df : Int → Option Sec) : (isDs n df).length = n := by simp [isDs]
theorem isDs_get {n k : Nat} (df : Int → Option Sec) (h : k < (isDs n df).length) : (isDs n df)[k] = isD df k := by simp [isDs]
theorem isDs_none (n : Nat) : isDs n (fun _ => none) = List.replicate n false := by
  apply List.ext_getElem
  · simp [isDs]
  · intro i h1 h2; simp [isDs, isD]
theorem isDs_put {n i : Nat} (df : Int → Option Sec) (s : Sec) (h : i < n) : (isDs n df).set i true = isDs n (putL df i s) := by
  apply List.ext_getElem
  · simp [isDs]
  · intro j h1 h2
    rw [List.getElem_set]
    simp only [isDs, List.getElem_map, List.getElem_range, isD_put]
    by_cases e : i = j
    · subst e; simp
    · have : ¬ j = i := fun h => e h.symm
      simp [e, this]
theorem flushS_put {n i : Nat} (sf : List Sec) (df : Int → Option Sec) (s : Sec) (h : i < n) : (flushS n sf df).set i s = flushS n sf (putL df i s) := by
  apply List.ext_getElem
  · simp [flushS]
  · intro j h1 h2
    rw [List.getElem_set]
    simp only [flushS, List.getElem_map, List.getElem_range, curS_put]
    by_cases e : i = j
    · subst e; simp
    · have : ¬ j = i := fun h => e h.symm
      simp [e, this]
theorem flushS_none {n : Nat} {sf : List Sec} (h : sf.length = n) : flushS n sf (fun _ => none) = sf := by
  apply List.ext_getElem
  · simp [flushS, h]
  · intro j h1 h2
    simp [flushS, curS_none, List.getD_eq_getElem?_getD, h2]
theorem dirtyI_succ (n : Nat) (df : Int → Option Sec) : dirtyI (n + 1) df = dirtyI n df ++ (if isD df n then [(n : Int)] else []) := by
  unfold dirtyI
  rw [dirtyN_succ, List.map_append]
  cases isD df n <;> rfl
theorem intInfo : (Try.prog.info? 3).map (fun i => (i.zero, i.size, i.bytes)) = some (some (.int .i64 0), 1, 8) := by kernel_rfl

set_option maxRecDepth 100000 in
set_option maxHeartbeats 1000000 in
theorem rdirty_any (m ab bb cb n : Nat) (nw ol : List Sec) (df : Int → Option Sec) (w : World) (h : RefIs w m ab bb cb n nw ol (isDs n df)) :
    Calls Try.prog 64 #[.pointer (some ⟨m, 0, none⟩)] w (DirtyPost w n df) := by
  have hn := h.small
  have H := Lib.hid h; clear h
  go_enter Try.func64, Try.ntmps64
  go_wp2
  go_loopw [3, 4] (fun v i wr => ∃ k : Nat, k ≤ n ∧ i = .int .i64 k ∧ Hid (wr.ownsRow w.heap.size 3 1 v (dirtyI k df).length ((dirtyI k df).map (Value.int .i64))) ∧ Hid (Below w.heap.size w wr)) (fun _ i _ => n - (intOf i).toNat)
  case atStart => exact ⟨0, Nat.zero_le _, rfl, Lib.hid (World.ownsRow_nil _ _ _ _), Lib.hid (Below.refl _ _)⟩
  case round =>
    obtain ⟨k, hk, rfl, hO, hB⟩ := hrel
    have hR := H.out.below hB.out
    obtain ⟨c1, c2, c3, hb⟩ := hR.blk
    have k2 := hb.cell 2
    simp at k2
    have zr := hB.out.size
    by_cases hlt : k < n
    · have hlt2 : (k : Int) < n := by omega
      have hk0 : (0 : Int) ≤ (k : Int) := by omega
      have hld : k < (isDs n df).length := by rw [isDs_len]; exact hlt
      have e2 := hR.c.cell k
      rw [bl_get hld, isDs_get df hld] at e2
      have hsu := dirtyI_succ k df
      have hle : (dirtyI k df).length ≤ 1024 := by rw [dirtyI_len]; have := dirtyN_le k df; omega
      clear hld hb hR
      cases hd : isD df k with
      | true =>
        rw [hd] at e2 hsu
        have HSU := Lib.hid hsu; clear hsu hd
        go_wp2_with (at_builtin; refine list_app rfl (.tmp 21) (.tmp 23) 69 rfl w.heap.size 3 (.int .i64 0) 1 8 intInfo Try.underlying69 rfl (by omega) u3 (dirtyI k df).length _ rfl (ownsRow_below hO.out ((Below.refl _ _).alloc (Nat.le_refl _) _)) ⟨wr.heap.size, 0, none⟩ 1 1 [.int .i64 k] rfl rfl ?_ ?_ ?_ ?_ ?_ ?_; (intro j u hj; match j, hj with | 0, hj => (simp at hj; subst hj; exact (Blk.newAt wr #[.int .i64 k] 3 wr.heap.size rfl).cell 0)); (intro u hu; simp at hu; subst hu; rfl); (unfold maxLen; omega); (omega); (simp; omega); intro v6 w6 O6 G6; have HO6 := Lib.hid O6; have HG6 := Lib.hid G6; clear O6 G6)
        go_roundw
        case rel =>
          refine ⟨k + 1, by omega, by go_num, Lib.hid ?_, Lib.hid ?_⟩
          · rw [HSU.out]; simpa using HO6.out
          · exact (hB.out.alloc zr _).grown HG6.out (by simp; omega) (fun j hj => (hO.out.lt j hj).1)
        case measure => simp [intOf]; omega
      | false =>
        rw [hd] at e2 hsu
        have HSU := Lib.hid hsu; clear hsu hd
        go_wp2
        go_roundw
        case rel => exact ⟨k + 1, by omega, by go_num, Lib.hid (by rw [HSU.out]; simpa using hO.out), hB⟩
        case measure => simp [intOf]; omega
    · have hkk : k = n := by omega
      subst hkk
      obtain ⟨a, c, rfl⟩ := row_form hO.out
      clear hb hR
      go_wp2
      go_ret
      exact ⟨a, c, rfl, hO.out, hB.out⟩

/-- A sector that is being filled. -/
def fillTo (xs : List Int) (k : Nat) : Sec := xs.take k ++ List.replicate (64 - k) 0
theorem fillTo_len {xs : List Int} {k : Nat} (h1 : k ≤ xs.length) (h2 : k ≤ 64) : (fillTo xs k).length = 64 := by simp [fillTo]; omega
theorem fillTo_set {xs : List Int} {k : Nat} (h1 : k < xs.length) (h2 : k < 64) : (fillTo xs k).set k xs[k] = fillTo xs (k + 1) := by
  unfold fillTo
  have e : List.replicate (64 - k) (0 : Int) = 0 :: List.replicate (64 - (k + 1)) 0 := by
    rw [show 64 - k = (64 - (k + 1)) + 1 by omega, List.replicate_succ]
  have this : k - (xs.take k).length = 0 := by simp; omega
  rw [e, List.set_append_right _ _ (by simp; omega), this, List.take_succ_eq_append_getElem h1, List.append_assoc]
  rfl
theorem sc_set (x : Sec) (i : Nat) (b : Int) : (sc x).toArray.setIfInBounds i (.int .u8 b) = (sc (x.set i b)).toArray := by
  unfold sc
  rw [List.setIfInBounds_toArray, List.map_set]
theorem fillTo_end {xs : List Int} {k : Nat} (h : ¬ (k < xs.length ∧ k < 64)) (h1 : k ≤ xs.length) (h2 : k ≤ 64) : fillTo xs k = fillS xs := by
  unfold fillTo fillS
  by_cases e : k = 64
  · subst e
    rw [show 64 - xs.length = 0 by omega]
  · have : k = xs.length := by omega
    subst this
    rw [List.take_length, List.take_of_length_le (by omega)]
end Go.Proofs.Ytlgimhhhlpmjcaa
