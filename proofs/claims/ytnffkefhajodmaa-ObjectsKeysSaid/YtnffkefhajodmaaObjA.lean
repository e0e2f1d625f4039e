/- objects: the small methods (New, Total, add, count, size, Right), as contracts. -/
import Derived.Test.YtnffkefhajodmaaKit
set_option linter.unusedVariables false
set_option linter.unusedSimpArgs false
namespace Go.Proofs.Ytnffkefhajodmaa
open Go.RowKit

/-- A state of objects at block s: the map's value, the count, the queue's value. -/
def StIs (w : World) (s : Nat) (m q : Value) (t : Int) : Prop := w.heap[s]? = some (.cells #[m, .int .i64 t, q] 74 (0, 0))

theorem StIs.c0 {w : World} {s : Nat} {m q : Value} {t : Int} (h : StIs w s m q t) : w.cell? ⟨s, 0, none⟩ = some m := by simp [World.cell?, StIs] at *; rw [h]; rfl
theorem StIs.c1 {w : World} {s : Nat} {m q : Value} {t : Int} (h : StIs w s m q t) : w.cell? ⟨s, 1, none⟩ = some (.int .i64 t) := by simp [World.cell?, StIs] at *; rw [h]; rfl
theorem StIs.c2 {w : World} {s : Nat} {m q : Value} {t : Int} (h : StIs w s m q t) : w.cell? ⟨s, 2, none⟩ = some q := by simp [World.cell?, StIs] at *; rw [h]; rfl
theorem StIs.fr {w : World} {s : Nat} {m q : Value} {t : Int} (h : StIs w s m q t) (o : Nat) : w.frozen? ⟨s, o, none⟩ = false := by simp [World.frozen?, StIs] at *; rw [h]; simp

theorem total_any (s : Nat) (m q : Value) (t : Int) (w : World) (h : StIs w s m q t) :
    Calls Try.prog 11 #[.pointer (some ⟨s, 0, none⟩)] w fun e w' => e = .returned (.int .i64 t) ∧ w = w' := by
  have c1 := h.c1
  have H := Lib.hid h; clear h
  go_enter Try.func11, Try.ntmps11
  go_wp2
  go_ret
  exact ⟨rfl, rfl⟩

/-- What a state's method leaves: its block holds this; all else that there was is as it was. -/
def St1 (w w' : World) (s : Nat) (m q : Value) (t : Int) : Prop := StIs w' s m q t ∧ w.grownBy w' (some s)

theorem count_any (s : Nat) (m q : Value) (t : Int) (u0 u1 u2 u3 : Value) (w : World) (h : StIs w s m q t) :
    Calls Try.prog 36 #[.pointer (some ⟨s, 0, none⟩), .agg #[u0, u1, u2, u3]] w fun e w' => e = .returned (.agg #[.bool false, .string ⟨#[]⟩, .int .i64 t, .int .i64 0]) ∧ Below w.heap.size w w' := by
  have c1 := h.c1
  have hs : s < w.heap.size := World.block_lt_of_cell? w _ c1
  have H := Lib.hid h; clear h
  go_enter Try.func36, Try.ntmps36
  go_wp2
  go_returns
  exact ⟨rfl, by go_grown⟩

theorem size_any (s : Nat) (m : Value) (qa : Option Addr) (qn qc : Nat) (t : Int) (u0 u1 u2 u3 : Value) (w : World) (h : StIs w s m (.slice qa qn qc) t) :
    Calls Try.prog 39 #[.pointer (some ⟨s, 0, none⟩), .agg #[u0, u1, u2, u3]] w fun e w' => e = .returned (.agg #[.bool false, .string ⟨#[]⟩, .int .i64 qn, .int .i64 0]) ∧ Below w.heap.size w w' := by
  have c1 := h.c2
  have hs : s < w.heap.size := World.block_lt_of_cell? w _ c1
  have H := Lib.hid h; clear h
  go_enter Try.func39, Try.ntmps39
  go_wp2
  go_returns
  exact ⟨rfl, by go_grown⟩

theorem new_any (w : World) :
    Calls Try.prog 10 #[] w fun e w' => e = .returned (.pointer (some ⟨w.heap.size + 1, 0, none⟩)) ∧ w' = (w.alloc (.map #[] 0)).alloc (.cells #[.map (some w.heap.size), .int .i64 0, .slice none 0 0] 74 (0,0)) := by
  have hmm := @run_makeMap Try.prog
  go_enter Try.func10, Try.ntmps10
  go_wp2
  go_ret
  exact ⟨rfl, rfl⟩

/-- Whether a sum has been wrapped, as the code asks it. -/
def ovf (t n : Int) : Bool := decide (bits .and .i64 (bits .xor .i64 t (wrap64 (t + n))) (bits .xor .i64 n (wrap64 (t + n))) < 0)

theorem StIs.set1 {w : World} {s : Nat} {m q : Value} {t : Int} (h : StIs w s m q t) (t' : Int) : StIs (w.setCell ⟨s, 1, none⟩ (.int .i64 t')) s m q t' := by
  simp only [StIs, World.setCell, Array.getElem?_modify, if_true] at *
  rw [h]; rfl
theorem StIs.keep {w w' : World} {s : Nat} {m q : Value} {t : Int} (h : StIs w s m q t) (hb : w'.heap[s]? = w.heap[s]?) : StIs w' s m q t := by
  unfold StIs at *; rw [hb]; exact h
theorem StIs.lt {w : World} {s : Nat} {m q : Value} {t : Int} (h : StIs w s m q t) : s < w.heap.size := World.block_lt_of_cell? w _ h.c1
theorem StIs.alloc {w : World} {s : Nat} {m q : Value} {t : Int} (h : StIs w s m q t) (o : Obj) : StIs (w.alloc o) s m q t := h.keep (Below.heap_alloc _ _ _ h.lt)
theorem StIs.below {w w' : World} {s : Nat} {m q : Value} {t : Int} (h : StIs w s m q t) (hb : Below w.heap.size w w') : StIs w' s m q t := h.keep (hb.block s h.lt)
theorem StIs.drew {w : World} {s : Nat} {m q : Value} {t : Int} (h : StIs w s m q t) : StIs w.drew s m q t := h




theorem add_any (s : Nat) (m q : Value) (t n : Int) (u0 u1 u2 : Value) (w : World) (h : StIs w s m q t) :
    Calls Try.prog 35 #[.pointer (some ⟨s, 0, none⟩), .agg #[u0, u1, u2, .int .i64 n]] w fun e w' => 
      e = .returned (.agg #[.bool (ovf t n), .string ⟨#[]⟩, .int .i64 (wrap64 (t + n)), .int .i64 0]) ∧ St1 w w' s m q (wrap64 (t + n)) := by
  have c1 := h.c1
  have f1 := h.fr 1
  have hs : s < w.heap.size := World.block_lt_of_cell? w _ c1
  have hs1 : ¬ w.heap.size = s := by omega
  have hs2 : ¬ w.heap.size + 1 = s := by omega
  have H := Lib.hid h; clear h
  go_enter Try.func35, Try.ntmps35
  go_wp2
  go_region
  go_wp2
  go_region
  go_wp2
  go_returns
  exact ⟨rfl, (((H.out.set1 _).alloc _).alloc _).drew.drew, grownBy_dr (grownBy_dr (grownBy_al (grownBy_al (grownBy_set _ _ _ _) _) _))⟩

end Go.Proofs.Ytnffkefhajodmaa
