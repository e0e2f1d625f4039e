/- ObjectsQueue: what the walk needs. -/
import Derived.Test.YtnffkefhajodmaaObjR
import Derived.Test.YtnffkefhajodmaaShelf
import Derived.Test.YtnffkefhajodmaaRd
set_option linter.unusedVariables false
set_option linter.unusedSimpArgs false
namespace Go.Proofs.Ytnffkefhajodmaa
open Go.RowKit

/-- What is pushed of these. -/
def accQ1 (a : List ByteArray) (x : ByteArray) : List ByteArray := if x.size ≤ 60 ∧ a.length < 30 then a ++ [x] else a
def accQ (xs : List ByteArray) : List ByteArray := xs.foldl accQ1 []
theorem accQ_succ (xs : List ByteArray) (k : Nat) (h : k < xs.length) : accQ (xs.take (k + 1)) = accQ1 (accQ (xs.take k)) xs[k] := by
  unfold accQ
  rw [List.take_succ_eq_append_getElem h, List.foldl_append]; rfl
theorem accQ1_len (a : List ByteArray) (x : ByteArray) (h : a.length ≤ 30) : (accQ1 a x).length ≤ 30 := by
  unfold accQ1; split
  · simp; omega
  · exact h
theorem foldl_len (xs : List ByteArray) : ∀ a : List ByteArray, a.length ≤ 30 → (xs.foldl accQ1 a).length ≤ 30 := by
  induction xs with
  | nil => intro a h; exact h
  | cons x xs ih => intro a h; exact ih _ (accQ1_len a x h)
theorem accQ_len (xs : List ByteArray) : (accQ xs).length ≤ 30 := foldl_len xs [] (by simp)

theorem StIs.grown {w w' : World} {s : Nat} {m q : Value} {t : Int} {r : Option Nat} (h : StIs w s m q t) (hb : w.grownBy w' r) (hne : some s ≠ r) : StIs w' s m q t := h.keep (hb.block s h.lt hne)

theorem QIs.at {w : World} {lo : Nat} {v : Value} {qs : List ByteArray} (h : QIs w lo v qs) {j : Nat} (hj : j < qs.length) : ∃ g off cap, v = .slice (some ⟨g, off, none⟩) qs.length cap ∧ g < w.heap.size ∧ w.cell? ⟨g, off + j, none⟩ = some (.string qs[j]) := by
  rcases h with ⟨_, rfl⟩ | ⟨g, off, cap, cur, rfl, h1, h2, h3, h4, h5, h6⟩
  · simp at hj
  · exact ⟨g, off, cap, rfl, (Array.getElem?_eq_some_iff.1 h2).1, by rw [cell_of_row w g (off + j) cur 9 (0, 0) h2]; exact h6 j hj⟩

theorem below_drewN {B : Nat} {a w : World} (h : Below B a w) (n : Nat) : Below B a (w.drewN n) := ⟨h.os, h.tape, h.output, h.size, h.block⟩
theorem StIs.drewN {w : World} {s : Nat} {m q : Value} {t : Int} (h : StIs w s m q t) (n : Nat) : StIs (w.drewN n) s m q t := h
theorem QIs.drewN {w : World} {lo : Nat} {v : Value} {qs : List ByteArray} (h : QIs w lo v qs) (n : Nat) : QIs (w.drewN n) lo v qs := h

theorem right6 (x : ByteArray) (h : x.size ≤ 60) : rightB 6 ⟨#[]⟩ x 0 = true := by
  have e : (⟨#[]⟩ : ByteArray).size = 0 := rfl
  simp [rightB, e]; omega
theorem right6' (x : ByteArray) (h : ¬ x.size ≤ 60) : rightB 6 ⟨#[]⟩ x 0 = false := by
  have e : (⟨#[]⟩ : ByteArray).size = 0 := rfl
  simp [rightB, e]; omega
theorem right7 : rightB 7 ⟨#[]⟩ ⟨#[]⟩ 0 = true := by decide +kernel
theorem right8 : rightB 8 ⟨#[]⟩ ⟨#[]⟩ 0 = true := by decide +kernel

theorem fieldN (a b d : Value) (n : Int) (W : World) : (Instr.field 29 (.agg #[a, b, .int .i64 n, d]) 2).run Try.prog W = .ok (.int .i64 n) W := by kernel_rfl

/-- Two slices in blocks of their own. -/
def Apart (v q : Value) : Prop := ∀ k, v.ownBlock = some k → q.ownBlock ≠ some k
theorem Apart.nil (q : Value) : Apart (.slice none 0 0) q := fun k h => by simp [Value.ownBlock] at h

/-- Behind a push: the slice beside it. -/
theorem QIs.beside {w w' : World} {lo s : Nat} {m q v : Value} {t : Int} {xs : List ByteArray} (h : QIs w lo v xs) (hs : StIs w s m q t) (hk : Kept w w' (QS s q)) (ha : Apart v q) : QIs w' lo v xs :=
  h.keep fun k hk1 hlt => hk.block k hlt (by
    rintro (rfl | e)
    · exact h.ne hs.blk (by decide) hk1.symm
    · exact ha k hk1 e.symm)

theorem list_app_q {ops : Array Oper} {rest : List Oper} {o : Oper} {a : Act} {w : World} {Q : Exit → Act → World → Prop}
    (hg : o.guard = none) (s x : Operand) (hop : o.op = Op.call { callee := Callee.builtin Builtin.append, args := #[s, x], argTypes := #[35, 35] })
    (lo : Nat) (v : Value) (qs : List ByteArray) (hq : QIs w lo v qs) (hs : a.eval s = v) (b : Nat) (y : ByteArray) (hx : a.eval x = .slice (some ⟨b, 0, none⟩) 1 1) (hy : w.cell? ⟨b, 0, none⟩ = some (.string y))
    (hlen : qs.length ≤ 1000000) (hlo : lo ≤ w.heap.size)
    (h : ∀ g' off' cap' w', QIs w' lo (.slice (some ⟨g', off', none⟩) (qs.length + 1) cap') (qs ++ [y]) → w.grownBy w' v.ownBlock → (v.ownBlock = some g' ∨ w.heap.size ≤ g') → wpList Try.prog ops Q rest (a.put o.dst (.slice (some ⟨g', off', none⟩) (qs.length + 1) cap')) w') :
    wpList Try.prog ops Q (o :: rest) a w := by
  refine wpList_plain hg fun K hK => ?_
  have := step_app_q (ops := #[]) (E := True) (Q := Q) (K := K) hg s x hop lo v qs hq hs b y hx hy hlen hlo (fun g' off' cap' w' h1 h2 h3 => hK _ _ (h g' off' cap' w' h1 h2 h3))
  rwa [if_pos (by simp [Region.wanted, hg])] at this

theorem queue_empty (s : Nat) (m q : Value) (t : Int) (lo : Nat) (w : World) (h : StIs w s m q t) (hq : QIs w lo q []) :
    Calls Try.prog 14 #[.pointer (some ⟨s, 0, none⟩)] w fun e w' => (∃ a c, e = .returned (.slice a 0 c)) ∧ Below w.heap.size w w' := by
  obtain ⟨a, c, rfl⟩ := hq.form
  have c2 := h.c2
  have H := Lib.hid h; clear h
  have HQ := Lib.hid hq; clear hq
  simp only [List.length_nil] at c2
  go_enter Try.func14, Try.ntmps14
  cases a with
  | none =>
    go_wp2_with (go_at_call 40; refine (Try.slices_Clone_string_nil 0 _ _).mono ?_; rintro e w1 ⟨rfl, rfl⟩)
    go_ret
    exact ⟨⟨_, _, rfl⟩, Below.refl _ _⟩
  | some a =>
    go_wp2_with (go_at_call 40; refine (Try.slices_Clone_string_zero a _ _).mono ?_; rintro e w1 ⟨v', rfl, hv', hn, hb⟩)
    go_ret
    refine ⟨?_, hb⟩
    rcases hv'.2 with ⟨rfl, _⟩ | ⟨g, cap, cur, rfl, _⟩
    · exact ⟨_, _, rfl⟩
    · exact ⟨_, _, rfl⟩

end Go.Proofs.Ytnffkefhajodmaa
