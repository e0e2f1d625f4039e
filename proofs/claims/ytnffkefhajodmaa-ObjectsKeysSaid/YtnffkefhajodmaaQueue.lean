/- objects: the queue: a slice of strings that may begin inside its block. -/
import Derived.Test.YtnffkefhajodmaaObjA
import Derived.Deep.RegionLaw
import Derived.Deep.RegionLawGrows
set_option linter.unusedVariables false
set_option linter.unusedSimpArgs false
namespace Go.Proofs.Ytnffkefhajodmaa
open Go.RowKit

/-- A slice of strings of the state's own, from block lo on. -/
def QIs (w : World) (lo : Nat) (v : Value) (qs : List ByteArray) : Prop :=
  (v = .slice none 0 0 ∧ qs = []) ∨ ∃ g off cap cur, v = .slice (some ⟨g, off, none⟩) qs.length cap ∧ lo ≤ g ∧ w.heap[g]? = some (.cells cur 9 (0, 0)) ∧ qs.length ≤ cap ∧ cap ≤ maxLen ∧ off + cap ≤ cur.size ∧ ∀ i (h : i < qs.length), cur[off + i]? = some (.string qs[i])

theorem QIs.keep {w w' : World} {lo : Nat} {v : Value} {qs : List ByteArray} (h : QIs w lo v qs) (hb : ∀ k, v.ownBlock = some k → k < w.heap.size → w'.heap[k]? = w.heap[k]?) : QIs w' lo v qs := by
  rcases h with h | ⟨g, off, cap, cur, rfl, h1, h2, h3⟩
  · exact .inl h
  · exact .inr ⟨g, off, cap, cur, rfl, h1, (hb g rfl (Array.getElem?_eq_some_iff.1 h2).1).trans h2, h3⟩
theorem QIs.below {w w' : World} {lo : Nat} {v : Value} {qs : List ByteArray} (h : QIs w lo v qs) (hb : Below w.heap.size w w') : QIs w' lo v qs := h.keep fun k _ hk => hb.block k hk
theorem QIs.alloc {w : World} {lo : Nat} {v : Value} {qs : List ByteArray} (h : QIs w lo v qs) (o : Obj) : QIs (w.alloc o) lo v qs := h.below ((Below.refl _ _).alloc (Nat.le_refl _) _)
theorem QIs.drew {w : World} {lo : Nat} {v : Value} {qs : List ByteArray} (h : QIs w lo v qs) : QIs w.drew lo v qs := h
theorem QIs.grown {w w' : World} {lo : Nat} {v : Value} {qs : List ByteArray} {r : Option Nat} (h : QIs w lo v qs) (hb : w.grownBy w' r) (hne : v.ownBlock = none ∨ v.ownBlock ≠ r) : QIs w' lo v qs :=
  h.keep fun k hk hlt => hb.block k hlt (by rcases hne with hne | hne <;> rw [hk] at hne <;> simp_all)
/-- A block of another type is none of its. -/
theorem QIs.ne {w : World} {lo g t : Nat} {v : Value} {qs : List ByteArray} {cs : Array Value} (h : QIs w lo v qs) (hg : Blk w g cs t) (ht : t ≠ 9) : some g ≠ v.ownBlock := by
  rcases h with ⟨rfl, _⟩ | ⟨g', off, cap, cur, rfl, h1, h2, h3⟩
  · simp [Value.ownBlock]
  · intro e
    have e : g = g' := Option.some.inj e
    subst e
    rw [show w.heap[g]? = _ from hg] at h2
    injection h2 with h2
    injection h2 with _ h2
    exact ht h2
theorem QIs.ne' {w : World} {lo g t : Nat} {v : Value} {qs : List ByteArray} {cs : Array Value} (h : QIs w lo v qs) (hg : Blk w g cs t) (ht : t ≠ 9) : v.ownBlock = none ∨ v.ownBlock ≠ some g := .inr fun e => h.ne hg ht e.symm
theorem QIs.lo {w : World} {lo : Nat} {v : Value} {qs : List ByteArray} (h : QIs w lo v qs) : ∀ k, v.ownBlock = some k → lo ≤ k ∧ k < w.heap.size := by
  intro k hk
  rcases h with ⟨rfl, _⟩ | ⟨g, off, cap, cur, rfl, h1, h2, _⟩
  · simp [Value.ownBlock] at hk
  · have : g = k := Option.some.inj hk
    subst this
    exact ⟨h1, (Array.getElem?_eq_some_iff.1 h2).1⟩
theorem QIs.form {w : World} {lo : Nat} {v : Value} {qs : List ByteArray} (h : QIs w lo v qs) : ∃ a c, v = .slice a qs.length c := by
  rcases h with ⟨rfl, rfl⟩ | ⟨g, off, cap, cur, rfl, _⟩
  · exact ⟨none, 0, rfl⟩
  · exact ⟨_, _, rfl⟩

theorem infoS : (Try.prog.info? 9).map (fun i => (i.zero, i.size, i.bytes)) = some (some (.string ByteArray.empty), 1, 16) := by kernel_rfl

theorem heap_setCells (w : World) (g : Nat) (cur : Array Value) (t : Nat) (o : Nat) (u : Value) (hg : w.heap[g]? = some (.cells cur t (0, 0))) :
    (w.setCells g o [u]).heap[g]? = some (.cells (cur.setIfInBounds o u) t (0, 0)) := by
  simp only [World.setCells]
  exact Blk.set hg o u

set_option maxRecDepth 100000 in
theorem step_app_q {ops : Array Oper} {o : Oper} {a : Act} {w : World} {K : Act → World → Prop} {Q : Exit → Act → World → Prop} {E : Prop}
    (hg : o.guard = none) (s x : Operand) (hop : o.op = Op.call { callee := Callee.builtin Builtin.append, args := #[s, x], argTypes := #[35, 35] })
    (lo : Nat) (v : Value) (qs : List ByteArray) (hq : QIs w lo v qs) (hs : a.eval s = v) (b : Nat) (y : ByteArray) (hx : a.eval x = .slice (some ⟨b, 0, none⟩) 1 1) (hy : w.cell? ⟨b, 0, none⟩ = some (.string y))
    (hlen : qs.length ≤ 1000000) (hlo : lo ≤ w.heap.size)
    (h : ∀ g' off' cap' w', QIs w' lo (.slice (some ⟨g', off', none⟩) (qs.length + 1) cap') (qs ++ [y]) → w.grownBy w' v.ownBlock → (v.ownBlock = some g' ∨ w.heap.size ≤ g') → K (a.put o.dst (.slice (some ⟨g', off', none⟩) (qs.length + 1) cap')) w') :
    if Region.wanted o (yielded ops a.tmps) = true then Oper.wp Try.prog o a w K Q else E := by
  obtain ⟨i, hi, hzz⟩ := Option.map_eq_some_iff.1 infoS
  simp only [Prod.mk.injEq] at hzz
  obtain ⟨hz, hsize, hby⟩ := hzz
  have hnews : ∀ j u, ([Value.string y] : List Value)[j]? = some u → w.cell? ((⟨b, 0, none⟩ : Addr).add j) = some u := by
    intro j u hj
    match j, hj with
    | 0, hj => simp at hj; subst hj; simpa [Addr.add] using hy
  have h1c : ∀ u ∈ ([Value.string y] : List Value), u.oneCell' = true := by intro u hu; simp at hu; subst hu; rfl
  have grows : ∀ (ao : Option Addr) (cap : Nat), v = .slice ao qs.length cap → (ao = none → qs.length = 0 ∧ cap = 0) → (∀ b', ao = some b' → ∀ j u, (qs.map Value.string)[j]? = some u → w.cell? (b'.add j) = some u) → cap < qs.length + 1 →
      if Region.wanted o (yielded ops a.tmps) = true then Oper.wp Try.prog o a w K Q else E := by
    intro ao cap hv hn hc hcap
    refine step_append_grows hg s x 35 hop 9 i (.string ByteArray.empty) 1 16 Try.underlying35 hi hz hsize hby rfl (by omega) ao qs.length cap (qs.map Value.string) (hs.trans hv) hn (by simp) hc ⟨b, 0, none⟩ 1 1 [.string y] hx rfl hnews h1c hcap (by unfold maxLen; omega) (by omega) ?_
    intro v' w' hown hgr
    obtain ⟨g', cap', cur, rfl, hb', hh, hle, hcm, hcs, htake⟩ : ∃ g cap' cur, v' = .slice (some ⟨g, 0, none⟩) (qs.length + 1) cap' ∧ w.heap.size ≤ g ∧ w'.heap[g]? = some (.cells cur 9 (0, 0)) ∧ qs.length + 1 ≤ cap' ∧ cap' ≤ maxLen ∧ cur.size = cap' * 1 ∧ cur.toList.take ((qs.length + 1) * 1) = qs.map Value.string ++ [.string y] := by
      rcases hown.2 with ⟨_, h⟩ | h
      · omega
      · exact h
    refine h g' 0 cap' w' (.inr ⟨g', 0, cap', cur, by simp, by omega, hh, by simp; omega, hcm, by omega, ?_⟩) ⟨hgr.os, hgr.tape, hgr.output, hgr.size, fun k hk _ => hgr.block k hk (by simp)⟩ (.inr hb')
    intro j hj
    have h2 : (qs.map Value.string ++ [Value.string y])[j]? = some (.string (qs ++ [y])[j]) := by
      rw [show qs.map Value.string ++ [Value.string y] = (qs ++ [y]).map Value.string by simp, List.getElem?_map, List.getElem?_eq_getElem hj]; rfl
    rw [← htake, List.getElem?_take, if_pos (by simp at hj; omega)] at h2
    simpa using h2
  rcases hq with ⟨rfl, rfl⟩ | ⟨g, off, cap, cur, rfl, h1, h2, h3, h4, h5, h6⟩
  · exact grows none 0 rfl (fun _ => ⟨rfl, rfl⟩) (fun b' hb' => by cases hb') (by simp)
  · have hcell : ∀ j (hj : j < qs.length), w.cell? ⟨g, off + j, none⟩ = some (.string qs[j]) := fun j hj => by
      rw [cell_of_row w g (off + j) cur 9 (0, 0) h2]; exact h6 j hj
    by_cases hr : qs.length + 1 ≤ cap
    · refine step_append_room hg s x 35 hop 9 i 1 Try.underlying35 hi hsize g off qs.length cap hs ⟨b, 0, none⟩ 1 1 [.string y] hx rfl hnews h1c hr ?_ ?_
      · intro j hj
        have hj0 : j = 0 := by simpa using hj
        subst hj0
        rw [cell_of_row w g _ cur 9 (0, 0) h2, frozen_of_row w g _ cur 9 h2]
        exact ⟨by simp; omega, rfl⟩
      · refine h g off cap _ (.inr ⟨g, off, cap, cur.setIfInBounds (off + qs.length * 1) (.string y), by simp, h1, heap_setCells w g cur _ _ _ h2, by simpa using hr, h4, by simpa using h5, ?_⟩) ?_ (.inl rfl)
        · intro j hj
          by_cases hjl : j < qs.length
          · rw [Array.getElem?_setIfInBounds_ne (by omega), h6 j hjl, List.getElem_append_left hjl]
          · have : j = qs.length := by simp at hj; omega
            subst this
            rw [Nat.mul_one, Array.getElem?_setIfInBounds_self_of_lt (by omega)]
            simp
        · exact grownBy_set w g (off + qs.length * 1) (.string y)
    · refine grows (some ⟨g, off, none⟩) cap rfl (fun h => by cases h) (fun b' hb' j u hu => ?_) (by omega)
      injection hb' with hb'
      subst hb'
      have hj : j < qs.length := by have := (List.getElem?_eq_some_iff.1 hu).1; simpa using this
      have hadd : (⟨g, off, none⟩ : Addr).add j = ⟨g, off + j, none⟩ := by unfold Addr.add; split <;> simp_all
      rw [hadd, hcell j hj, ← hu]; simp [hj]

/-- All that there was is as it was, but for the blocks in S. -/
structure Kept (w w' : World) (S : Nat → Prop) : Prop where
  os : w'.os = w.os
  tape : w'.tape = w.tape
  output : w'.output = w.output
  size : w.heap.size ≤ w'.heap.size
  block : ∀ k, k < w.heap.size → ¬ S k → w'.heap[k]? = w.heap[k]?
theorem Kept.of_below {w w' : World} (h : Below w.heap.size w w') (S : Nat → Prop) : Kept w w' S := ⟨h.os, h.tape, h.output, h.size, fun k hk _ => h.block k hk⟩
theorem Kept.then {w w1 w2 : World} {S : Nat → Prop} (h : Kept w w1 S) (hb : Below w1.heap.size w1 w2) : Kept w w2 S :=
  ⟨hb.os.trans h.os, hb.tape.trans h.tape, hb.output.trans h.output, Nat.le_trans h.size hb.size, fun k hk hn => (hb.block k (Nat.lt_of_lt_of_le hk h.size)).trans (h.block k hk hn)⟩
theorem Kept.behind {w w1 w2 : World} {S : Nat → Prop} (hb : Below w.heap.size w w1) (h : Kept w1 w2 S) : Kept w w2 S :=
  ⟨h.os.trans hb.os, h.tape.trans hb.tape, h.output.trans hb.output, Nat.le_trans hb.size h.size, fun k hk hn => (h.block k (Nat.lt_of_lt_of_le hk hb.size) hn).trans (hb.block k hk)⟩
theorem Kept.mono {w w1 : World} {S S' : Nat → Prop} (h : Kept w w1 S) (hs : ∀ k, k < w.heap.size → S k → S' k) : Kept w w1 S' :=
  ⟨h.os, h.tape, h.output, h.size, fun k hk hn => h.block k hk fun hS => hn (hs k hk hS)⟩
theorem Kept.trans {w w1 w2 : World} {S : Nat → Prop} (h : Kept w w1 S) (k : Kept w1 w2 S) : Kept w w2 S :=
  ⟨k.os.trans h.os, k.tape.trans h.tape, k.output.trans h.output, Nat.le_trans h.size k.size, fun i hi hn => (k.block i (Nat.lt_of_lt_of_le hi h.size) hn).trans (h.block i hi hn)⟩
theorem Kept.of_grown {w w1 : World} {r : Option Nat} {S : Nat → Prop} (h : w.grownBy w1 r) (hs : ∀ k, r = some k → S k) : Kept w w1 S :=
  ⟨h.os, h.tape, h.output, h.size, fun k hk hn => h.block k hk fun e => hn (hs k e.symm)⟩
theorem Kept.far {w w1 : World} {S : Nat → Prop} (h : Kept w w1 S) {p : Addr} (hp : w.heap.size ≤ p.block) (u : Value) : Kept w (w1.setCell p u) S :=
  ⟨h.os, h.tape, h.output, by simpa [World.setCell] using h.size, fun k hk hne => (Below.heap_setCell _ _ _ _ (by omega)).trans (h.block k hk hne)⟩
theorem Kept.set {w w1 : World} {S : Nat → Prop} (h : Kept w w1 S) {p : Addr} (hp : S p.block) (u : Value) : Kept w (w1.setCell p u) S :=
  ⟨h.os, h.tape, h.output, by simpa [World.setCell] using h.size, fun k hk hne => (Below.heap_setCell _ p u k (fun e => hne (by rw [e]; exact hp))).trans (h.block k hk hne)⟩
theorem Kept.alloc {w w1 : World} {S : Nat → Prop} (h : Kept w w1 S) (o : Obj) : Kept w (w1.alloc o) S :=
  ⟨h.os, h.tape, h.output, Nat.le_trans h.size (by simp), fun k hk hne => (Below.heap_alloc _ _ _ (Nat.lt_of_lt_of_le hk h.size)).trans (h.block k hk hne)⟩
theorem Kept.drew {w w1 : World} {S : Nat → Prop} (h : Kept w w1 S) : Kept w w1.drew S := ⟨h.os, h.tape, h.output, h.size, h.block⟩
theorem Kept.below {w w1 : World} {S : Nat → Prop} (h : Kept w w1 S) {B : Nat} (hB : B ≤ w.heap.size) (hs : ∀ k, S k → B ≤ k) : Below B w w1 :=
  ⟨h.os, h.tape, h.output, h.size, fun k hk => h.block k (by omega) fun hS => by have := hs k hS; omega⟩
theorem Blk.kept {w w' : World} {g : Nat} {cs : Array Value} {t : Nat} {S : Nat → Prop} (h : Blk w g cs t) (hk : Kept w w' S) (hn : ¬ S g) : Blk w' g cs t := h.keep (hk.block g h.lt hn)

theorem StIs.far {w : World} {s : Nat} {m q : Value} {t : Int} (h : StIs w s m q t) {p : Addr} (hp : s ≠ p.block) (u : Value) : StIs (w.setCell p u) s m q t := h.keep (Below.heap_setCell _ _ _ _ hp)
theorem QIs.far {w : World} {lo : Nat} {v : Value} {qs : List ByteArray} (h : QIs w lo v qs) {p : Addr} (hp : some p.block ≠ v.ownBlock) (u : Value) : QIs (w.setCell p u) lo v qs :=
  h.keep fun k hk _ => Below.heap_setCell _ _ _ _ (fun e => hp (by rw [hk, e]))

end Go.Proofs.Ytnffkefhajodmaa
