/- Small lemmas that all walks use. -/
import Derived.Test.YtlgimhhhlpmjcaaProg
import Derived.WalkKit
import Derived.WalkSpells
import Derived.WalkLawsBesides
import Derived.Handy
import Derived.Lib.Hide
import Derived.StillTailTactics
import Derived.Laws.EntriesVeiled
import Derived.Deep.RegionWith
import Derived.Deep.RegionHeld3
import Derived.Deep.DeepCutAuto
import Derived.Deep.LoopGhost
import Derived.Deep.RegionLaw
import Derived.Deep.CutBlock
import Derived.Deep.DeepFit
import Derived.Deep.QuietTactic
import Derived.BigQuiet
import Derived.Deep.OwnRows
import Derived.Laws.OwnMore
set_option linter.unusedVariables false
set_option linter.unusedSimpArgs false
namespace Go.Proofs.Ytlgimhhhlpmjcaa
open Go.RowKit

theorem grownBy_set (w : World) (s o : Nat) (u : Value) : w.grownBy (w.setCell ⟨s, o, none⟩ u) (some s) :=
  ⟨rfl, rfl, rfl, by simp [World.setCell], fun k _ hne => Below.heap_setCell w _ u k (fun e => hne (by rw [e]))⟩
theorem grownBy_al {w w' : World} {r : Option Nat} (h : w.grownBy w' r) (o : Obj) : w.grownBy (w'.alloc o) r := World.grownBy.trans h (World.grownBy_alloc _ _ _)
theorem grownBy_dr {w w' : World} {r : Option Nat} (h : w.grownBy w' r) : w.grownBy w'.drew r := ⟨h.os, h.tape, h.output, h.size, h.block⟩
theorem grownBy_refl (w : World) (r : Option Nat) : w.grownBy w r := ⟨rfl, rfl, rfl, Nat.le_refl _, fun _ _ _ => rfl⟩
/-- Below the old size, and one block. -/
theorem grownBy_below {w w1 w2 : World} {r : Option Nat} (h : w.grownBy w1 r) (hb : Below w1.heap.size w1 w2) : w.grownBy w2 r :=
  ⟨hb.os.trans h.os, hb.tape.trans h.tape, hb.output.trans h.output, Nat.le_trans h.size hb.size, fun k hk hne => (hb.block k (Nat.lt_of_lt_of_le hk h.size)).trans (h.block k hk hne)⟩
theorem below_grownBy {w w1 w2 : World} {r : Option Nat} (hb : Below w.heap.size w w1) (h : w1.grownBy w2 r) : w.grownBy w2 r :=
  ⟨h.os.trans hb.os, h.tape.trans hb.tape, h.output.trans hb.output, Nat.le_trans hb.size h.size, fun k hk hne => (h.block k (Nat.lt_of_lt_of_le hk hb.size) hne).trans (hb.block k hk)⟩
theorem grownBy_of_below {w w1 : World} (hb : Below w.heap.size w w1) (r : Option Nat) : w.grownBy w1 r := ⟨hb.os, hb.tape, hb.output, hb.size, fun k hk _ => hb.block k hk⟩
theorem below_of_grownBy {w w1 : World} {r : Option Nat} {B : Nat} (h : w.grownBy w1 r) (hB : B ≤ w.heap.size) (hr : ∀ k, r = some k → B ≤ k) : Below B w w1 :=
  ⟨h.os, h.tape, h.output, h.size, fun k hk => h.block k (by omega) (fun e => by have := hr k e.symm; omega)⟩
theorem below_trans {B : Nat} {a b c : World} (h : Below B a b) (k : Below b.heap.size b c) (hB : B ≤ b.heap.size) : Below B a c := h.trans (k.mono hB)

theorem bcell {B : Nat} {W w1 : World} (hb : Below B W w1) : (∀ b o, b < B → w1.cell? ⟨b, o, none⟩ = W.cell? ⟨b, o, none⟩) ∧ (∀ b o, b < B → w1.frozen? ⟨b, o, none⟩ = W.frozen? ⟨b, o, none⟩) :=
  ⟨fun b o h => hb.cell (p := ⟨b, o, none⟩) h, fun b o h => hb.frozen (p := ⟨b, o, none⟩) h⟩
theorem gcell {W w1 : World} {r : Nat} (hb : W.grownBy w1 (some r)) : (∀ b o, b < W.heap.size → b ≠ r → w1.cell? ⟨b, o, none⟩ = W.cell? ⟨b, o, none⟩) ∧ (∀ b o, b < W.heap.size → b ≠ r → w1.frozen? ⟨b, o, none⟩ = W.frozen? ⟨b, o, none⟩) :=
  ⟨fun b o h hne => World.cell?_of_block (a := ⟨b, o, none⟩) (hb.block b h (fun e => hne (Option.some.inj e))), fun b o h hne => World.frozen?_of_block (a := ⟨b, o, none⟩) (hb.block b h (fun e => hne (Option.some.inj e)))⟩

/-- A region of reads ahead of one operation that does something, and what hangs on it: in the text's order. -/
theorem region_tail {P : Program} {id : Nat} {Q : Exit → Act → World → Prop} {a : Act} {w : World} {l : List Oper} (n : Nat) (hm : P.follows .mixedOrders = true) (hB : Region.lexTailB .any l.toArray n = true)
    (h : wpStill P l.toArray w.drew (fun a' => wpList P l.toArray Q (l.drop n) a' w.drew) (l.take n) a) : (Code.region id l.toArray true).wp P Q a w :=
  wp_region_still_tail n hm hB h

theorem ret_bool {a b : Bool} (h : a = b) : Ending.returned (.bool a) = Ending.returned (.bool b) := by rw [h]
theorem ret_int {k : IntKind} {a b : Int} (h : a = b) : Ending.returned (.int k a) = .returned (.int k b) := by rw [h]

/-- A block holds this. -/
def Blk (w : World) (g : Nat) (cs : Array Value) (t : Nat) : Prop := w.heap[g]? = some (.cells cs t (0, 0))
theorem Blk.cell {w : World} {g : Nat} {cs : Array Value} {t : Nat} (h : Blk w g cs t) (o : Nat) : w.cell? ⟨g, o, none⟩ = cs[o]? := by simp only [Blk] at h; simp [World.cell?, h]
theorem Blk.fr {w : World} {g : Nat} {cs : Array Value} {t : Nat} (h : Blk w g cs t) (o : Nat) : w.frozen? ⟨g, o, none⟩ = false := by simp only [Blk] at h; simp [World.frozen?, h]
theorem Blk.lt {w : World} {g : Nat} {cs : Array Value} {t : Nat} (h : Blk w g cs t) : g < w.heap.size := (Array.getElem?_eq_some_iff.1 h).1
theorem Blk.keep {w w' : World} {g : Nat} {cs : Array Value} {t : Nat} (h : Blk w g cs t) (hb : w'.heap[g]? = w.heap[g]?) : Blk w' g cs t := hb.trans h
theorem Blk.below {w w' : World} {g : Nat} {cs : Array Value} {t : Nat} (h : Blk w g cs t) (hb : Below w.heap.size w w') : Blk w' g cs t := h.keep (hb.block g h.lt)
theorem Blk.grown {w w' : World} {g : Nat} {cs : Array Value} {t : Nat} {r : Option Nat} (h : Blk w g cs t) (hb : w.grownBy w' r) (hne : some g ≠ r) : Blk w' g cs t := h.keep (hb.block g h.lt hne)
theorem Blk.alloc {w : World} {g : Nat} {cs : Array Value} {t : Nat} (h : Blk w g cs t) (o : Obj) : Blk (w.alloc o) g cs t := h.keep (Below.heap_alloc _ _ _ h.lt)
theorem Blk.drew {w : World} {g : Nat} {cs : Array Value} {t : Nat} (h : Blk w g cs t) : Blk w.drew g cs t := h
theorem Blk.new (w : World) (cs : Array Value) (t : Nat) : Blk (w.alloc (.cells cs t)) w.heap.size cs t := heap_alloc_new w _
theorem Blk.set {w : World} {g : Nat} {cs : Array Value} {t : Nat} (h : Blk w g cs t) (o : Nat) (v : Value) : Blk (w.setCell ⟨g, o, none⟩ v) g (cs.setIfInBounds o v) t := by
  simp only [Blk, World.setCell, Array.getElem?_modify, if_true] at *
  rw [h]; rfl
theorem Blk.setOther {w : World} {g g' : Nat} {cs : Array Value} {t : Nat} (h : Blk w g cs t) (hne : g ≠ g') (o : Nat) (v : Value) : Blk (w.setCell ⟨g', o, none⟩ v) g cs t := h.keep (Below.heap_setCell _ _ _ _ hne)

theorem grownBy_far {w w1 : World} {r : Option Nat} (h : w.grownBy w1 r) {p : Addr} (hp : w.heap.size ≤ p.block) (u : Value) : w.grownBy (w1.setCell p u) r :=
  ⟨h.os, h.tape, h.output, by simpa [World.setCell] using h.size, fun k hk hne => (Below.heap_setCell _ _ _ _ (by omega)).trans (h.block k hk hne)⟩
theorem Blk.newAt (w : World) (cs : Array Value) (t g : Nat) (h : g = w.heap.size) : Blk (w.alloc (.cells cs t)) g cs t := by subst h; exact Blk.new w cs t

end Go.Proofs.Ytlgimhhhlpmjcaa
