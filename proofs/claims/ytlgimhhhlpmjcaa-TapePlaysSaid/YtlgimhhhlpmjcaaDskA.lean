/- The disk: sectors, its map, its content. -/
import Derived.Test.YtlgimhhhlpmjcaaPlainD
import Derived.Test.YtlgimhhhlpmjcaaKit
import Derived.Test.YtlgimhhhlpmjcaaKitB
import Derived.Test.YtlgimhhhlpmjcaaRd
import Derived.Deep.MidRow
import Derived.Maps.OwnOps
import Derived.Maps.OwnSet
import Derived.Maps.RangeWalk
import Derived.Shelf.SlicesE.Clone
set_option linter.unusedVariables false
set_option linter.unusedSimpArgs false
namespace Go.Proofs.Ytlgimhhhlpmjcaa
open Go.RowKit Go.Maps Go.WideMaps Go.Shelf

/-- All that there was is as it was, but for the blocks in S. -/
structure Kept (w w' : World) (S : Nat → Prop) : Prop where
  os : w'.os = w.os
  tape : w'.tape = w.tape
  output : w'.output = w.output
  size : w.heap.size ≤ w'.heap.size
  block : ∀ k, k < w.heap.size → ¬ S k → w'.heap[k]? = w.heap[k]?
theorem Kept.refl (w : World) (S : Nat → Prop) : Kept w w S := ⟨rfl, rfl, rfl, Nat.le_refl _, fun _ _ _ => rfl⟩
theorem Kept.of_below {w w' : World} (h : Below w.heap.size w w') (S : Nat → Prop) : Kept w w' S := ⟨h.os, h.tape, h.output, h.size, fun k hk _ => h.block k hk⟩
theorem Kept.then {w w1 w2 : World} {S : Nat → Prop} (h : Kept w w1 S) (hb : Below w1.heap.size w1 w2) : Kept w w2 S :=
  ⟨hb.os.trans h.os, hb.tape.trans h.tape, hb.output.trans h.output, Nat.le_trans h.size hb.size, fun k hk hn => (hb.block k (Nat.lt_of_lt_of_le hk h.size)).trans (h.block k hk hn)⟩
theorem Kept.behind {w w1 w2 : World} {S : Nat → Prop} (hb : Below w.heap.size w w1) (h : Kept w1 w2 S) : Kept w w2 S :=
  ⟨h.os.trans hb.os, h.tape.trans hb.tape, h.output.trans hb.output, Nat.le_trans hb.size h.size, fun k hk hn => (h.block k (Nat.lt_of_lt_of_le hk hb.size) hn).trans (hb.block k hk)⟩
theorem Kept.mono {w w1 : World} {S S' : Nat → Prop} (h : Kept w w1 S) (hs : ∀ k, k < w.heap.size → S k → S' k) : Kept w w1 S' :=
  ⟨h.os, h.tape, h.output, h.size, fun k hk hn => h.block k hk fun hS => hn (hs k hk hS)⟩
theorem Kept.trans {w w1 w2 : World} {S : Nat → Prop} (h : Kept w w1 S) (k : Kept w1 w2 S) : Kept w w2 S :=
  ⟨k.os.trans h.os, k.tape.trans h.tape, k.output.trans h.output, Nat.le_trans h.size k.size, fun i hi hn => (k.block i (Nat.lt_of_lt_of_le hi h.size) hn).trans (h.block i hi hn)⟩
theorem Kept.of_grown {w w1 : World} {r : Option Nat} {S : Nat → Prop} (h : w.grownBy w1 r) (hs : ∀ k, r = some k → S k) : Kept w w1 S :=
  ⟨h.os, h.tape, h.output, h.size, fun k hk hn => h.block k hk fun e => hn (hs k e.symm)⟩
theorem Kept.far {w w1 : World} {S : Nat → Prop} (h : Kept w w1 S) {p : Addr} (hp : w.heap.size ≤ p.block) (u : Value) : Kept w (w1.setCell p u) S :=
  ⟨h.os, h.tape, h.output, by simpa [World.setCell] using h.size, fun k hk hne => (Below.heap_setCell _ _ _ _ (by omega)).trans (h.block k hk hne)⟩
theorem Kept.set {w w1 : World} {S : Nat → Prop} (h : Kept w w1 S) {p : Addr} (hp : S p.block) (u : Value) : Kept w (w1.setCell p u) S :=
  ⟨h.os, h.tape, h.output, by simpa [World.setCell] using h.size, fun k hk hne => (Below.heap_setCell _ p u k (fun e => hne (by rw [e]; exact hp))).trans (h.block k hk hne)⟩
theorem Kept.alloc {w w1 : World} {S : Nat → Prop} (h : Kept w w1 S) (o : Obj) : Kept w (w1.alloc o) S :=
  ⟨h.os, h.tape, h.output, Nat.le_trans h.size (by simp), fun k hk hne => (Below.heap_alloc _ _ _ (Nat.lt_of_lt_of_le hk h.size)).trans (h.block k hk hne)⟩
theorem Kept.drew {w w1 : World} {S : Nat → Prop} (h : Kept w w1 S) : Kept w w1.drew S := ⟨h.os, h.tape, h.output, h.size, h.block⟩
theorem Kept.below {w w1 : World} {S : Nat → Prop} (h : Kept w w1 S) {B : Nat} (hB : B ≤ w.heap.size) (hs : ∀ k, S k → B ≤ k) : Below B w w1 :=
  ⟨h.os, h.tape, h.output, h.size, fun k hk => h.block k (by omega) fun hS => by have := hs k hS; omega⟩
theorem Blk.kept {w w' : World} {g : Nat} {cs : Array Value} {t : Nat} {S : Nat → Prop} (h : Blk w g cs t) (hk : Kept w w' S) (hn : ¬ S g) : Blk w' g cs t := h.keep (hk.block g h.lt hn)

def sc (x : Sec) : List Value := x.map (Value.int .u8)
theorem sc_len (x : Sec) : (sc x).length = x.length := by simp [sc]
theorem sc_one (x : Sec) : ∀ v ∈ sc x, v.oneCell' = true := by intro v hv; simp [sc] at hv; obtain ⟨_, _, rfl⟩ := hv; rfl
theorem sc_inj {x y : Sec} (h : sc x = sc y) : x = y := by
  induction x generalizing y with
  | nil => cases y with
    | nil => rfl
    | cons b r => simp [sc] at h
  | cons a r ih => cases y with
    | nil => simp [sc] at h
    | cons b r' =>
      simp only [sc, List.map_cons, List.cons.injEq, Value.int.injEq, true_and] at h
      rw [h.1, ih h.2]
theorem secInfo : (Try.prog.info? 55).map (fun i => (i.zero, i.size, i.bytes)) = some (some (.agg (sc zsec).toArray), 64, 64) := by kernel_rfl
theorem secSize : (Try.prog.info? 55).map (·.size) = some 64 := by kernel_rfl
theorem zeroSec (w : World) : (zeroValue 55).run Try.prog w = .ok (.agg (sc zsec).toArray) w := by kernel_rfl
theorem zsec_len : zsec.length = 64 := by simp [zsec]

def unL : List Value → Option Sec
  | [] => some []
  | .int .u8 b :: r => (unL r).map (b :: ·)
  | _ => none
theorem unL_sc (x : Sec) : unL (sc x) = some x := by
  induction x with
  | nil => rfl
  | cons a r ih => show (unL (sc r)).map _ = _; rw [ih]; rfl
theorem unL_inv : ∀ {l : List Value} {x : Sec}, unL l = some x → l = sc x
  | [], x, h => by simp [unL] at h; subst h; rfl
  | v :: r, x, h => by
    unfold unL at h
    split at h
    · rename_i e; cases e
    · rename_i b r' e
      cases e
      obtain ⟨y, hy, rfl⟩ := Option.map_eq_some_iff.1 h
      rw [unL_inv hy]; rfl
    · cases h
def dataS (x : Sec) : DataW Unit := .agg (x.map fun b => .lit (.int .u8 b))
theorem dataS_inj {x y : Sec} (h : dataS x = dataS y) : x = y := by
  unfold dataS at h
  injection h with h
  induction x generalizing y with
  | nil => cases y with
    | nil => rfl
    | cons b r => simp at h
  | cons a r ih => cases y with
    | nil => simp at h
    | cons b r' =>
      simp only [List.map_cons, List.cons.injEq, DataW.lit.injEq, Lit.int.injEq, true_and] at h
      rw [h.1, ih h.2]
def RS (v : Value) : Option (DataW Unit × List MemPlace) :=
  match v with
  | .agg cs => (unL cs.toList).map fun x => (dataS x, [])
  | _ => none
theorem RS_mk (x : Sec) : RS (.agg (sc x).toArray) = some (dataS x, []) := by simp [RS, unL_sc]
theorem RS_form {v : Value} {y : DataW Unit × List MemPlace} (h : RS v = some y) : ∃ x, v = .agg (sc x).toArray ∧ y = (dataS x, []) := by
  unfold RS at h
  split at h
  · rename_i cs
    obtain ⟨x, hx, rfl⟩ := Option.map_eq_some_iff.1 h
    exact ⟨x, by rw [← unL_inv hx], rfl⟩
  · cases h
theorem RS_inv {v : Value} {x : Sec} {ps : List MemPlace} (h : RS v = some (dataS x, ps)) : v = .agg (sc x).toArray := by
  obtain ⟨y, rfl, e⟩ := RS_form h
  rw [dataS_inj (Prod.mk.inj e).1]

/-- Block b is a map from ints to sectors: what it has. -/
def MapS (w : World) (b N : Nat) (df : Int → Option Sec) : Prop :=
  ∃ D : DataW Unit, w.ownsMap Try.prog 3 RS b N D ∧ IsMap D ∧ ∀ n, (Maps.has D (.int .i64 n) = (df n).isSome) ∧ ∀ zd, D.atKey (.int .i64 n) zd = (match df n with | some p => dataS p | none => zd)
theorem MapS.keep {w w' : World} {b N : Nat} {df : Int → Option Sec} (h : MapS w b N df) (hb : w'.heap[b]? = w.heap[b]?) : MapS w' b N df := by
  obtain ⟨D, ⟨es, clock, h1, h2⟩, h3⟩ := h
  exact ⟨D, ⟨es, clock, hb.trans h1, h2⟩, h3⟩
theorem MapS.lt {w : World} {b N : Nat} {df : Int → Option Sec} (h : MapS w b N df) : b < w.heap.size := by obtain ⟨D, h1, _⟩ := h; exact h1.lt
theorem MapS.ne {w : World} {b N : Nat} {df : Int → Option Sec} (h : MapS w b N df) {g t : Nat} {cs : Array Value} (hg : Blk w g cs t) : g ≠ b := by
  obtain ⟨D, ⟨es, clock, h1, _⟩, _⟩ := h
  rintro rfl
  rw [show w.heap[g]? = _ from hg] at h1
  cases h1
theorem MapS.mono {w : World} {b N N' : Nat} {df : Int → Option Sec} (h : MapS w b N df) (hn : N ≤ N') : MapS w b N' df := by
  obtain ⟨D, h1, h2⟩ := h
  exact ⟨D, h1.mono hn, h2⟩
theorem MapS.made (w : World) : MapS (w.alloc (.map #[] 0)) w.heap.size 0 (fun _ => none) :=
  ⟨_, World.ownsMap_made _ _ _ _, isMap_empty, fun n => ⟨rfl, fun _ => rfl⟩⟩
theorem MapS.look {w : World} {b N : Nat} {df : Int → Option Sec} (h : MapS w b N df) (n : Int) (hn : (Lit.int .i64 n).wf = true) :
    (Instr.lookup 85 (.map (some b)) (.int .i64 n) true).run Try.prog w = .ok (.tuple #[.agg (sc ((df n).getD zsec)).toArray, .bool (df n).isSome]) w := by
  obtain ⟨D, h1, h2, h3⟩ := h
  obtain ⟨v, ps, hrun, hv⟩ := h1.look_ok (int_keyed Try.underlying3) Try.underlying85 (zeroSec w) (RS_mk zsec) (keyOf_int_mk Try.underlying3 hn)
  rw [hrun, (h3 n).1]
  rw [(h3 n).2] at hv
  have : RS v = some (dataS ((df n).getD zsec), ps) := by
    rw [hv]; cases df n <;> rfl
  rw [RS_inv this]
theorem MapS.look1 {w : World} {b N : Nat} {df : Int → Option Sec} (h : MapS w b N df) (n : Int) (hn : (Lit.int .i64 n).wf = true) :
    (Instr.lookup 85 (.map (some b)) (.int .i64 n) false).run Try.prog w = .ok (.agg (sc ((df n).getD zsec)).toArray) w := by
  obtain ⟨D, h1, h2, h3⟩ := h
  obtain ⟨v, ps, hrun, hv⟩ := h1.lookup (int_keyed Try.underlying3) Try.underlying85 (zeroSec w) (RS_mk zsec) (keyOf_int_mk Try.underlying3 hn)
  rw [hrun]
  rw [(h3 n).2] at hv
  have : RS v = some (dataS ((df n).getD zsec), ps) := by
    rw [hv]; cases df n <;> rfl
  rw [RS_inv this]

theorem MapS.put {w : World} {b N : Nat} {df : Int → Option Sec} (h : MapS w b N df) (n : Int) (hn : (Lit.int .i64 n).wf = true) (p : Sec) (hN : N < maxLen) :
    ∃ w', (Instr.mapUpdate 85 (.map (some b)) (.int .i64 n) (.agg (sc p).toArray)).run Try.prog w = .ok () w' ∧ MapS w' b (N + 1) (putL df n p) ∧ w.grownBy w' (some b) := by
  obtain ⟨D, h1, h2, h3⟩ := h
  obtain ⟨w', hrun, h4, h5⟩ := h1.update (int_keyed Try.underlying3) Try.underlying85 hN (keyOf_int_mk Try.underlying3 hn) (RS_mk p)
  refine ⟨w', hrun, ⟨_, h4, h2.put _ _, fun x => ?_⟩, h5⟩
  unfold putL
  by_cases hx : x = n
  · subst hx
    rw [if_pos rfl]
    exact ⟨has_put_same h2 (show WideAt.IsKeyLit (.int .i64 x) from trivial) _, fun zd => atKey_put_same h2 (show WideAt.IsKeyLit (.int .i64 x) from trivial) _ _⟩
  · rw [if_neg hx]
    have hne : (Lit.int .i64 x) ≠ Lit.int .i64 n := fun e => hx (by injection e)
    exact ⟨(has_put_other hne _).trans (h3 x).1, fun zd => (atKey_put_other hne _ _).trans ((h3 x).2 zd)⟩

theorem filt2 (p : Int → Bool) : ∀ l : List Int, l.length = (l.filter p).length + (l.filter fun x => !p x).length
  | [] => rfl
  | a :: r => by
    have := filt2 p r
    cases h : p a <;> simp [List.filter_cons, h] <;> omega
/-- As many numbers below n as there are at most. -/
theorem pigeon : ∀ (n : Nat) (l : List Int), l.Nodup → (∀ x ∈ l, 0 ≤ x ∧ x < (n : Int)) → l.length ≤ n
  | 0, l, _, h => by
    cases l with
    | nil => simp
    | cons a r => have := h a (by simp); omega
  | n + 1, l, hd, h => by
    have h1 := pigeon n (l.filter fun x => decide (x ≠ (n : Int))) (hd.filter _) (fun x hx => by
      simp at hx
      have := h x hx.1
      omega)
    have h2 : (l.filter fun x => decide (x = (n : Int))).length ≤ 1 := by
      rw [← List.countP_eq_length_filter]
      have := List.nodup_iff_count.1 hd (n : Int)
      have e : List.countP (fun x => decide (x = (n : Int))) l = l.count (n : Int) := by
        unfold List.count
        apply List.countP_congr
        intro x _
        simp
      omega
    have h3 := filt2 (fun x => decide (x = (n : Int))) l
    have h4 : (l.filter fun x => !decide (x = (n : Int))) = l.filter fun x => decide (x ≠ (n : Int)) := by
      apply List.filter_congr
      intro x _
      by_cases e : x = (n : Int) <;> simp [e]
    rw [h4] at h3
    omega

theorem MapS.fit {w : World} {b N : Nat} {df : Int → Option Sec} (h : MapS w b N df) (n : Nat) (hs : ∀ x s, df x = some s → 0 ≤ x ∧ x < (n : Int)) : MapS w b n df := by
  obtain ⟨D, h1, h2, h3⟩ := h
  have hd := h1.isMap
  obtain ⟨l, e1, e2, e3⟩ := h1.entries (int_keyed Try.underlying3)
  refine ⟨D, ?_, h2, h3⟩
  obtain ⟨es, clock, hb, F, hsz, hD⟩ := h1
  refine ⟨es, clock, hb, F, ?_, hD⟩
  have el : l.length = es.size := by
    rw [e1] at hD
    injection hD with hD
    rw [hD, length_sorted]
    simp
  have hk : ∀ p ∈ l, ∃ x, p.1 = Lit.int .i64 x := by
    intro p hp
    rw [e1] at hD
    injection hD with hD
    rw [hD] at hp
    obtain ⟨x, hx, rfl⟩ := List.mem_map.1 (mem_sorted.1 hp)
    obtain ⟨y, hy⟩ := F.reads x hx
    rw [WideElems.rg_of hy]
    obtain ⟨z, _, hz, _⟩ := Maps.keyOf_int_inv Try.underlying3 (WideElems.rd_key hy)
    exact ⟨z, hz⟩
  have hin : ∀ p ∈ l, ∀ x, p.1 = Lit.int .i64 x → 0 ≤ x ∧ x < (n : Int) := by
    intro p hp x hx
    have hh : Maps.has D (.int .i64 x) = true := by
      rw [e1]
      exact List.any_eq_true.2 ⟨p, hp, by rw [hx]; exact WideAt.sameKey_self (show WideAt.IsKeyLit (.int .i64 x) from trivial)⟩
    rw [(h3 x).1] at hh
    obtain ⟨s, hs'⟩ := Option.isSome_iff_exists.1 hh
    exact hs x s hs'
  have key := pigeon n (l.map fun p => match p.1 with | .int _ x => x | _ => 0) (by
    unfold List.Nodup
    rw [List.pairwise_map]
    refine List.Pairwise.imp_of_mem ?_ e2
    intro p q hp hq hne hpq
    obtain ⟨x, hx⟩ := hk p hp
    obtain ⟨y, hy⟩ := hk q hq
    rw [hx, hy] at hpq
    exact hne (by rw [hx, hy]; simp at hpq; rw [hpq])) (by
    intro y hy
    obtain ⟨p, hp, rfl⟩ := List.mem_map.1 hy
    obtain ⟨x, hx⟩ := hk p hp
    have := hin p hp x hx
    rw [hx]
    exact this)
  rw [List.length_map, el] at key
  exact key

/-- The cells of the safe sectors. -/
def SafeIs (w : World) (sb : Nat) (sf : List Sec) : Prop := (∃ cur, Blk w sb cur 55) ∧ ∀ i (h : i < sf.length), w.rangeAt sb (i * 64) (sc sf[i])
theorem rangeAt_keep {w w' : World} {b o : Nat} {cs : List Value} (h : w.rangeAt b o cs) (hb : w'.heap[b]? = w.heap[b]?) : w'.rangeAt b o cs := fun j v hv => by
  rw [World.cell?_of_block (a := ⟨b, o + j, none⟩) hb]; exact h j v hv
theorem SafeIs.keep {w w' : World} {sb : Nat} {sf : List Sec} (h : SafeIs w sb sf) (hb : w'.heap[sb]? = w.heap[sb]?) : SafeIs w' sb sf := by
  obtain ⟨⟨cur, h1⟩, h2⟩ := h
  exact ⟨⟨cur, h1.keep hb⟩, fun i hi => rangeAt_keep (h2 i hi) hb⟩
theorem SafeIs.lt {w : World} {sb : Nat} {sf : List Sec} (h : SafeIs w sb sf) : sb < w.heap.size := by obtain ⟨⟨cur, h1⟩, h2⟩ := h; exact h1.lt

theorem heap_setCells_other (b : Nat) : ∀ (vs : List Value) (o : Nat) (w : World) (k : Nat), k ≠ b → (w.setCells b o vs).heap[k]? = w.heap[k]?
  | [], _, _, _, _ => rfl
  | v :: r, o, w, k, h => by
    rw [World.setCells, heap_setCells_other b r (o + 1) _ k h]
    exact Below.heap_setCell _ _ _ _ h
theorem size_setCells (b : Nat) : ∀ (vs : List Value) (o : Nat) (w : World), (w.setCells b o vs).heap.size = w.heap.size
  | [], _, _ => rfl
  | v :: r, o, w => by
    rw [World.setCells, size_setCells b r (o + 1) _]
    simp [World.setCell]
theorem rest_setCells (b : Nat) : ∀ (vs : List Value) (o : Nat) (w : World), (w.setCells b o vs).os = w.os ∧ (w.setCells b o vs).tape = w.tape ∧ (w.setCells b o vs).output = w.output
  | [], _, _ => ⟨rfl, rfl, rfl⟩
  | v :: r, o, w => by
    rw [World.setCells]
    exact rest_setCells b r (o + 1) _
theorem Blk.setCells (t : Nat) (b : Nat) : ∀ (vs : List Value) (o : Nat) (w : World) (cs : Array Value), Blk w b cs t → ∃ cs', Blk (w.setCells b o vs) b cs' t
  | [], _, _, cs, h => ⟨cs, h⟩
  | v :: r, o, w, cs, h => by
    rw [World.setCells]
    exact Blk.setCells t b r (o + 1) _ _ (h.set o v)
theorem Kept.setCells {w w1 : World} {S : Nat → Prop} (h : Kept w w1 S) {b : Nat} (hp : S b) (o : Nat) (vs : List Value) : Kept w (w1.setCells b o vs) S :=
  ⟨(rest_setCells b vs o w1).1.trans h.os, (rest_setCells b vs o w1).2.1.trans h.tape, (rest_setCells b vs o w1).2.2.trans h.output, by rw [size_setCells]; exact h.size,
   fun k hk hne => (heap_setCells_other b vs o w1 k (fun e => hne (by rw [e]; exact hp))).trans (h.block k hk hne)⟩
theorem Kept.farCells {w w1 : World} {S : Nat → Prop} (h : Kept w w1 S) {b : Nat} (hp : w.heap.size ≤ b) (o : Nat) (vs : List Value) : Kept w (w1.setCells b o vs) S :=
  ⟨(rest_setCells b vs o w1).1.trans h.os, (rest_setCells b vs o w1).2.1.trans h.tape, (rest_setCells b vs o w1).2.2.trans h.output, by rw [size_setCells]; exact h.size,
   fun k hk hne => (heap_setCells_other b vs o w1 k (by omega)).trans (h.block k hk hne)⟩
theorem SafeIs.there {w : World} {sb : Nat} {sf : List Sec} (h : SafeIs w sb sf) (i : Nat) (hi : i < sf.length) (h64 : sf[i].length = 64) : w.there sb (i * 64) 64 := fun j hj => by
  obtain ⟨⟨cur, h1⟩, h2⟩ := h
  exact ⟨(h2 i hi).isSome j (by rw [sc_len, h64]; exact hj), h1.fr _⟩
theorem SafeIs.store {w : World} {sb : Nat} {sf : List Sec} (h : SafeIs w sb sf) (i : Nat) (hi : i < sf.length) (hall : ∀ x ∈ sf, x.length = 64) (s : Sec) (hs : s.length = 64) : SafeIs (w.setCells sb (i * 64) (sc s)) sb (sf.set i s) := by
  have ht := h.there i hi (hall _ (List.getElem_mem hi))
  obtain ⟨⟨cur, h1⟩, h2⟩ := h
  refine ⟨Blk.setCells _ sb _ _ _ _ h1, fun k hk => ?_⟩
  have hk' : k < sf.length := by simpa using hk
  by_cases e : k = i
  · subst e
    simp only [List.getElem_set_self]
    exact World.rangeAt_setCells_same w sb (k * 64) (sc s) (by rw [sc_len, hs]; exact ht)
  · rw [List.getElem_set_ne (fun e' => e e'.symm)]
    refine World.rangeAt_setCells_apart (h2 k hk') sb (i * 64) (sc s) ?_
    rw [sc_len, sc_len, hs, hall _ (List.getElem_mem hk')]
    rcases Nat.lt_or_gt_of_ne e with e | e
    · right; left; omega
    · right; right; omega

/-- A disk. -/
structure DiskIs (w : World) (d sb mb n : Nat) (sf : List Sec) (df : Int → Option Sec) : Prop where
  blk : ∃ cap, Blk w d #[.slice (some ⟨sb, 0, none⟩) n cap, .map (some mb)] 87
  safe : SafeIs w sb sf
  map : MapS w mb n df
  len : sf.length = n
  small : n ≤ 1024
  each : ∀ x ∈ sf, x.length = 64
  sup : ∀ i s, df i = some s → 0 ≤ i ∧ i < (n : Int) ∧ s.length = 64
theorem DiskIs.keep {w w' : World} {d sb mb n : Nat} {sf : List Sec} {df : Int → Option Sec} (h : DiskIs w d sb mb n sf df) (h1 : w'.heap[d]? = w.heap[d]?) (h2 : w'.heap[sb]? = w.heap[sb]?) (h3 : w'.heap[mb]? = w.heap[mb]?) : DiskIs w' d sb mb n sf df := by
  obtain ⟨⟨cap, hb⟩, hs, hm, r1, r2, r3, r4⟩ := h
  exact ⟨⟨cap, hb.keep h1⟩, hs.keep h2, hm.keep h3, r1, r2, r3, r4⟩
theorem DiskIs.lt {w : World} {d sb mb n : Nat} {sf : List Sec} {df : Int → Option Sec} (h : DiskIs w d sb mb n sf df) : d < w.heap.size ∧ sb < w.heap.size ∧ mb < w.heap.size := by
  obtain ⟨cap, hb⟩ := h.blk
  exact ⟨hb.lt, h.safe.lt, h.map.lt⟩
theorem DiskIs.below {w w' : World} {d sb mb n : Nat} {sf : List Sec} {df : Int → Option Sec} (h : DiskIs w d sb mb n sf df) (hb : Below w.heap.size w w') : DiskIs w' d sb mb n sf df :=
  h.keep (hb.block _ h.lt.1) (hb.block _ h.lt.2.1) (hb.block _ h.lt.2.2)
theorem DiskIs.kept {w w' : World} {d sb mb n : Nat} {sf : List Sec} {df : Int → Option Sec} {S : Nat → Prop} (h : DiskIs w d sb mb n sf df) (hb : Kept w w' S) (h1 : ¬ S d) (h2 : ¬ S sb) (h3 : ¬ S mb) : DiskIs w' d sb mb n sf df :=
  h.keep (hb.block _ h.lt.1 h1) (hb.block _ h.lt.2.1 h2) (hb.block _ h.lt.2.2 h3)
theorem DiskIs.alloc {w : World} {d sb mb n : Nat} {sf : List Sec} {df : Int → Option Sec} (h : DiskIs w d sb mb n sf df) (o : Obj) : DiskIs (w.alloc o) d sb mb n sf df :=
  h.keep (Below.heap_alloc _ _ _ h.lt.1) (Below.heap_alloc _ _ _ h.lt.2.1) (Below.heap_alloc _ _ _ h.lt.2.2)
theorem DiskIs.ne {w : World} {d sb mb n : Nat} {sf : List Sec} {df : Int → Option Sec} (h : DiskIs w d sb mb n sf df) : d ≠ sb ∧ d ≠ mb ∧ sb ≠ mb := by
  obtain ⟨cap, hb⟩ := h.blk
  obtain ⟨⟨cur, h1⟩, _⟩ := h.safe
  refine ⟨?_, h.map.ne hb, h.map.ne h1⟩
  rintro rfl
  have : (Obj.cells _ _ _ : Obj) = Obj.cells _ _ _ := Option.some.inj (hb.symm.trans h1)
  injection this with _ e2
  revert e2; decide
end Go.Proofs.Ytlgimhhhlpmjcaa
