/- Scripts of a disk; two disks side by side. -/
import Derived.Test.YtlgimhhhlpmjcaaDskN
set_option linter.unusedVariables false
set_option linter.unusedSimpArgs false
namespace Go.Proofs.Ytlgimhhhlpmjcaa
open Go.RowKit Go.Maps Go.WideMaps Go.Shelf

/-- A load under a guard that holds. -/
theorem sec_load_w {ops : Array Oper} {w : World} {a : Act} {o : Oper} {rest : List Oper} {Q : Exit → Act → World → Prop} {ty : TypeId} (T : SecT ty) (hw : Region.wanted o (yielded ops a.tmps) = true) (x : Operand) (ho : o.op = .load ty x) (b off : Nat) (hx : a.eval x = .pointer (some ⟨b, off, none⟩)) (s : Sec) (hs : s.length = 64) (hc : w.rangeAt b off (sc s))
    (h : wpList Try.prog ops Q rest (a.put o.dst (.agg (sc s).toArray)) w) : wpList Try.prog ops Q (o :: rest) a w := by
  obtain ⟨n, e, hu, _⟩ := T.und
  refine wpList_step fun K hK => ?_
  rw [if_pos hw]
  exact wp_load_mid ty x ho b off hx (sc s) _ hc hu rfl (by rw [sc_len, hs]; exact T.info) (hK _ _ h)
/-- Acts that came in. -/
def RdActs (w : World) (A : Option Addr) (n : Nat) : Prop := ∃ xs, RdL actV (1 + (1 + (1 + (1 + 0)))) w A n xs
theorem RdActs.below {w w' : World} {A : Option Addr} {n : Nat} (h : RdActs w A n) (hb : Below w.heap.size w w') : RdActs w' A n := by
  obtain ⟨xs, h⟩ := h
  exact ⟨xs, h.below vwAct hb⟩
/-- The act at k. -/
def ActAt (w : World) (b off k : Nat) (a : DA) (bA : Option Addr) (bc : Nat) (kA : Option Addr) (kc : Nat) : Prop :=
  w.cell? ⟨b, off + k * 4, none⟩ = some (.int .i64 a.kind) ∧ w.cell? ⟨b, off + k * 4 + 1, none⟩ = some (.int .i64 a.i) ∧ w.cell? ⟨b, off + k * 4 + 2, none⟩ = some (.slice bA a.b.length bc) ∧ w.cell? ⟨b, off + k * 4 + 3, none⟩ = some (.slice kA a.keep.length kc) ∧
  RdU8 w bA a.b.length a.b ∧ RdBo w kA a.keep.length a.keep ∧ b < w.heap.size
theorem RdActs.at {w : World} {A : Option Addr} {n k : Nat} (h : RdActs w A n) (hk : k < n) : ∃ b off a bA bc kA kc, A = some ⟨b, off, none⟩ ∧ ActAt w b off k a bA bc kA kc := by
  obtain ⟨xs, h⟩ := h
  obtain ⟨b, off, e, hc⟩ := h.at' (by omega)
  obtain ⟨cs, hv, hcell⟩ := hc k (by rw [h.len]; exact hk)
  obtain ⟨a, bA, bc, kA, kc, rfl, hb, hkk⟩ := ActC.of hv
  have c0 := hcell 0 (by simp); have c1 := hcell 1 (by simp); have c2 := hcell 2 (by simp); have c3 := hcell 3 (by simp)
  simp at c0 c1 c2 c3
  exact ⟨b, off, a, bA, bc, kA, kc, e, c0, c1, c2, c3, hb, hkk, World.block_lt_of_cell? w _ c0⟩
theorem ActAt.below {w w' : World} {b off k : Nat} {a : DA} {bA : Option Addr} {bc : Nat} {kA : Option Addr} {kc : Nat} (h : ActAt w b off k a bA bc kA kc) (hb : Below w.heap.size w w') : ActAt w' b off k a bA bc kA kc := by
  obtain ⟨c0, c1, c2, c3, h1, h2, h3⟩ := h
  exact ⟨(hb.cell (p := ⟨b, _, none⟩) h3).trans c0, (hb.cell (p := ⟨b, _, none⟩) h3).trans c1, (hb.cell (p := ⟨b, _, none⟩) h3).trans c2, (hb.cell (p := ⟨b, _, none⟩) h3).trans c3, h1.below hb, h2.below hb, Nat.lt_of_lt_of_le h3 hb.size⟩

theorem DiskIs.grown {w w' : World} {d sb mb n m : Nat} {sf : List Sec} {df : Int → Option Sec} (h : DiskIs w d sb mb n sf df) (hg : w.grownBy w' (some m)) (h1 : m ≠ d) (h2 : m ≠ sb) (h3 : m ≠ mb) : DiskIs w' d sb mb n sf df :=
  h.keep (hg.block _ h.lt.1 (fun e => h1 (Option.some.inj e).symm)) (hg.block _ h.lt.2.1 (fun e => h2 (Option.some.inj e).symm)) (hg.block _ h.lt.2.2 (fun e => h3 (Option.some.inj e).symm))
theorem wrD_in {n : Nat} (df : Int → Option Sec) {i : Nat} (s : Sec) (h : i < n) : wrD n df i s = putL df i s := by
  unfold wrD; rw [inD_of (by omega) (by omega)]; rfl
theorem errD_in {n : Nat} {i : Nat} (h : i < n) : errD n i = 0 := by
  unfold errD; rw [inD_of (by omega) (by omega)]; rfl
theorem rdD_in {n : Nat} (sf : List Sec) (df : Int → Option Sec) {i : Nat} (h : i < n) : rdD n sf df i = curS sf df i := by
  unfold rdD; rw [inD_of (by omega) (by omega)]; simp
/-- The first k sectors are being written with s. -/
def AllTo (df : Int → Option Sec) (k : Nat) (s : Sec) : Prop := ∀ j : Nat, j < k → df (j : Int) = some s
theorem AllTo.succ {df : Int → Option Sec} {k : Nat} {s : Sec} (h : AllTo df k s) : AllTo (putL df k s) (k + 1) s := by
  intro j hj
  unfold putL
  by_cases e : j = k
  · subst e; rw [if_pos rfl]
  · have : ¬ (j : Int) = (k : Int) := by omega
    rw [if_neg this]; exact h j (by omega)
theorem AllTo.cur {df : Int → Option Sec} {k j : Nat} {s : Sec} (h : AllTo df k s) (sf : List Sec) (hj : j < k) : curS sf df j = s := by
  unfold curS; rw [h j hj]; rfl
theorem AllTo.dirty {df : Int → Option Sec} {n : Nat} {s : Sec} (h : AllTo df n s) : (dirtyI n df).length = n := by
  rw [dirtyI_len]
  unfold dirtyN
  rw [List.filter_eq_self.2]
  · simp
  · intro a ha
    unfold isD
    rw [h a (by simpa using ha)]; rfl
theorem dirtyI_none (n : Nat) : (dirtyI n (fun _ => none)).length = 0 := by rw [dirtyI_len, dirtyN_none]; rfl
end Go.Proofs.Ytlgimhhhlpmjcaa
