/- The document's disk and the disk, side by side: any write. -/
import Derived.Test.YtlgimhhhlpmjcaaRfF
set_option linter.unusedVariables false
set_option linter.unusedSimpArgs false
namespace Go.Proofs.Ytlgimhhhlpmjcaa
open Go.RowKit Go.Maps Go.WideMaps Go.Shelf

theorem rwrite_any (m ab bb cb n : Nat) (sf : List Sec) (df : Int → Option Sec) (i : Int) (s : Sec) (w : World) (h : RefIs w m ab bb cb n (flushS n sf df) sf (isDs n df)) (hs : s.length = 64) :
    Calls Try.prog 32 #[.pointer (some ⟨m, 0, none⟩), .int .i64 i, .agg (sc s).toArray] w (RefWritePost w m ab bb cb n (flushS n sf (wrD n df i s)) sf (isDs n (wrD n df i s)) (errD n i)) := by
  unfold errD wrD
  cases hi : inD n i with
  | true =>
    obtain ⟨k, rfl, hk⟩ := inD_true hi
    have := rwrite_in m ab bb cb n _ sf _ k s w h hk hs
    rw [flushS_put sf df s hk, isDs_put df s hk] at this
    exact this
  | false => exact rwrite_out m ab bb cb n _ sf _ i s w h hi

theorem BothIs.ns {w : World} {d sb mb m ab bb cb n : Nat} {sf : List Sec} {df : Int → Option Sec} (h : BothIs w d sb mb m ab bb cb n sf df) :
    (d ≠ m ∧ d ≠ ab ∧ d ≠ bb ∧ d ≠ cb) ∧ (sb ≠ m ∧ sb ≠ ab ∧ sb ≠ bb ∧ sb ≠ cb) ∧ (m ≠ mb ∧ ab ≠ mb ∧ bb ≠ mb ∧ cb ≠ mb) := by
  obtain ⟨cap, hd⟩ := h.d.blk
  obtain ⟨⟨cu, hs⟩, _⟩ := h.d.safe
  obtain ⟨c1, c2, c3, hm⟩ := h.r.blk
  obtain ⟨⟨ca, ha⟩, _⟩ := h.r.a
  obtain ⟨⟨cb', hb⟩, _⟩ := h.r.b
  have hc := h.r.c
  exact ⟨⟨blk_ne hd hm (by decide), blk_ne hd ha (by decide), blk_ne hd hb (by decide), blk_ne hd hc (by decide)⟩,
    ⟨blk_ne hs hm (by decide), blk_ne hs ha (by decide), blk_ne hs hb (by decide), blk_ne hs hc (by decide)⟩,
    ⟨h.d.map.ne hm, h.d.map.ne ha, h.d.map.ne hb, h.d.map.ne hc⟩⟩
/-- All blocks lie above. -/
def Above (B d sb mb m ab bb cb : Nat) : Prop := B ≤ d ∧ B ≤ sb ∧ B ≤ mb ∧ B ≤ m ∧ B ≤ ab ∧ B ≤ bb ∧ B ≤ cb

theorem RefIs.grown {w w' : World} {m ab bb cb n x : Nat} {nw ol : List Sec} {dd : List Bool} (h : RefIs w m ab bb cb n nw ol dd) (hg : w.grownBy w' (some x)) (h0 : m ≠ x) (h1 : ab ≠ x) (h2 : bb ≠ x) (h3 : cb ≠ x) : RefIs w' m ab bb cb n nw ol dd :=
  h.keep (hg.block _ h.lt.1 (fun e => h0 (Option.some.inj e))) (hg.block _ h.lt.2.1 (fun e => h1 (Option.some.inj e))) (hg.block _ h.lt.2.2.1 (fun e => h2 (Option.some.inj e))) (hg.block _ h.lt.2.2.2 (fun e => h3 (Option.some.inj e)))
end Go.Proofs.Ytlgimhhhlpmjcaa
