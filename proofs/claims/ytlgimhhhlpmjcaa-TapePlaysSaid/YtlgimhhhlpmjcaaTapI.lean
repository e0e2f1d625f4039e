/- The tape: what it is. -/
import Derived.Test.YtlgimhhhlpmjcaaTapH
import Derived.Test.YtlgimhhhlpmjcaaSecEq
set_option linter.unusedVariables false
set_option linter.unusedSimpArgs false
namespace Go.Proofs.Ytlgimhhhlpmjcaa
open Go.RowKit Go.Maps Go.WideMaps Go.Shelf

/-- A tape, and its disk, as plain values. -/
structure TD where
  n : Nat
  sf : List Sec
  df : Int → Option Sec
  h : Nat
  L : List Bs
  W : List Bs
  fr : Bool
  dn : Nat
structure TD.Ok (p : TD) : Prop where
  n3 : 3 ≤ p.n
  h1 : p.h ≤ 1
  dn3 : p.dn ≤ 4
  rl : ∀ x ∈ p.L, rightB x = true ∧ okB x
  rw : ∀ x ∈ p.W, rightB x = true ∧ okB x
  fitL : sizeB p.L ≤ allB p.n
  fitW : (if p.fr then 0 else sizeB p.L) + sizeB p.W ≤ allB p.n
  act : 0 < p.dn → p.fr = true ∨ p.W ≠ []
structure TapeIs (w : World) (F : Nat → Prop) (t d sb mb : Nat) (p : TD) : Prop where
  lt : ∀ k, F k → k < w.heap.size
  blk : ∃ cv wv, Blk w t (TC d p.h cv (sizeB p.L) wv p.fr p.dn) 89 ∧ RowR w F cv p.L ∧ RowR w F wv p.W ∧ ∀ g, cv.ownBlock = some g → wv.ownBlock ≠ some g
  disk : DiskIs w d sb mb p.n p.sf p.df
  ft : F t
  fd : F d
  fs : F sb
  fm : F mb
  ok : p.Ok
theorem DiskIs.same {w w' : World} {d sb mb n : Nat} {sf : List Sec} {df : Int → Option Sec} (h : DiskIs w d sb mb n sf df) {F : Nat → Prop} (hk : ∀ g, F g → w'.heap[g]? = w.heap[g]?) (h1 : F d) (h2 : F sb) (h3 : F mb) : DiskIs w' d sb mb n sf df := h.keep (hk d h1) (hk sb h2) (hk mb h3)
theorem TapeIs.same {w w' : World} {F : Nat → Prop} {t d sb mb : Nat} {p : TD} (h : TapeIs w F t d sb mb p) (hk : ∀ g, F g → w'.heap[g]? = w.heap[g]?) (hs : w.heap.size ≤ w'.heap.size) : TapeIs w' F t d sb mb p := by
  obtain ⟨h1, ⟨cv, wv, b1, b2, b3, b4⟩, h3, h4, h5, h6, h7, h8⟩ := h
  exact ⟨fun k hF => Nat.lt_of_lt_of_le (h1 k hF) hs, ⟨cv, wv, b1.keep (hk t h4), b2.same hk, b3.same hk, b4⟩, h3.same hk h5 h6 h7, h4, h5, h6, h7, h8⟩
theorem TapeIs.below {w w' : World} {F : Nat → Prop} {t d sb mb : Nat} {p : TD} (h : TapeIs w F t d sb mb p) (hb : Below w.heap.size w w') : TapeIs w' F t d sb mb p := h.same (fun g hg => hb.block g (h.lt g hg)) hb.size
theorem TapeIs.kept {w w' : World} {F S : Nat → Prop} {t d sb mb : Nat} {p : TD} (h : TapeIs w F t d sb mb p) (hk : Kept w w' S) (hS : ∀ g, F g → ¬ S g) : TapeIs w' F t d sb mb p := h.same (fun g hg => hk.block g (h.lt g hg) (hS g hg)) hk.size
theorem TapeIs.mono {w : World} {F F' : Nat → Prop} {t d sb mb : Nat} {p : TD} (h : TapeIs w F t d sb mb p) (hF : ∀ g, F g → F' g) (hlt : ∀ g, F' g → g < w.heap.size) : TapeIs w F' t d sb mb p := by
  obtain ⟨h1, ⟨cv, wv, b1, b2, b3, b4⟩, h3, h4, h5, h6, h7, h8⟩ := h
  exact ⟨hlt, ⟨cv, wv, b1, b2.mono hF, b3.mono hF, b4⟩, h3, hF _ h4, hF _ h5, hF _ h6, hF _ h7, h8⟩
theorem TapeIs.td {w : World} {F : Nat → Prop} {t d sb mb : Nat} {p : TD} (h : TapeIs w F t d sb mb p) : TapeD w t d sb mb p.n p.sf p.df := by
  obtain ⟨h1, ⟨cv, wv, b1, b2, b3, b4⟩, h3, h4, h5, h6, h7, h8⟩ := h
  exact ⟨⟨_, b1, rfl⟩, h3⟩
theorem allB_le {n : Nat} (h : n ≤ 1024) : allB n ≤ 32704 := by have := secs_le n h; unfold allB; omega

/-- What a tape on a disk has. -/
def openP (n : Nat) (sf : List Sec) (df : Int → Option Sec) : Option (Nat × List Bs) :=
  if 1 < (curS sf df 0).getD 0 0 then none
  else if curS sf df 0 = superB ((curS sf df 0).getD 0 0) (numB (((curS sf df 0).drop 1).take 4)) (numB (((curS sf df 0).drop 5).take 4)) then
    (if (allB n : Int) < numB (((curS sf df 0).drop 5).take 4) then none
     else match splitB (numB (((curS sf df 0).drop 5).take 4)).toNat ((halfB n sf df ((curS sf df 0).getD 0 0).toNat).take (numB (((curS sf df 0).drop 5).take 4)).toNat) with
      | none => none
      | some L => if (L.length : Int) = numB (((curS sf df 0).drop 1).take 4) then some (((curS sf df 0).getD 0 0).toNat, L) else none)
  else none
def OpenPost (w : World) (d sb mb n : Nat) (sf : List Sec) (df : Int → Option Sec) (e : Ending) (w' : World) : Prop :=
  Below w.heap.size w w' ∧ match openP n sf df with
    | none => e = .returned (.tuple #[.pointer none, .int .i64 63])
    | some (h, L) => ∃ t F, e = .returned (.tuple #[.pointer (some ⟨t, 0, none⟩), .int .i64 0]) ∧ TapeIs w' F t d sb mb ⟨n, sf, df, h, L, [], false, 0⟩ ∧ ∀ k, F k → k = d ∨ k = sb ∨ k = mb ∨ w.heap.size ≤ k
end Go.Proofs.Ytlgimhhhlpmjcaa
