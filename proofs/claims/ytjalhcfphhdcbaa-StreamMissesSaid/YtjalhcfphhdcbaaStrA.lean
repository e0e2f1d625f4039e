/- cell.Right and cell.Find: what they compute. -/
import Derived.Test.YtjalhcfphhdcbaaKitB
import Derived.LoopN
import Derived.Laws.ResultCell
set_option linter.unusedVariables false
set_option linter.unusedSimpArgs false
namespace Go.Proofs.Ytjalhcfphhdcbaa
open Go.RowKit

/-- No address. -/
abbrev NN : Int := 18446744073709551615
/-- A Back. -/
structure Bk where
  s : Int
  a : Int
  b : Int
deriving DecidableEq
def bkV (k : Bk) : Value := .agg #[.int .i64 k.s, .int .u64 k.a, .int .u64 k.b]

def lastB (a b : Int) : Bool := decide ((a = NN ∨ a < 1048576) ∧ (b = NN ∨ (b < 1048576 ∧ a ≠ NN ∧ b < a)))

theorem idx2_0 (x y : Value) (w : World) : (Instr.index 29 (.agg #[x, y]) (.int .i64 0)).run Try.prog w = .ok x w := by kernel_rfl
theorem idx2_1 (x y : Value) (w : World) : (Instr.index 29 (.agg #[x, y]) (.int .i64 1)).run Try.prog w = .ok y w := by kernel_rfl

set_option maxRecDepth 100000 in
theorem lasting_any (a b : Int) (w : World) : Calls Try.prog 41 #[.agg #[.int .u64 a, .int .u64 b]] w fun e w' => e = .returned (.bool (lastB a b)) ∧ Below w.heap.size w w' := by
  have s1 := Blk.new w #[.int .u64 a, .int .u64 b] 29
  have b1 : Below w.heap.size w (w.alloc (.cells #[.int .u64 a, .int .u64 b] 29)) := (Below.refl _ _).alloc (Nat.le_refl _) _
  have e0 := s1.cell 0
  have e1 := s1.cell 1
  simp at e0 e1
  have i0 := idx2_0
  have i1 := idx2_1
  go_enter Try.func41, Try.ntmps41
  go_wp2
  refine wp_loop_rounds 3 ?_
  rw [rounds_succ]
  go_wp2
  all_goals (try (rw [rounds_succ]; go_wp2))
  all_goals (try (rw [rounds_succ]; go_wp2))
  all_goals go_ret
  all_goals refine ⟨ret_bool (Eq.symm ?_), (Below.refl _ _).alloc (Nat.le_refl _) _⟩
  all_goals unfold lastB
  all_goals simp only [decide_eq_true_eq, decide_eq_false_iff_not, bne_iff_ne, ne_eq, beq_iff_eq, bne_eq_false_iff_eq, NN] at *
  all_goals omega

/-- Whether a Back does not fit behind one of a stream. -/
def wrongB (l : Int) (k : Bk) : Bool := decide (k.s ≤ l ∨ 16 ≤ k.s) || !lastB k.a k.b
def badB (l : Int) : List Bk → Bool
  | [] => false
  | k :: ks => wrongB l k || badB k.s ks
def rightC (kind : Int) (nd : Nat) (bs : List Bk) : Bool := if kind = 2 then decide (nd = 0 ∧ bs.length = 0) else decide (kind = 1 ∧ nd ≤ 100 ∧ bs.length ≤ 4) && !badB (-1) bs

theorem clo_any (k : Bk) (l : Int) (g : Nat) (w : World) (h : Blk w g #[.int .i64 l] 3) :
    Calls Try.prog 40 #[bkV k, .pointer (some ⟨g, 0, none⟩)] w fun e w' => e = .returned (.bool (wrongB l k)) ∧ Blk w' g #[.int .i64 k.s] 3 ∧ w.grownBy w' (some g) := by
  obtain ⟨s, a, b⟩ := k
  unfold bkV
  dsimp only
  have hg := h.lt
  have s1 := Blk.new w #[.int .i64 s, .int .u64 a, .int .u64 b] 69
  have hl := h.alloc (.cells #[.int .i64 s, .int .u64 a, .int .u64 b] 69)
  have g1 := grownBy_al (grownBy_refl w (some g)) (.cells #[.int .i64 s, .int .u64 a, .int .u64 b] 69)
  have e0 := s1.cell 0; have e1 := s1.cell 1; have e2 := s1.cell 2
  have eg := hl.cell 0; have eh := hl.fr 0
  simp at e0 e1 e2 eg
  have hne : w.heap.size ≠ g := by omega
  unfold wrongB
  dsimp only
  by_cases hd : s ≤ l ∨ 16 ≤ s
  · have hd' : decide (s ≤ l ∨ 16 ≤ s) = true := decide_eq_true hd
    rw [hd']
    rw [Bool.true_or]
    have H := Lib.hid h; clear g1 hl s1 h
    go_enter Try.func40, Try.ntmps40
    rcases hd with hd | hd
    · go_wp2
      go_ret
      exact ⟨rfl, (H.out.set 0 (.int .i64 s)).alloc _, grownBy_al (grownBy_set _ _ _ _) _⟩
    · by_cases hd2 : s ≤ l
      · go_wp2
        go_ret
        exact ⟨rfl, (H.out.set 0 (.int .i64 s)).alloc _, grownBy_al (grownBy_set _ _ _ _) _⟩
      · go_wp2
        go_ret
        exact ⟨rfl, (H.out.set 0 (.int .i64 s)).alloc _, grownBy_al (grownBy_set _ _ _ _) _⟩
  · have hd' : decide (s ≤ l ∨ 16 ≤ s) = false := decide_eq_false hd
    rw [hd', Bool.false_or]
    have hd1 : l < s := by omega
    have hd2 : s < 16 := by omega
    have hls : decide (s ≤ l) = false := decide_eq_false (by omega)
    have h16 : decide (16 ≤ s) = false := decide_eq_false (by omega)
    clear hd
    have G1 := Lib.hid g1; have HL := Lib.hid hl; have S1 := Lib.hid s1; clear g1 hl s1 h
    go_enter Try.func40, Try.ntmps40
    go_wp2_with fail
    refine (lasting_any a b _).mono ?_
    rintro e w2 ⟨rfl, hb2⟩
    have hl2 := HL.out.below hb2
    have g2 := grownBy_below G1.out hb2
    have eg2 := hl2.cell 0; have eh2 := hl2.fr 0
    have f0 := (S1.out.below hb2).cell 0
    simp at eg2 f0
    have HL2 := Lib.hid hl2; have G2 := Lib.hid g2; clear hl2 g2 hb2
    have G3 := Lib.hid (G2.out.trans (grownBy_set w2 g 0 (.int .i64 s)))
    cases hb : lastB a b with
    | true =>
      go_wp2
      go_ret
      exact ⟨by rw [hb]; rfl, HL2.out.set 0 (.int .i64 s), G3.out⟩
    | false =>
      go_wp2
      go_ret
      exact ⟨by rw [hb]; rfl, HL2.out.set 0 (.int .i64 s), G3.out⟩

/-- A slice of Backs, read. -/
structure RdB (w : World) (A : Option Addr) (n : Nat) (bs : List Bk) : Prop where
  len : bs.length = n
  at' : 0 < n → ∃ b off, A = some ⟨b, off, none⟩ ∧ ∀ i (h : i < bs.length), w.cell? ⟨b, off + i * 3, none⟩ = some (.int .i64 bs[i].s) ∧ w.cell? ⟨b, off + i * 3 + 1, none⟩ = some (.int .u64 bs[i].a) ∧ w.cell? ⟨b, off + i * 3 + 2, none⟩ = some (.int .u64 bs[i].b)
theorem RdB.kept {w w' : World} {A : Option Addr} {n : Nat} {bs : List Bk} (h : RdB w A n bs) (hb : ∀ b off, A = some ⟨b, off, none⟩ → b < w.heap.size → w'.heap[b]? = w.heap[b]?) : RdB w' A n bs :=
  ⟨h.len, fun hn => by
    obtain ⟨b, off, e, hc⟩ := h.at' hn
    refine ⟨b, off, e, fun i hi => ?_⟩
    obtain ⟨c0, c1, c2⟩ := hc i hi
    have hlt : b < w.heap.size := World.block_lt_of_cell? w _ c0
    have hk := hb b off e hlt
    exact ⟨(World.cell?_of_block (a := ⟨b, _, none⟩) hk).trans c0, (World.cell?_of_block (a := ⟨b, _, none⟩) hk).trans c1, (World.cell?_of_block (a := ⟨b, _, none⟩) hk).trans c2⟩⟩
theorem RdB.below {w w' : World} {A : Option Addr} {n : Nat} {bs : List Bk} (h : RdB w A n bs) (hb : Below w.heap.size w w') : RdB w' A n bs := h.kept fun b _ _ hlt => hb.block b hlt
theorem RdB.ne {w : World} {A : Option Addr} {n : Nat} {bs : List Bk} {g t : Nat} {v : Value} {b off : Nat} (h : RdB w A n bs) (hn : 0 < n) (hA : A = some ⟨b, off, none⟩) (hg : Blk w g #[v] t) : b ≠ g := by
  rintro rfl
  obtain ⟨b', off', e, hc⟩ := h.at' hn
  cases hA.symm.trans e
  obtain ⟨c0, c1, _⟩ := hc 0 (by have := h.len; omega)
  rw [hg.cell] at c1
  simp at c1
theorem RdB.grown {w w' : World} {A : Option Addr} {n : Nat} {bs : List Bk} {g t : Nat} {v : Value} (h : RdB w A n bs) (hg : Blk w g #[v] t) (hb : w.grownBy w' (some g)) : RdB w' A n bs :=
  ⟨h.len, fun hn => by
    obtain ⟨b, off, e, hc⟩ := h.at' hn
    exact (h.kept (fun b' off' e' hlt => hb.block b' hlt (by intro he; cases he; exact absurd rfl (h.ne hn e' hg)))).at' hn⟩

/-- The stream of the last of the first ones. -/
def lastS (l : Int) (bs : List Bk) : Nat → Int
  | 0 => l
  | k + 1 => (bs.getD k ⟨0, 0, 0⟩).s

theorem badB_drop (l : Int) (bs : List Bk) (k : Nat) (h : k < bs.length) : badB (lastS l bs k) (bs.drop k) = (wrongB (lastS l bs k) bs[k] || badB (lastS l bs (k + 1)) (bs.drop (k + 1))) := by
  rw [List.drop_eq_getElem_cons h]
  show (_ || _) = _
  simp [lastS, List.getD_eq_getElem?_getD, h]

theorem index_any (A : Option Addr) (n c : Nat) (bs : List Bk) (l : Int) (g : Nat) (w : World) (h : RdB w A n bs) (hn : n ≤ 100) (hg : Blk w g #[.int .i64 l] 3) :
    Calls Try.prog 50 #[.slice A n c, .func (.func 40) #[] #[.pointer (some ⟨g, 0, none⟩)]] w fun e w' =>
      ∃ r : Int, e = .returned (.int .i64 r) ∧ (decide (0 ≤ r) = badB l bs) ∧ w.grownBy w' (some g) := by
  have HH := Lib.hid h
  have hlen := h.len
  clear h
  have G0 := Lib.hid hg; clear hg
  go_enter Try.func50, Try.ntmps50
  go_wp2
  go_loopw [8] (fun i wr => ∃ k : Nat, k ≤ n ∧ i = .int .i64 k ∧ Blk wr g #[.int .i64 (lastS l bs k)] 3 ∧ w.grownBy wr (some g) ∧ Hid (badB l bs = badB (lastS l bs k) (bs.drop k))) (fun i _ => n - (intOf i).toNat)
  case atStart => exact ⟨0, Nat.zero_le _, rfl, G0.out, grownBy_refl _ _, Lib.hid rfl⟩
  case round =>
    obtain ⟨k, hk, rfl, hb, hgr, hbad⟩ := hrel
    by_cases hlt : k < n
    · obtain ⟨b, off, rfl, hc⟩ := (HH.out.grown G0.out hgr).at' (by omega)
      have hk1 : k < bs.length := by omega
      obtain ⟨d0, d1, d2⟩ := hc k hk1
      have hbd := Lib.hid (badB_drop l bs k hk1)
      have hS : lastS l bs (k + 1) = bs[k].s := by simp [lastS, List.getD_eq_getElem?_getD, hk1]
      have HS := Lib.hid hS; clear hS
      generalize bs[k] = bk at *
      have HB := Lib.hid hb; have HG := Lib.hid hgr; clear hb hgr hc
      obtain ⟨s, a, b'⟩ := bk
      dsimp only at d0 d1 d2
      go_wp2_with fail
      refine (clo_any ⟨s, a, b'⟩ _ g wr HB.out).mono ?_
      rintro e w2 ⟨rfl, hb2, hg2⟩
      have B2 := Lib.hid hb2; have G2 := Lib.hid (HG.out.trans hg2); clear hb2 hg2
      cases hw : wrongB (lastS l bs k) ⟨s, a, b'⟩ with
      | true =>
        have E := Lib.hid (hbad.out.trans (hbd.out.trans (by rw [hw, Bool.true_or] : _ = true)))
        go_wp2
        go_ret
        exact ⟨k, rfl, by rw [E.out]; simp, G2.out⟩
      | false =>
        have E := Lib.hid (hbad.out.trans (hbd.out.trans (by rw [hw, Bool.false_or] : _ = badB (lastS l bs (k + 1)) (bs.drop (k + 1)))))
        have hk100 : (k : Int) < 100 := by omega
        go_wp2
        go_roundw
        case rel => exact ⟨k + 1, by omega, by go_num, by have := HS.out; rw [this]; exact B2.out, G2.out, E⟩
        case measure => simp [intOf]; omega
    · have hkn : k = n := by omega
      subst hkn
      have E : badB l bs = false := by rw [hbad.out, List.drop_of_length_le (by omega)]; rfl
      have E' := Lib.hid E; have HG := Lib.hid hgr; clear hb hgr E
      go_wp2
      go_ret
      exact ⟨-1, rfl, by rw [E'.out]; rfl, HG.out⟩

theorem contains_any (A : Option Addr) (n c : Nat) (bs : List Bk) (l : Int) (g : Nat) (w : World) (h : RdB w A n bs) (hn : n ≤ 100) (hg : Blk w g #[.int .i64 l] 3) :
    Calls Try.prog 39 #[.slice A n c, .func (.func 40) #[] #[.pointer (some ⟨g, 0, none⟩)]] w fun e w' =>
      e = .returned (.bool (badB l bs)) ∧ w.grownBy w' (some g) := by
  have hc := index_any A n c bs l g w h hn hg
  have HC := Lib.hid hc
  clear hc h hg
  go_enter Try.func39, Try.ntmps39
  go_wp2_with fail
  refine HC.out.mono ?_
  rintro e w2 ⟨r, rfl, hr, hgr⟩
  have HR := Lib.hid hr; have HG := Lib.hid hgr; clear hr hgr
  go_wp2
  go_ret
  exact ⟨by rw [← HR.out]; rfl, HG.out⟩

/-- Whether a cell is right: for every cell. -/
theorem right_any (kind : Int) (dA : Option Addr) (nd dc : Nat) (A : Option Addr) (n c : Nat) (bs : List Bk) (w : World) (h : RdB w A n bs) :
    Calls Try.prog 25 #[.agg #[.int .i64 kind, .slice dA nd dc, .slice A n c]] w fun e w' => e = .returned (.bool (rightC kind nd bs)) ∧ Below w.heap.size w w' := by
  have hlen := h.len
  have s1 := Blk.new w #[.int .i64 kind, .slice dA nd dc, .slice A n c] 41
  have b1 : Below w.heap.size w (w.alloc (.cells #[.int .i64 kind, .slice dA nd dc, .slice A n c] 41)) := (Below.refl _ _).alloc (Nat.le_refl _) _
  have e0 := s1.cell 0; have e1 := s1.cell 1; have e2 := s1.cell 2
  simp at e0 e1 e2
  unfold rightC
  have hn0 : (decide (bs.length = 0)) = decide ((n : Int) = 0) := by rw [hlen]; simp
  by_cases hk2 : kind = 2
  · subst hk2
    rw [if_pos rfl]
    have H1 := Lib.hid hlen; have S1 := Lib.hid s1; have B1 := Lib.hid b1; clear h hlen s1 b1
    by_cases hd : nd = 0
    · subst hd
      by_cases hn : n = 0
      · subst hn
        go_enter Try.func25, Try.ntmps25
        go_wp2
        go_ret
        exact ⟨ret_bool (by simp [H1.out]), B1.out⟩
      · go_enter Try.func25, Try.ntmps25
        go_wp2
        go_ret
        exact ⟨ret_bool (by simp [H1.out]; rw [Bool.eq_iff_iff]; simp), B1.out⟩
    · have hd' : ((nd : Int) = 0) = False := by simp; omega
      go_enter Try.func25, Try.ntmps25
      go_wp2
      go_ret
      exact ⟨ret_bool (by simp [hd]), B1.out⟩
  · rw [if_neg hk2]
    by_cases hok : kind = 1 ∧ nd ≤ 100 ∧ bs.length ≤ 4
    · obtain ⟨rfl, hnd, hbl⟩ := hok
      rw [hlen] at hbl
      have hd : decide ((1 : Int) = 1 ∧ nd ≤ 100 ∧ bs.length ≤ 4) = true := decide_eq_true ⟨rfl, hnd, by omega⟩
      rw [hd, Bool.true_and]
      have s2 := (s1.alloc (.cells #[.int .i64 (-1)] 3))
      have g2 : Blk ((w.alloc (.cells #[.int .i64 1, .slice dA nd dc, .slice A n c] 41)).alloc (.cells #[.int .i64 (-1)] 3)) (w.heap.size + 1) #[.int .i64 (-1)] 3 := Blk.newAt (w.alloc _) _ _ _ (by simp)
      have b2 := b1.alloc (by simp) (.cells #[.int .i64 (-1)] 3)
      have hz2 : w.heap.size + 2 = ((w.alloc (.cells #[.int .i64 1, .slice dA nd dc, .slice A n c] 41)).alloc (.cells #[.int .i64 (-1)] 3)).heap.size := by simp
      have hc := contains_any A n c bs (-1) (w.heap.size + 1) _ (h.below b2) (by omega) g2
      have HC := Lib.hid hc; have B2 := Lib.hid b2; clear hc b2 b1 s2 g2 s1 h hz2
      have hnd' : (nd : Int) ≤ 100 := by omega
      have hn4 : (n : Int) ≤ 4 := by omega
      go_enter Try.func25, Try.ntmps25
      go_wp2_with fail
      refine HC.out.mono ?_
      rintro e w3 ⟨rfl, hg3⟩
      have B3 := Lib.hid (B2.out.trans (below_of_grownBy hg3 (B := w.heap.size) (by simp; omega) (by intro k hk; cases hk; omega)))
      clear hg3
      go_wp2
      go_ret
      exact ⟨rfl, B3.out⟩
    · have hd : decide (kind = 1 ∧ nd ≤ 100 ∧ bs.length ≤ 4) = false := decide_eq_false hok
      rw [hd, Bool.false_and]
      have B1 := Lib.hid b1; clear b1 s1 h hd
      rw [hlen] at hok
      by_cases hk1 : kind = 1
      · subst hk1
        by_cases hd1 : (nd : Int) ≤ 100
        · have hn4 : (4 : Int) < n := by omega
          go_enter Try.func25, Try.ntmps25
          go_wp2
          go_ret
          exact ⟨rfl, B1.out⟩
        · go_enter Try.func25, Try.ntmps25
          go_wp2
          go_ret
          exact ⟨rfl, B1.out⟩
      · go_enter Try.func25, Try.ntmps25
        go_wp2
        go_ret
        exact ⟨rfl, B1.out⟩

/-- A stream's Back: the first one's pair. -/
def findB (s : Int) : List Bk → (Int × Int) × Bool
  | [] => ((NN, NN), false)
  | k :: ks => if k.s = s then ((k.a, k.b), true) else findB s ks

theorem below_far {B : Nat} {w w1 : World} (h : Below B w w1) {p : Addr} (hp : B ≤ p.block) (u : Value) : Below B w (w1.setCell p u) :=
  ⟨h.os, h.tape, h.output, by simpa [World.setCell] using h.size, fun k hk => (Below.heap_setCell _ _ _ _ (by omega)).trans (h.block k hk)⟩
theorem results_cell_tmp_row {P : Program} {fn : Func} {p u : Tmp} {ty : TypeId} (h : fn.results = #[.cell p ty, .tmp u]) (tmps : Array Value) (w : World) (g : Nat) (t : TypeId) (cs : Array Value) (fr : Nat × Nat) (d : TypeDesc)
    (hp : tmps.getD p undef = .pointer (some ⟨g, 0, none⟩)) (hg : w.heap[g]? = some (.cells cs t fr))
    (hu : P.underlying ty = some d) (hd : (match d with | .struct _ | .array _ _ => true | _ => false) = true) (hi : (P.info? ty).map (·.size) = some cs.size) :
    (results fn tmps).run P w = .ok (.tuple #[.agg cs, tmps.getD u undef]) w := by
  rw [results_cell_tmp h, hp]
  simp only [asAddr, Sem.run_pure, Result.andThen_ok, run_loadVar_row w g t ty cs fr d hg hu hd hi]

theorem find_any (kind : Int) (D : Value) (A : Option Addr) (n c : Nat) (bs : List Bk) (s : Int) (w : World) (h : RdB w A n bs) (hn : n ≤ 100) :
    Calls Try.prog 45 #[.agg #[.int .i64 kind, D, .slice A n c], .int .i64 s] w fun e w' =>
      e = .returned (.tuple #[.agg #[.int .u64 (findB s bs).1.1, .int .u64 (findB s bs).1.2], .bool (findB s bs).2]) ∧ Below w.heap.size w w' := by
  have hlen := h.len
  have b2 : Below w.heap.size w ((w.alloc (.cells #[.int .i64 kind, D, .slice A n c] 41)).alloc (.cells #[.int .u64 0, .int .u64 0] 29)) := ((Below.refl _ _).alloc (Nat.le_refl _) _).alloc (by simp) _
  have r2 : Blk ((w.alloc (.cells #[.int .i64 kind, D, .slice A n c] 41)).alloc (.cells #[.int .u64 0, .int .u64 0] 29)) (w.heap.size + 1) #[.int .u64 0, .int .u64 0] 29 := Blk.newAt (w.alloc _) _ _ _ (by simp)
  have HH := Lib.hid h; have B2 := Lib.hid b2; have R2 := Lib.hid r2; clear h b2 r2
  go_enter Try.func45, Try.ntmps45
  go_wp2
  go_loopw [13] (fun i wr => ∃ k : Nat, k ≤ n ∧ i = .int .i64 k ∧ Below w.heap.size w wr ∧ Blk wr (w.heap.size + 1) #[.int .u64 0, .int .u64 0] 29 ∧ Hid (findB s bs = findB s (bs.drop k))) (fun i _ => n - (intOf i).toNat)
  case atStart => exact ⟨0, Nat.zero_le _, rfl, B2.out, R2.out, Lib.hid rfl⟩
  case round =>
    obtain ⟨k, hk, rfl, hb, hr, hf⟩ := hrel
    by_cases hlt : k < n
    · obtain ⟨b, off, rfl, hc⟩ := (HH.out.below hb).at' (by omega)
      have hk1 : k < bs.length := by omega
      obtain ⟨d0, d1, d2⟩ := hc k hk1
      have hdr : findB s (bs.drop k) = if bs[k].s = s then ((bs[k].a, bs[k].b), true) else findB s (bs.drop (k + 1)) := by rw [List.drop_eq_getElem_cons hk1]; rfl
      have HD := Lib.hid hdr; clear hdr hc
      generalize bs[k] = bk at *
      obtain ⟨s', a, b'⟩ := bk
      dsimp only at d0 d1 d2 HD
      have hzr := hb.size
      have hrz := hr.lt
      have K1 := Lib.hid (Blk.new wr #[.int .i64 s', .int .u64 a, .int .u64 b'] 69)
      have B1 := Lib.hid (hb.alloc hzr (.cells #[.int .i64 s', .int .u64 a, .int .u64 b'] 69))
      have R1 := Lib.hid (hr.alloc (.cells #[.int .i64 s', .int .u64 a, .int .u64 b'] 69))
      have R0 := Lib.hid hr; have B0 := Lib.hid hb; clear hb
      have q0 := hr.cell 0; have q1 := hr.cell 1
      simp at q0 q1
      have qf := hr.fr 0; have qf1 := hr.fr 1
      clear hr
      by_cases hs : s' = s
      · subst hs
        have E := Lib.hid (hf.out.trans (HD.out.trans (if_pos rfl)))
        go_wp2
        refine bodyPost_ret (results_cell_tmp_row rfl _ _ (w.heap.size + 1) 29 _ (0, 0) _ rfl (((R0.out.set 0 _).set 1 _).alloc _) Try.underlying29 rfl (by kernel_rfl)) rfl ?_
        exact ⟨by rw [E.out]; rfl, (below_far (below_far B0.out (by simp) _) (by simp) _).alloc (by simpa [World.setCell] using hzr) _⟩
      · have E := Lib.hid (hf.out.trans (HD.out.trans (if_neg hs)))
        have hk100 : (k : Int) < 100 := by omega
        go_wp2
        go_roundw
        case rel => exact ⟨k + 1, by omega, by go_num, B1.out, R1.out, E⟩
        case measure => simp [intOf]; omega
    · have hkn : k = n := by omega
      subst hkn
      have hzr := hb.size
      have hrz := hr.lt
      have E : findB s bs = ((NN, NN), false) := by rw [hf.out, List.drop_of_length_le (by omega)]; rfl
      have E' := Lib.hid E; clear E
      have R0 := Lib.hid hr; have B0 := Lib.hid hb; clear hb
      have q0 := hr.cell 0; have q1 := hr.cell 1
      simp at q0 q1
      have qf := hr.fr 0; have qf1 := hr.fr 1
      clear hr
      go_wp2
      refine wp_loop_rounds 3 ?_
      rw [rounds_succ]
      go_wp2
      rw [rounds_succ]
      go_wp2
      rw [rounds_succ]
      go_wp2
      refine bodyPost_ret (results_cell_tmp_row rfl _ _ (w.heap.size + 1) 29 _ (0, 0) _ rfl (((R0.out.set 0 _).set 1 _).alloc _) Try.underlying29 rfl (by kernel_rfl)) rfl ?_
      exact ⟨by rw [E'.out]; rfl, (below_far (below_far B0.out (by simp) _) (by simp) _).alloc (by simpa [World.setCell] using hzr) _⟩

/-- The error of a slot that is not a cell. -/
def missE (st : Int) : Int := if st = 0 then 82 else if st = 1 then 0 else 83
theorem missing_any (st kind : Int) (D B : Value) (w : World) :
    Calls Try.prog 31 #[.agg #[.int .i64 st, .int .i64 kind, D, B]] w fun e w' => e = .returned (.int .i64 (missE st)) ∧ Below w.heap.size w w' := by
  have b1 : Below w.heap.size w (w.alloc (.cells #[.int .i64 st, .int .i64 kind, D, B] 43)) := (Below.refl _ _).alloc (Nat.le_refl _) _
  unfold missE
  by_cases h0 : st = 0
  · subst h0
    go_enter Try.func31, Try.ntmps31
    go_wp2
    go_ret
    exact ⟨rfl, b1⟩
  · by_cases h1 : st = 1
    · subst h1
      go_enter Try.func31, Try.ntmps31
      go_wp2
      go_ret
      exact ⟨rfl, b1⟩
    · rw [if_neg h0, if_neg h1]
      go_enter Try.func31, Try.ntmps31
      go_wp2
      go_ret
      exact ⟨rfl, b1⟩

/-- A slot of a view. -/
structure Sl where
  st : Int
  kind : Int
  nd : Nat
  bs : List Bk
/-- A stream's backpointers of a slot, and whether it is of the stream. -/
def ofS (s : Int) (x : Sl) : (Int × Int) × Bool := if x.kind = 1 ∧ rightC x.kind x.nd x.bs = true then findB s x.bs else ((0, 0), false)

theorem of_any (st kind : Int) (dA : Option Addr) (nd dc : Nat) (A : Option Addr) (n c : Nat) (bs : List Bk) (s : Int) (w : World) (h : RdB w A n bs) (hn : n ≤ 100) :
    Calls Try.prog 32 #[.agg #[.int .i64 st, .int .i64 kind, .slice dA nd dc, .slice A n c], .int .i64 s] w fun e w' =>
      e = .returned (.tuple #[.agg #[.int .u64 (ofS s ⟨st, kind, nd, bs⟩).1.1, .int .u64 (ofS s ⟨st, kind, nd, bs⟩).1.2], .bool (ofS s ⟨st, kind, nd, bs⟩).2]) ∧ Below w.heap.size w w' := by
  have b2 : Below w.heap.size w ((w.alloc (.cells #[.int .i64 st, .int .i64 kind, .slice dA nd dc, .slice A n c] 43)).alloc (.cells #[.int .u64 0, .int .u64 0] 29)) := ((Below.refl _ _).alloc (Nat.le_refl _) _).alloc (by simp) _
  have s2 : Blk ((w.alloc (.cells #[.int .i64 st, .int .i64 kind, .slice dA nd dc, .slice A n c] 43)).alloc (.cells #[.int .u64 0, .int .u64 0] 29)) w.heap.size #[.int .i64 st, .int .i64 kind, .slice dA nd dc, .slice A n c] 43 := (Blk.new w _ _).alloc _
  have r2 : Blk ((w.alloc (.cells #[.int .i64 st, .int .i64 kind, .slice dA nd dc, .slice A n c] 43)).alloc (.cells #[.int .u64 0, .int .u64 0] 29)) (w.heap.size + 1) #[.int .u64 0, .int .u64 0] 29 := Blk.newAt (w.alloc _) _ _ _ (by simp)
  by_cases hk : kind = 1
  · subst hk
    have hr := right_any 1 dA nd dc A n c bs _ (h.below b2)
    have HH := Lib.hid h; have B2 := Lib.hid b2; have R2 := Lib.hid r2; have S2 := Lib.hid s2; have HR := Lib.hid hr; clear h b2 r2 s2 hr
    go_enter Try.func32, Try.ntmps32
    go_wp2_with fail
    refine HR.out.mono ?_
    rintro e w3 ⟨rfl, hb3⟩
    have B3 := Lib.hid (B2.out.trans (hb3.mono (by simp; omega)))
    have hz3 := B3.out.size
    have R3 := Lib.hid (R2.out.below hb3)
    have S3 := Lib.hid (S2.out.below hb3)
    clear hb3
    have c0 := S3.out.cell 0; have c1 := S3.out.cell 1; have c2 := S3.out.cell 2; have c3 := S3.out.cell 3
    simp at c0 c1 c2 c3
    have q0 := R3.out.cell 0; have q1 := R3.out.cell 1
    have qf := R3.out.fr 0; have qf1 := R3.out.fr 1
    simp at q0 q1
    have hlt := R3.out.lt
    cases hrc : rightC 1 nd bs with
    | true =>
      have E : ofS s ⟨st, 1, nd, bs⟩ = findB s bs := by unfold ofS; simp [hrc]
      have hf := find_any 1 (.slice dA nd dc) A n c bs s w3 (HH.out.below B3.out) hn
      have HF := Lib.hid hf; have E' := Lib.hid E; clear hf E
      go_wp2_with fail
      refine HF.out.mono ?_
      rintro e w4 ⟨rfl, hb4⟩
      have B4 := Lib.hid (B3.out.trans (hb4.mono hz3))
      have R4 := Lib.hid (R3.out.below hb4)
      clear hb4
      have q0 := R4.out.cell 0; have q1 := R4.out.cell 1
      have qf := R4.out.fr 0; have qf1 := R4.out.fr 1
      simp at q0 q1
      have hlt := R4.out.lt
      go_wp2
      refine bodyPost_ret (results_cell_tmp_row rfl _ _ (w.heap.size + 1) 29 _ (0, 0) _ rfl ((R4.out.set 0 _).set 1 _) Try.underlying29 rfl (by kernel_rfl)) rfl ?_
      exact ⟨by rw [E'.out]; rfl, below_far (below_far B4.out (by simp) _) (by simp) _⟩
    | false =>
      have E : ofS s ⟨st, 1, nd, bs⟩ = ((0, 0), false) := by unfold ofS; simp [hrc]
      have E' := Lib.hid E; clear E
      go_wp2
      refine bodyPost_ret (results_cell_tmp_row rfl _ _ (w.heap.size + 1) 29 _ (0, 0) _ rfl ((R3.out.set 0 _).set 1 _) Try.underlying29 rfl (by kernel_rfl)) rfl ?_
      exact ⟨by rw [E'.out]; rfl, below_far (below_far B3.out (by simp) _) (by simp) _⟩
  · have E : ofS s ⟨st, kind, nd, bs⟩ = ((0, 0), false) := by unfold ofS; simp [hk]
    have E' := Lib.hid E; clear E
    have B2 := Lib.hid b2; have R2 := Lib.hid r2; clear h b2 r2 s2
    go_enter Try.func32, Try.ntmps32
    go_wp2
    refine bodyPost_ret (results_cell_tmp_row rfl _ _ (w.heap.size + 1) 29 _ (0, 0) _ rfl R2.out Try.underlying29 rfl (by kernel_rfl)) rfl ?_
    exact ⟨by rw [E'.out]; rfl, B2.out⟩
end Go.Proofs.Ytjalhcfphhdcbaa
