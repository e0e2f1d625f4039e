/- The walk, Walk, Steps: what they compute. -/
import Derived.Test.YtjalhcfphhdcbaaStrD
set_option linter.unusedVariables false
set_option linter.unusedSimpArgs false
namespace Go.Proofs.Ytjalhcfphhdcbaa
open Go.RowKit Go.Shelf Go.Sort

/-- slices.Reverse at this dump. -/
def revRen : Ren := ⟨fun | 35 => 47 | n => n, fun | 22 => 33 | 23 => 23 | n => n, fun | n => n⟩
theorem revLays : SlLaysE.n35 Try.prog revRen := {
  mixed := by kernel_rfl
  f35 := ⟨"slices.Reverse[[]uint64,uint64]", by kernel_rfl, Try.func47.trans (congrArg some (by kernel_rfl))⟩
  t0 := Try.underlying0
  a0 := Try.isAgg0
  z0 := Try.sizeOf0
  v0 := Try.zeroValue0
  t3 := Try.underlying3
  a3 := Try.isAgg3
  z3 := Try.sizeOf3
  v3 := Try.zeroValue3
  t4 := Try.underlying4
  a4 := Try.isAgg4
  z4 := Try.sizeOf4
  v4 := Try.zeroValue4
  t22 := Try.underlying33
  a22 := Try.isAgg33
  z22 := Try.sizeOf33
  v22 := Try.zeroValue33
  a23 := Try.isAgg23
  z23 := Try.sizeOf23 }

def encU (a : Nat) : Value := .int .u64 (a : Int)
theorem encU_one : OneCell encU := fun _ => rfl

theorem take_putCellsU (cur : Array Value) (ts : List Nat) (h : ts.length ≤ cur.size) : (putCells encU 0 ts.toArray cur).toList.take ts.length = ts.map encU := by
  apply List.ext_getElem?
  intro j
  by_cases hj : j < ts.length
  · rw [List.getElem?_take_of_lt hj, Array.getElem?_toList]
    simp [putCells, hj, show j < cur.size by omega]
  · rw [List.getElem?_take_eq_none (by omega), List.getElem?_eq_none (by simp; omega)]

theorem reverse_any (w : World) (lo : Nat) (v : Value) (l : List Nat) (h : RowU w lo v l) (hl : l.length ≤ 9223372036854775807) :
    Calls Try.prog 47 #[v] w fun e w' => e = .returned (.tuple #[]) ∧ RowU w' lo v l.reverse ∧ w.grownBy w' v.ownBlock := by
  obtain ⟨h1, h2⟩ := h
  rcases h2 with ⟨rfl, h0⟩ | ⟨g, cap, cur, rfl, hg, hh, hn, hc, hcs, ht⟩
  · have : l = [] := List.length_eq_zero_iff.1 h0
    subst this
    refine (AnyE.slices_Reverse_empty revLays none 0 w).mono ?_
    rintro e w' ⟨rfl, rfl⟩
    exact ⟨rfl, RowU.nil _ _, grownBy_refl _ _⟩
  · have hH : Holds encU w g 0 l.toArray := by
      intro j hj
      simp at hj
      have hcj : cur[j]? = some (encU l[j]) := by
        have : (cur.toList.take (l.length * 1))[j]? = (U l)[j]? := by rw [ht]
        rw [List.getElem?_take_of_lt (by omega), Array.getElem?_toList] at this
        rw [this]
        simp [U, encU, hj]
      constructor
      · rw [Nat.zero_add, cell_of_row w g j cur _ _ hh, hcj]
        simp [hj]
      · simp [World.frozen?, hh]
    refine (AnyE.slices_Reverse revLays encU encU_one g 0 cap l w hH hl).mono ?_
    rintro e w' ⟨rfl, n, rfl⟩
    refine ⟨rfl, ⟨by simp [U], .inr ⟨g, cap, putCells encU 0 l.reverse.toArray cur, by simp, hg, ?_, by simpa using hn, hc, by simp [putCells, hcs], ?_⟩⟩, ?_⟩
    · simp [putRow, mapBlock, Sort.ahead, Array.getElem?_modify, hh, onCells]
    · have := take_putCellsU cur l.reverse (by simp; omega)
      rw [Nat.mul_one, this]
      rfl
    · refine ⟨rfl, rfl, rfl, by simp, fun k hk hne => ?_⟩
      have : g ≠ k := fun e => hne (by rw [← e]; rfl)
      simp [putRow, mapBlock, Sort.ahead, Array.getElem?_modify, this]

/-- Backs' addresses are numbers. -/
def NatV (vs : List Sl) : Prop := ∀ x ∈ vs, ∀ k ∈ x.bs, 0 ≤ k.a ∧ 0 ≤ k.b
theorem findB_pos (s : Int) (bs : List Bk) (h : ∀ k ∈ bs, 0 ≤ k.a ∧ 0 ≤ k.b) : 0 ≤ (findB s bs).1.1 ∧ 0 ≤ (findB s bs).1.2 := by
  induction bs with
  | nil => exact ⟨by simp [findB], by simp [findB]⟩
  | cons k ks ih =>
    unfold findB
    split
    · exact h k (by simp)
    · exact ih fun k hk => h k (by simp [hk])
theorem ofS_pos (s : Int) (x : Sl) (h : ∀ k ∈ x.bs, 0 ≤ k.a ∧ 0 ≤ k.b) : 0 ≤ (ofS s x).1.1 ∧ 0 ≤ (ofS s x).1.2 := by
  unfold ofS
  split
  · exact findB_pos s _ h
  · simp
theorem getD_pos (vs : List Sl) (h : NatV vs) (a : Nat) : ∀ k ∈ (vs.getD a default).bs, 0 ≤ k.a ∧ 0 ≤ k.b := by
  by_cases ha : a < vs.length
  · rw [show vs.getD a default = vs[a] by simp [List.getD_eq_getElem?_getD, ha]]
    exact h _ (List.getElem_mem ha)
  · rw [show vs.getD a default = default by simp [List.getD_eq_getElem?_getD, ha]]
    intro k hk
    cases hk
theorem srch_lt (s f : Int) (vs : List Sl) (a : Nat) (h : (srch s f vs a).1 = 0) : (srch s f vs a).2 = NN ∨ (0 ≤ (srch s f vs a).2 ∧ (srch s f vs a).2 < a) := by
  induction a with
  | zero => exact .inl rfl
  | succ a ih =>
    unfold srch at h ⊢
    split
    · split
      · split
        · right; simp; omega
        · rename_i h1 h2 h3
          rw [if_pos h1, if_pos h2, if_neg h3] at h
          rcases ih h with h4 | h4
          · exact .inl h4
          · right; omega
      · rename_i h1 h2
        rw [if_pos h1, if_neg h2] at h
        exact absurd h h2
    · exact .inl rfl
theorem stepP_pos (s f : Int) (vs : List Sl) (p : PS) (hN : NatV vs) (h0 : 0 ≤ p.p0) (h1 : 0 ≤ p.p1) (h : (stepP s f vs p).1 = 0) :
    0 ≤ (stepP s f vs p).2.1.p0 ∧ 0 ≤ (stepP s f vs p).2.1.p1 ∧ ((stepP s f vs p).2.1.p0 = NN ∨ (stepP s f vs p).2.1.p0 < p.p0) ∧ p.p0 < vs.length := by
  have ho := ofS_pos s _ (getD_pos vs hN p.p0.toNat)
  unfold stepP at h ⊢
  by_cases c1 : (vs.length : Int) ≤ p.p0
  · rw [if_pos c1] at h; simp at h
  rw [if_neg c1] at h ⊢
  by_cases c2 : missE (vs.getD p.p0.toNat default).st = 0
  · rw [if_pos c2] at h ⊢
    by_cases c3 : (ofS s (vs.getD p.p0.toNat default)).2 = true
    · rw [if_pos c3] at h ⊢
      by_cases c4 : (ofS s (vs.getD p.p0.toNat default)).1.1 = NN ∨ (ofS s (vs.getD p.p0.toNat default)).1.1 < p.p0
      · rw [if_pos c4]
        exact ⟨ho.1, ho.2, c4, by omega⟩
      · rw [if_neg c4] at h; simp at h
    · rw [if_neg c3] at h ⊢
      by_cases c4 : p.kn = true
      · rw [if_pos c4] at h ⊢
        by_cases c5 : p.p1 = NN ∨ p.p1 < p.p0
        · rw [if_pos c5]
          exact ⟨h1, Int.le_refl _, c5, by omega⟩
        · rw [if_neg c5] at h; simp at h
      · rw [if_neg c4] at h ⊢
        have := srch_lt s f vs p.p0.toNat h
        refine ⟨?_, Int.le_refl _, ?_, by omega⟩
        · rcases this with h | h
          · show 0 ≤ (srch s f vs p.p0.toNat).2; rw [h]; decide
          · exact h.1
        · rcases this with h | h
          · exact .inl h
          · right; show (srch s f vs p.p0.toNat).2 < _; omega
  · rw [if_neg c2] at h
    exact absurd h c2

/-- A walk of at most so many steps: the error; what was found, the highest first; how many steps. -/
def walkF (s f : Int) (vs : List Sl) : Nat → PS → List Nat → Nat → Int × List Nat × Nat
  | 0, _, acc, k => (0, acc, k)
  | m + 1, p, acc, k => if p.p0 = NN ∨ p.p0 < f then (0, acc, k) else if (stepP s f vs p).1 = 0 then walkF s f vs m (stepP s f vs p).2.1 (addIf (stepP s f vs p).2.2 acc p.p0.toNat) (k + 1) else ((stepP s f vs p).1, [], 0)
def walkP (s f : Int) (vs : List Sl) (p0 p1 : Int) : Int × List Nat × Nat :=
  ((walkF s f vs (vs.length + 2) ⟨p0, p1, true⟩ [] 0).1, (walkF s f vs (vs.length + 2) ⟨p0, p1, true⟩ [] 0).2.1.reverse, (walkF s f vs (vs.length + 2) ⟨p0, p1, true⟩ [] 0).2.2)
theorem addIf_le (b : Bool) (acc : List Nat) (a k : Nat) (h : acc.length ≤ k) : (addIf b acc a).length ≤ k + 1 := by
  unfold addIf; split
  · simp; omega
  · omega

set_option maxRecDepth 100000 in
theorem walk_any (A : Option Addr) (n c : Nat) (vs : List Sl) (s f p0 p1 : Int) (w : World) (hv : RdV w A n vs) (hs : SmallV vs) (hN : NatV vs) (hf0 : 0 ≤ f) (h0 : 0 ≤ p0) (h1 : 0 ≤ p1) :
    Calls Try.prog 33 #[.slice A n c, .int .i64 s, .agg #[.int .u64 p0, .int .u64 p1], .int .u64 f] w fun e w' =>
      ∃ P, e = .returned (.tuple #[.pointer P, .int .i64 (walkP s f vs p0 p1).1]) ∧ Below w.heap.size w w' ∧ ((walkP s f vs p0 p1).1 = 0 →
        ∃ g F x y b, P = some ⟨g, 0, none⟩ ∧ Blk w' g (WkC (.slice A n c) s f x y b F ((walkP s f vs p0 p1).2.2 : Int)) 81 ∧ RowU w' w.heap.size F (walkP s f vs p0 p1).2.1) := by
  have hlen := hv.len
  have hn100 : n ≤ 100 := by have := hs.1; omega
  have b2 : Below w.heap.size w ((w.alloc (.cells #[.int .u64 p0, .int .u64 p1] 29)).alloc (.cells (WkC (.slice A n c) s f p0 p1 true (.slice none 0 0) 0) 81)) := ((Below.refl _ _).alloc (Nat.le_refl _) _).alloc (by simp) _
  have r2 : Blk ((w.alloc (.cells #[.int .u64 p0, .int .u64 p1] 29)).alloc (.cells (WkC (.slice A n c) s f p0 p1 true (.slice none 0 0) 0) 81)) (w.heap.size + 1) (WkC (.slice A n c) s f p0 p1 true (.slice none 0 0) 0) 81 := Blk.newAt (w.alloc _) _ _ _ (by simp)
  have HV := Lib.hid hv; have HS := Lib.hid hs; have HN := Lib.hid hN; have B2 := Lib.hid b2; have R2 := Lib.hid r2; clear hv hs hN b2 r2
  have hP : ∃ T, T = walkF s f vs (n + 2) ⟨p0, p1, true⟩ [] 0 := ⟨_, rfl⟩
  obtain ⟨T, hT⟩ := hP
  have hWP : walkP s f vs p0 p1 = (T.1, T.2.1.reverse, T.2.2) := by unfold walkP; rw [hlen, hT]
  rw [hWP]
  have HT := Lib.hid hT; clear hT hWP
  go_enter Try.func33, Try.ntmps33
  go_wp2
  go_loopg [11] (n + 2) (fun m s11 wr => ∃ (p : PS) (acc : List Nat) (k : Nat) (F : Value), Blk wr (w.heap.size + 1) (WkC (.slice A n c) s f p.p0 p.p1 p.kn F (k : Int)) 81 ∧ RowU wr w.heap.size F acc ∧ Below w.heap.size w wr ∧
    1 ≤ m ∧ (p.p0 = NN ∨ (n : Int) ≤ p.p0 ∨ p.p0 + 2 ≤ m) ∧ 0 ≤ p.p0 ∧ 0 ≤ p.p1 ∧ acc.length ≤ k ∧ k + m ≤ n + 2 ∧ Hid (T = walkF s f vs m p acc k))
  case atStart => exact ⟨⟨p0, p1, true⟩, [], 0, .slice none 0 0, R2.out, RowU.nil _ _, B2.out, by omega, by dsimp only; omega, h0, h1, Nat.le_refl _, by omega, HT⟩
  case round =>
    obtain ⟨p, acc, k, F, hb, hr, hbw, hm1, hm2, hp0, hp1, hac, hkm, hTT⟩ := hrel
    obtain ⟨q0, q1, kn⟩ := p
    dsimp only at hb hm2 hp0 hp1
    obtain ⟨m, rfl⟩ : ∃ m, gk = m + 1 := ⟨gk - 1, by omega⟩
    have c3 := hb.cell 3; have c6 := hb.cell 6
    simp [WkC] at c3 c6
    have hgl := hb.lt
    have hzr := hbw.size
    have RB := Lib.hid hb; have RR := Lib.hid hr; have BW := Lib.hid hbw
    clear hb hr hbw
    by_cases hc : q0 = NN ∨ q0 < f
    · have hE : T = (0, acc, k) := by rw [hTT.out]; unfold walkF; dsimp only; rw [if_pos hc]
      have hrv := reverse_any wr w.heap.size F acc RR.out (by omega)
      have E := Lib.hid hE; have HRV := Lib.hid hrv
      have hFg : F.ownBlock ≠ some (w.heap.size + 1) := (ownsRow_ne RR.out RB.out (by decide)).symm
      clear hE hrv
      rcases hc with hc | hc
      · subst hc
        go_wp2_with fail
        refine HRV.out.mono ?_
        rintro e w3 ⟨rfl, hr3, hg3⟩
        have R3 := Lib.hid (RB.out.grown hg3 hFg.symm)
        have B3 := Lib.hid (BW.out.grown hg3 hzr (fun j hj => (RR.out.lt j hj).1))
        have RR3 := Lib.hid hr3
        clear hr3 hg3
        go_wp2
        go_ret2
        exact ⟨_, by rw [E.out]; rfl, B3.out, fun _ => ⟨w.heap.size + 1, F, NN, q1, kn, rfl, by rw [E.out]; exact R3.out, by rw [E.out]; exact RR3.out⟩⟩
      · by_cases hn : q0 = NN
        · subst hn
          go_wp2_with fail
          refine HRV.out.mono ?_
          rintro e w3 ⟨rfl, hr3, hg3⟩
          have R3 := Lib.hid (RB.out.grown hg3 hFg.symm)
          have B3 := Lib.hid (BW.out.grown hg3 hzr (fun j hj => (RR.out.lt j hj).1))
          have RR3 := Lib.hid hr3
          clear hr3 hg3
          go_wp2
          go_ret2
          exact ⟨_, by rw [E.out]; rfl, B3.out, fun _ => ⟨w.heap.size + 1, F, NN, q1, kn, rfl, by rw [E.out]; exact R3.out, by rw [E.out]; exact RR3.out⟩⟩
        · have hnb : (q0 != 18446744073709551615) = true := by simp only [bne_iff_ne, ne_eq]; exact hn
          go_wp2_with fail
          refine HRV.out.mono ?_
          rintro e w3 ⟨rfl, hr3, hg3⟩
          have R3 := Lib.hid (RB.out.grown hg3 hFg.symm)
          have B3 := Lib.hid (BW.out.grown hg3 hzr (fun j hj => (RR.out.lt j hj).1))
          have RR3 := Lib.hid hr3
          clear hr3 hg3
          go_wp2
          go_ret2
          exact ⟨_, by rw [E.out]; rfl, B3.out, fun _ => ⟨w.heap.size + 1, F, q0, q1, kn, rfl, by rw [E.out]; exact R3.out, by rw [E.out]; exact RR3.out⟩⟩
    · have hn : ¬ q0 = NN := fun h => hc (.inl h)
      have hfq : f ≤ q0 := Int.not_lt.1 fun h => hc (.inr h)
      have hnb : (q0 != 18446744073709551615) = true := by simp only [bne_iff_ne, ne_eq]; exact hn
      have hW : T = if (stepP s f vs ⟨q0, q1, kn⟩).1 = 0 then walkF s f vs m (stepP s f vs ⟨q0, q1, kn⟩).2.1 (addIf (stepP s f vs ⟨q0, q1, kn⟩).2.2 acc q0.toNat) (k + 1) else ((stepP s f vs ⟨q0, q1, kn⟩).1, [], 0) := by
        rw [hTT.out]
        conv => lhs; unfold walkF
        dsimp only
        rw [if_neg hc]
      have hst := step_any w (w.heap.size + 1) A n c vs s f q0 q1 kn F k acc wr HV.out HS.out hf0 BW.out (by omega) hp0 (by omega) (by omega) RB.out RR.out
      have hpos := stepP_pos s f vs ⟨q0, q1, kn⟩ HN.out hp0 hp1
      have hal := addIf_le (stepP s f vs ⟨q0, q1, kn⟩).2.2 acc q0.toNat k hac
      dsimp only at hpos
      have HW := Lib.hid hW; have HST := Lib.hid hst; clear hW hst hTT hc
      generalize stepP s f vs ⟨q0, q1, kn⟩ = r at *
      obtain ⟨re, ⟨r0, r1, rk⟩, rh⟩ := r
      dsimp only at hpos hal
      go_wp2_with fail
      refine HST.out.mono ?_
      rintro e w3 ⟨rfl, hb3, hs3⟩
      have B3 := Lib.hid hb3; clear hb3
      by_cases hre : re = 0
      · subst hre
        obtain ⟨F', hF1, hF2⟩ := hs3 rfl
        obtain ⟨p1', p2', p3', p4'⟩ := hpos rfl
        have HF1 := Lib.hid hF1; have HF2 := Lib.hid hF2; clear hF1 hF2 hs3
        have HT' := Lib.hid (HW.out.trans (if_pos rfl))
        generalize addIf rh acc q0.toNat = acc' at *
        clear HW
        go_wp2
        go_roundg m
        case measure => omega
        case rel => exact ⟨⟨r0, r1, rk⟩, acc', k + 1, F', HF1.out, HF2.out, B3.out, by omega, by dsimp only; omega, p1', p2', hal, by omega, HT'⟩
      · have HT' := Lib.hid (HW.out.trans (if_neg hre))
        clear HW hs3 hpos
        go_wp2
        go_ret2
        exact ⟨none, by rw [HT'.out]; rfl, B3.out, fun h => by rw [HT'.out] at h; exact absurd h hre⟩

/-- Walk: the addresses, or the error. -/
theorem Walk_any (A : Option Addr) (n c : Nat) (vs : List Sl) (s f p0 p1 : Int) (w : World) (hv : RdV w A n vs) (hs : SmallV vs) (hN : NatV vs) (hf0 : 0 ≤ f) (h0 : 0 ≤ p0) (h1 : 0 ≤ p1) :
    Calls Try.prog 15 #[.slice A n c, .int .i64 s, .agg #[.int .u64 p0, .int .u64 p1], .int .u64 f] w fun e w' =>
      ∃ v, e = .returned (.tuple #[v, .int .i64 (walkP s f vs p0 p1).1]) ∧ RowU w' w.heap.size v (if (walkP s f vs p0 p1).1 = 0 then (walkP s f vs p0 p1).2.1 else []) ∧ Below w.heap.size w w' := by
  have b1 : Below w.heap.size w (w.alloc (.cells #[.int .u64 p0, .int .u64 p1] 29)) := (Below.refl _ _).alloc (Nat.le_refl _) _
  have hw := walk_any A n c vs s f p0 p1 _ (hv.below b1) hs hN hf0 h0 h1
  have HW := Lib.hid hw; have B1 := Lib.hid b1; clear hw b1 hv hs hN
  generalize walkP s f vs p0 p1 = r at *
  obtain ⟨re, rl, rs⟩ := r
  dsimp only at HW ⊢
  by_cases hre : re = 0
  · subst hre
    rw [if_pos rfl]
    go_enter Try.func15, Try.ntmps15
    go_wp2_with fail
    refine HW.out.mono ?_
    rintro e w2 ⟨P, rfl, hb2, h2⟩
    obtain ⟨g, F, x, y, b, rfl, hg, hr⟩ := h2 (by trivial)
    have c6 := hg.cell 6
    simp [WkC] at c6
    have hgl := hg.lt
    have B2 := Lib.hid (B1.out.trans (hb2.mono (by simp)))
    have HR := Lib.hid (hr.lo (lo' := w.heap.size) (by simp))
    clear hb2 h2 hr hg
    go_wp2
    go_ret2
    exact ⟨F, rfl, HR.out, B2.out⟩
  · rw [if_neg hre]
    go_enter Try.func15, Try.ntmps15
    go_wp2_with fail
    refine HW.out.mono ?_
    rintro e w2 ⟨P, rfl, hb2, h2⟩
    have B2 := Lib.hid (B1.out.trans (hb2.mono (by simp)))
    clear hb2 h2
    go_wp2
    go_ret2
    exact ⟨_, rfl, RowU.nil _ _, B2.out⟩

/-- Steps: how many, or 0. -/
theorem Steps_any (A : Option Addr) (n c : Nat) (vs : List Sl) (s f p0 p1 : Int) (w : World) (hv : RdV w A n vs) (hs : SmallV vs) (hN : NatV vs) (hf0 : 0 ≤ f) (h0 : 0 ≤ p0) (h1 : 0 ≤ p1) :
    Calls Try.prog 21 #[.slice A n c, .int .i64 s, .agg #[.int .u64 p0, .int .u64 p1], .int .u64 f] w fun e w' =>
      e = .returned (.int .i64 (if (walkP s f vs p0 p1).1 = 0 then ((walkP s f vs p0 p1).2.2 : Int) else 0)) ∧ Below w.heap.size w w' := by
  have b1 : Below w.heap.size w (w.alloc (.cells #[.int .u64 p0, .int .u64 p1] 29)) := (Below.refl _ _).alloc (Nat.le_refl _) _
  have hw := walk_any A n c vs s f p0 p1 _ (hv.below b1) hs hN hf0 h0 h1
  have HW := Lib.hid hw; have B1 := Lib.hid b1; clear hw b1 hv hs hN
  generalize walkP s f vs p0 p1 = r at *
  obtain ⟨re, rl, rs⟩ := r
  dsimp only at HW ⊢
  by_cases hre : re = 0
  · subst hre
    rw [if_pos rfl]
    go_enter Try.func21, Try.ntmps21
    go_wp2_with fail
    refine HW.out.mono ?_
    rintro e w2 ⟨P, rfl, hb2, h2⟩
    obtain ⟨g, F, x, y, b, rfl, hg, hr⟩ := h2 (by trivial)
    have c7 := hg.cell 7
    simp [WkC] at c7
    have hgl := hg.lt
    have B2 := Lib.hid (B1.out.trans (hb2.mono (by simp)))
    clear hb2 h2 hr hg
    go_wp2
    go_ret
    exact ⟨rfl, B2.out⟩
  · rw [if_neg hre]
    go_enter Try.func21, Try.ntmps21
    go_wp2_with fail
    refine HW.out.mono ?_
    rintro e w2 ⟨P, rfl, hb2, h2⟩
    have B2 := Lib.hid (B1.out.trans (hb2.mono (by simp)))
    clear hb2 h2
    go_wp2
    go_ret
    exact ⟨rfl, B2.out⟩
end Go.Proofs.Ytjalhcfphhdcbaa
