/- The walker: what its steps compute. -/
import Derived.Test.YtjalhcfphhdcbaaStrB
import Derived.Shelf.SlicesE.Reverse
set_option linter.unusedVariables false
set_option linter.unusedSimpArgs false
namespace Go.Proofs.Ytjalhcfphhdcbaa
open Go.RowKit

/-- A walker in memory. -/
def WkC (V : Value) (s f p0 p1 : Int) (kn : Bool) (F : Value) (st : Int) : Array Value := #[V, .int .i64 s, .int .u64 f, .int .u64 p0, .int .u64 p1, .bool kn, F, .int .i64 st]

theorem Blk.drewN {w : World} {g : Nat} {cs : Array Value} {t : Nat} (h : Blk w g cs t) (n : Nat) : Blk (w.drewN n) g cs t := h
theorem grownBy_drN {w w' : World} {r : Option Nat} (h : w.grownBy w' r) (n : Nat) : w.grownBy (w'.drewN n) r := ⟨h.os, h.tape, h.output, h.size, h.block⟩
theorem grownBy_st {w w' : World} {g : Nat} (h : w.grownBy w' (some g)) (o : Nat) (u : Value) : w.grownBy (w'.setCell ⟨g, o, none⟩ u) (some g) := h.trans (grownBy_set w' g o u)
theorem below_drewN {B : Nat} {a w : World} (h : Below B a w) (n : Nat) : Below B a (w.drewN n) := ⟨h.os, h.tape, h.output, h.size, h.block⟩

theorem below_any (g : Nat) (V : Value) (s f p0 p1 : Int) (kn : Bool) (F : Value) (st x y : Int) (b : Bool) (w : World) (h : Blk w g (WkC V s f p0 p1 kn F st) 81) :
    Calls Try.prog 54 #[.pointer (some ⟨g, 0, none⟩), .agg #[.int .u64 x, .int .u64 y], .bool b] w fun e w' =>
      e = .returned (.int .i64 (if x = NN ∨ x < p0 then 0 else 151)) ∧ w.grownBy w' (some g) ∧ (x = NN ∨ x < p0 → Blk w' g (WkC V s f x y b F st) 81) := by
  have h1 := h.alloc (.cells #[.int .u64 x, .int .u64 y] 29)
  have hlt := h.lt
  have hne : w.heap.size ≠ g := by omega
  have c3 := h.cell 3; have c4 := h.cell 4; have c5 := h.cell 5; have f3 := h.fr 3; have f4 := h.fr 4; have f5 := h.fr 5
  simp [WkC] at c3 c4 c5
  have G1 := Lib.hid (grownBy_al (grownBy_refl w (some g)) (.cells #[.int .u64 x, .int .u64 y] 29))
  have H1 := Lib.hid h1; have H := Lib.hid h; clear h1 h
  by_cases hx : x = NN
  · subst hx
    rw [if_pos (Or.inl rfl)]
    go_enter Try.func54, Try.ntmps54
    go_wp2
    go_quiet (fail)
    go_wp2
    go_ret
    exact ⟨rfl, grownBy_st (grownBy_st (grownBy_st (grownBy_drN G1.out _) _ _) _ _) _ _, fun _ => (((H1.out.drewN _).set 3 _).set 4 _).set 5 _⟩
  · have hxb : (x != NN) = true := by simp [hx]
    by_cases hl : x < p0
    · have hd : decide (p0 ≤ x) = false := decide_eq_false (by omega)
      rw [if_pos (Or.inr hl)]
      go_enter Try.func54, Try.ntmps54
      go_wp2
      go_quiet (fail)
      go_wp2
      go_ret
      exact ⟨rfl, grownBy_st (grownBy_st (grownBy_st (grownBy_drN G1.out _) _ _) _ _) _ _, fun _ => (((H1.out.drewN _).set 3 _).set 4 _).set 5 _⟩
    · have hd : decide (p0 ≤ x) = true := decide_eq_true (by omega)
      rw [if_neg (by rintro (h | h) <;> contradiction)]
      go_enter Try.func54, Try.ntmps54
      go_wp2
      go_quiet (fail)
      go_wp2
      go_ret
      exact ⟨rfl, grownBy_drN G1.out _, fun h => by rcases h with h | h <;> first | contradiction | omega⟩

instance : Inhabited Sl := ⟨⟨0, 0, 0, []⟩⟩
/-- All slots below looked through. -/
def srch (s f : Int) (vs : List Sl) : Nat → Int × Int
  | 0 => (0, NN)
  | a + 1 => if f < (a : Int) + 1 then (if missE (vs.getD a default).st = 0 then (if (ofS s (vs.getD a default)).2 = true then (0, (a : Int)) else srch s f vs a) else (missE (vs.getD a default).st, 0)) else (0, NN)

set_option maxRecDepth 100000 in
theorem search_any (W0 : World) (g : Nat) (A : Option Addr) (n c : Nat) (vs : List Sl) (s f : Int) (p0 : Nat) (p1 : Int) (kn : Bool) (F : Value) (st : Int) (w : World)
    (hv : RdV W0 A n vs) (hs : SmallV vs) (hf0 : 0 ≤ f) (hb : Below W0.heap.size W0 w) (hg : W0.heap.size ≤ g) (hp : p0 ≤ n) (h : Blk w g (WkC (.slice A n c) s f p0 p1 kn F st) 81) :
    Calls Try.prog 55 #[.pointer (some ⟨g, 0, none⟩)] w fun e w' =>
      e = .returned (.int .i64 (srch s f vs p0).1) ∧ w.grownBy w' (some g) ∧ ((srch s f vs p0).1 = 0 → Blk w' g (WkC (.slice A n c) s f (srch s f vs p0).2 0 false F st) 81) := by
  have hlen := hv.len
  have hn100 : n ≤ 100 := by have := hs.1; omega
  have HV := Lib.hid hv; have HS := Lib.hid hs; have HB := Lib.hid hb; have H := Lib.hid h; clear hv hs hb
  have hlt := h.lt
  have c3 := h.cell 3
  simp [WkC] at c3
  clear h
  go_enter Try.func55, Try.ntmps55
  go_wp2
  go_loopw [3] (fun i wr => ∃ k : Nat, k ≤ p0 ∧ i = .int .u64 k ∧ w.grownBy wr (some g) ∧ Hid (Blk wr g (WkC (.slice A n c) s f p0 p1 kn F st) 81) ∧ Hid (srch s f vs p0 = srch s f vs k)) (fun i _ => (intOf i).toNat)
  case atStart => exact ⟨p0, Nat.le_refl _, rfl, grownBy_refl _ _, H, Lib.hid rfl⟩
  case round =>
    obtain ⟨k, hk, rfl, hgr, hbk, hq⟩ := hrel
    have d0 := hbk.out.cell 0; have d1 := hbk.out.cell 1; have d2 := hbk.out.cell 2
    simp [WkC] at d0 d1 d2
    have hgl := hbk.out.lt
    by_cases hf : f < k
    · cases k with
      | zero =>
        exfalso
        simp at hf
        omega
      | succ a =>
        have hak : a < vs.length := by omega
        have hbw := HB.out.trans (below_of_grownBy hgr (B := W0.heap.size) (by have := HB.out.size; omega) (by intro k hk; cases hk; exact hg))
        obtain ⟨b, off, rfl, hc⟩ := (HV.out.below hbw).at' (by omega)
        have hsm := HS.out.2 vs[a] (List.getElem_mem hak)
        have hsl := hc a hak
        have hst : srch s f vs (a + 1) = if missE vs[a].st = 0 then (if (ofS s vs[a]).2 = true then (0, (a : Int)) else srch s f vs a) else (missE vs[a].st, 0) := by
          have hgd : vs.getD a default = vs[a] := by simp [List.getD_eq_getElem?_getD, hak]
          show (if f < (a : Int) + 1 then _ else _) = _
          rw [if_pos (by omega), hgd]
        have HX := Lib.hid hst; clear hst hc
        generalize vs[a] = x at *
        obtain ⟨st', kind, nd, bs⟩ := x
        obtain ⟨dA, dc, A', n', c', e0, e1, e2, e3, hrb⟩ := hsl
        dsimp only at e0 e1 e2 e3 hrb hsm
        have hn' : n' ≤ 100 := by rw [← hrb.len]; exact hsm
        have hsub : IntKind.u64.wrap (((a + 1 : Nat) : Int) - 1) = a := by rw [IntKind.wrap_u64]; omega
        have han : (a : Int) < n := by omega
        have HRB := Lib.hid hrb; have HBW := Lib.hid hbw; have HG := Lib.hid hgr; clear hrb hbw hgr
        go_wp2_with fail
        refine (missing_any st' kind _ _ _).mono ?_
        rintro e w2 ⟨rfl, hb2⟩
        have R2 := Lib.hid (hbk.out.below hb2)
        have HRB2 := Lib.hid (HRB.out.below hb2)
        have G2 := Lib.hid (grownBy_below HG.out hb2)
        have BW2 := Lib.hid (HBW.out.trans (hb2.mono HBW.out.size))
        have hbr := World.block_lt_of_cell? wr _ e0
        have c0 := (hb2.cell (p := ⟨b, off + a * 4, none⟩) hbr).trans e0
        have c1 := (hb2.cell (p := ⟨b, off + a * 4 + 1, none⟩) hbr).trans e1
        have c2 := (hb2.cell (p := ⟨b, off + a * 4 + 2, none⟩) hbr).trans e2
        have c3 := (hb2.cell (p := ⟨b, off + a * 4 + 3, none⟩) hbr).trans e3
        have q0 := R2.out.cell 0; have q1 := R2.out.cell 1; have q2 := R2.out.cell 2
        simp [WkC] at q0 q1 q2
        have hg2 := R2.out.lt
        have hz2 := BW2.out.size
        clear hb2 e0 e1 e2 e3 d0 d1 d2
        by_cases hm : missE st' = 0
        · have hX := HX.out.trans (if_pos hm)
          have hof : ∀ W, Below w2.heap.size w2 W → Calls Try.prog 32 #[.agg #[.int .i64 st', .int .i64 kind, .slice dA nd dc, .slice A' n' c'], .int .i64 s] W fun e w' =>
            e = .returned (.tuple #[.agg #[.int .u64 (ofS s ⟨st', kind, nd, bs⟩).1.1, .int .u64 (ofS s ⟨st', kind, nd, bs⟩).1.2], .bool (ofS s ⟨st', kind, nd, bs⟩).2]) ∧ Below w2.heap.size w2 w' ∧ Below W.heap.size W w' := fun W hW =>
            (of_any st' kind dA nd dc A' n' c' bs s W (HRB2.out.below hW) hn').mono fun e w' h => ⟨h.1, hW.trans (h.2.mono hW.size), h.2⟩
          have HOF := Lib.hid hof; have HX' := Lib.hid hX; clear hof hX
          have X1 := Lib.hid (Below.refl w2.heap.size w2).drew
          have X2 := Lib.hid ((Below.refl w2.heap.size w2).alloc (Nat.le_refl _) (.cells #[.int .u64 0, .int .u64 0] 29)).drew
          have hb2l : b < w2.heap.size := World.block_lt_of_cell? w2 _ c0
          have hgn : g ≠ w2.heap.size := by omega
          have hgn' : w2.heap.size ≠ g := by omega
          have hbn : b ≠ w2.heap.size := by omega
          have hbn' : w2.heap.size ≠ b := by omega
          have hs1 : IntKind.u64.wrap ((a : Int) + 1 - 1) = a := by rw [IntKind.wrap_u64]; omega
          have hs2 : IntKind.u64.wrap (a : Int) = a := by rw [IntKind.wrap_u64]; omega
          have hs3 : (0 : Int) ≤ (a : Int) := by omega
          have hs4 : IntKind.i64.wrap (a : Int) = a := by rw [IntKind.wrap_i64]; omega
          rw [hm]
          go_wp2_with fail
          go_region_held3 (fun W => W.cell? ⟨g, 0, none⟩ = some (.slice (some ⟨b, off, none⟩) n c) ∧ W.cell? ⟨g, 1, none⟩ = some (.int .i64 s) ∧ W.cell? ⟨b, off + a * 4, none⟩ = some (.int .i64 st') ∧ W.cell? ⟨b, off + a * 4 + 1, none⟩ = some (.int .i64 kind) ∧ W.cell? ⟨b, off + a * 4 + 2, none⟩ = some (.slice dA nd dc) ∧ W.cell? ⟨b, off + a * 4 + 3, none⟩ = some (.slice A' n' c')) (first | exact ⟨r0, r1, r2, r3, r4, r5⟩ | go_keep)
            (first
              | (go_at_call 32; refine (HOF.out _ ?_).mono ?_; (first | exact X1.out | exact X2.out); rintro e w3 ⟨rfl, hbA, hbB⟩
                 have r0 := (hbA.cell (p := ⟨g, 0, none⟩) hg2).trans q0
                 have r1 := (hbA.cell (p := ⟨g, 1, none⟩) hg2).trans q1
                 have r2 := (hbA.cell (p := ⟨b, off + a * 4, none⟩) hb2l).trans c0
                 have r3 := (hbA.cell (p := ⟨b, off + a * 4 + 1, none⟩) hb2l).trans c1
                 have r4 := (hbA.cell (p := ⟨b, off + a * 4 + 2, none⟩) hb2l).trans c2
                 have r5 := (hbA.cell (p := ⟨b, off + a * 4 + 3, none⟩) hb2l).trans c3
                 try (have nb := (Blk.new w2 #[.int .u64 0, .int .u64 0] 29).drew.below hbB; have HNB := Lib.hid nb; have m0 := nb.cell 0; have m1 := nb.cell 1; have mf0 := nb.fr 0; have mf1 := nb.fr 1; simp at m0 m1; clear nb)
                 have HA := Lib.hid hbA; clear hbA hbB))
          all_goals
            have hA3 := HA.out.size
            have RA := Lib.hid (R2.out.below HA.out)
            generalize ofS s ⟨st', kind, nd, bs⟩ = q at *
            obtain ⟨⟨x1, x2⟩, is⟩ := q
            cases is with
            | true =>
              have E' := Lib.hid (hq.out.trans (HX'.out.trans (if_pos rfl)))
              have hap : (a : Int) < p0 := by omega
              go_wp2_with fail
              refine (below_any g (.slice (some ⟨b, off, none⟩) n c) s f p0 p1 kn F st a 0 false _ ?_).mono ?_
              · first | exact RA.out.alloc _ | exact (RA.out.setOther hgn _ _).setOther hgn _ _
              rintro e w4 ⟨rfl, hg4, hb4⟩
              rw [if_pos (Or.inr hap)]
              have HB4 := Lib.hid (hb4 (Or.inr hap))
              have HG4 := Lib.hid hg4; clear hb4 hg4
              go_wp2
              go_ret
              refine ⟨by rw [E'.out]; rfl, ?_, fun _ => by rw [E'.out]; exact HB4.out⟩
              first
                | exact (grownBy_al (grownBy_below G2.out HA.out) _).trans HG4.out
                | exact (grownBy_far (grownBy_far (grownBy_below G2.out HA.out) (by have := G2.out.size; exact this) _) (by have := G2.out.size; exact this) _).trans HG4.out
            | false =>
              have E' := Lib.hid (hq.out.trans (HX'.out.trans (if_neg (by simp))))
              go_wp2
              go_roundw
              case rel =>
                refine ⟨a, by omega, by go_num, ?_, ?_, E'⟩
                · first
                    | exact grownBy_al (grownBy_below G2.out HA.out) _
                    | exact grownBy_far (grownBy_far (grownBy_below G2.out HA.out) (by have := G2.out.size; exact this) _) (by have := G2.out.size; exact this) _
                · first | exact Lib.hid (RA.out.alloc _) | exact Lib.hid ((RA.out.setOther hgn _ _).setOther hgn _ _)
              case measure => first | (simp [intOf]; done) | (simp [intOf]; omega)
        · have hX := HX.out.trans (if_neg hm)
          have E' := Lib.hid (hq.out.trans hX); clear hX
          go_wp2
          go_ret
          exact ⟨by rw [E'.out]; rfl, G2.out, fun h => absurd (by rw [← h, E'.out]) hm⟩
    · have E : srch s f vs k = (0, NN) := by
        cases k with
        | zero => rfl
        | succ a => show (if f < (a : Int) + 1 then _ else _) = _; rw [if_neg (by omega)]
      have E' := Lib.hid (hq.out.trans E)
      clear E
      have RA := hbk
      have HG := Lib.hid hgr; clear hgr
      go_wp2_with fail
      refine (below_any g _ s f p0 p1 kn F st NN 0 false _ RA.out).mono ?_
      rintro e w4 ⟨rfl, hg4, hb4⟩
      rw [if_pos (Or.inl rfl)]
      have HB4 := Lib.hid (hb4 (Or.inl rfl))
      have HG4 := Lib.hid hg4; clear hb4 hg4
      go_wp2
      go_ret
      exact ⟨by rw [E'.out]; rfl, HG.out.trans HG4.out, fun _ => by rw [E'.out]; exact HB4.out⟩
end Go.Proofs.Ytjalhcfphhdcbaa
