/- The walker's step, the walk: what they compute. -/
import Derived.Test.YtjalhcfphhdcbaaStrC
set_option linter.unusedVariables false
set_option linter.unusedSimpArgs false
namespace Go.Proofs.Ytjalhcfphhdcbaa
open Go.RowKit

/-- What a walk has: two addresses; whether the second is known. -/
structure PS where
  p0 : Int
  p1 : Int
  kn : Bool
/-- What was found, and one more. -/
def addIf (b : Bool) (acc : List Nat) (a : Nat) : List Nat := if b = true then acc ++ [a] else acc
/-- One step: the error; what it has then; whether the address is of the stream. -/
def stepP (s f : Int) (vs : List Sl) (p : PS) : Int × PS × Bool :=
  if (vs.length : Int) ≤ p.p0 then (151, p, false)
  else if missE (vs.getD p.p0.toNat default).st = 0 then
    (if (ofS s (vs.getD p.p0.toNat default)).2 = true then
      (if (ofS s (vs.getD p.p0.toNat default)).1.1 = NN ∨ (ofS s (vs.getD p.p0.toNat default)).1.1 < p.p0 then (0, ⟨(ofS s (vs.getD p.p0.toNat default)).1.1, (ofS s (vs.getD p.p0.toNat default)).1.2, true⟩, true) else (151, p, true))
    else if p.kn = true then (if p.p1 = NN ∨ p.p1 < p.p0 then (0, ⟨p.p1, 0, false⟩, false) else (151, p, false))
    else ((srch s f vs p.p0.toNat).1, ⟨(srch s f vs p.p0.toNat).2, 0, false⟩, false))
  else (missE (vs.getD p.p0.toNat default).st, p, false)

theorem stepP_at (s f : Int) (vs : List Sl) (a : Nat) (p1 : Int) (kn : Bool) (h : a < vs.length) : stepP s f vs ⟨a, p1, kn⟩ =
    if missE vs[a].st = 0 then
      (if (ofS s vs[a]).2 = true then
        (if (ofS s vs[a]).1.1 = NN ∨ (ofS s vs[a]).1.1 < a then (0, ⟨(ofS s vs[a]).1.1, (ofS s vs[a]).1.2, true⟩, true) else (151, ⟨a, p1, kn⟩, true))
      else if kn = true then (if p1 = NN ∨ p1 < a then (0, ⟨p1, 0, false⟩, false) else (151, ⟨a, p1, kn⟩, false))
      else ((srch s f vs a).1, ⟨(srch s f vs a).2, 0, false⟩, false))
    else (missE vs[a].st, ⟨a, p1, kn⟩, false) := by
  have hgd : vs.getD a default = vs[a] := by simp [List.getD_eq_getElem?_getD, h]
  unfold stepP
  dsimp only
  rw [if_neg (by omega), Int.toNat_natCast, hgd]

theorem row_form {w : World} {base n : Nat} {e : TypeId} {size : Nat} {v : Value} {xs : List Value} (h : w.ownsRow base e size v n xs) : ∃ a c, v = .slice a n c := by
  rcases h.2 with ⟨rfl, h0⟩ | ⟨g', cap, cur, rfl, _⟩
  · rw [h0]; exact ⟨none, 0, rfl⟩
  · exact ⟨_, _, rfl⟩

set_option maxRecDepth 100000 in
set_option maxHeartbeats 2000000 in
theorem step_any (W0 : World) (g : Nat) (A : Option Addr) (n c : Nat) (vs : List Sl) (s f p0 p1 : Int) (kn : Bool) (F : Value) (st : Nat) (acc : List Nat) (w : World)
    (hv : RdV W0 A n vs) (hs : SmallV vs) (hf0 : 0 ≤ f) (hb : Below W0.heap.size W0 w) (hg : W0.heap.size ≤ g) (hp : 0 ≤ p0) (hst : st ≤ 1000) (hac : acc.length ≤ 1000)
    (h : Blk w g (WkC (.slice A n c) s f p0 p1 kn F st) 81) (hF : RowU w W0.heap.size F acc) :
    Calls Try.prog 46 #[.pointer (some ⟨g, 0, none⟩)] w fun e w' =>
      e = .returned (.int .i64 (stepP s f vs ⟨p0, p1, kn⟩).1) ∧ Below W0.heap.size W0 w' ∧ ((stepP s f vs ⟨p0, p1, kn⟩).1 = 0 →
        ∃ F', Blk w' g (WkC (.slice A n c) s f (stepP s f vs ⟨p0, p1, kn⟩).2.1.p0 (stepP s f vs ⟨p0, p1, kn⟩).2.1.p1 (stepP s f vs ⟨p0, p1, kn⟩).2.1.kn F' ((st + 1 : Nat) : Int)) 81 ∧
          RowU w' W0.heap.size F' (addIf (stepP s f vs ⟨p0, p1, kn⟩).2.2 acc p0.toNat)) := by
  have hlen := hv.len
  have hn100 : n ≤ 100 := by have := hs.1; omega
  have hwn : IntKind.u64.wrap (n : Int) = n := by rw [IntKind.wrap_u64]; omega
  have hlt := h.lt
  have c0 := h.cell 0; have c3 := h.cell 3; have c7 := h.cell 7; have f7 := h.fr 7
  simp [WkC] at c0 c3 c7
  by_cases hpn : (n : Int) ≤ p0
  · have E : stepP s f vs ⟨p0, p1, kn⟩ = (151, ⟨p0, p1, kn⟩, false) := by unfold stepP; dsimp only; rw [if_pos (by omega)]
    have E' := Lib.hid E; have HB := Lib.hid hb; clear E hb h hv hs hF
    go_enter Try.func46, Try.ntmps46
    go_wp2
    go_ret
    exact ⟨by rw [E'.out]; rfl, HB.out, fun h => by rw [E'.out] at h; simp at h⟩
  · obtain ⟨a, rfl⟩ : ∃ a : Nat, p0 = a := ⟨p0.toNat, by omega⟩
    have hak : a < vs.length := by omega
    obtain ⟨b, off, rfl, hc⟩ := hv.at' (by omega)
    have hsm := hs.2 vs[a] (List.getElem_mem hak)
    have hsl := hc a hak
    have hX := stepP_at s f vs a p1 kn hak
    have HX := Lib.hid hX; clear hX hc
    generalize vs[a] = x at *
    obtain ⟨st', kind, nd, bs⟩ := x
    obtain ⟨dA, dc, A', n', c', e0, e1, e2, e3, hrb⟩ := hsl
    dsimp only at e0 e1 e2 e3 hrb hsm
    have hn' : n' ≤ 100 := by rw [← hrb.len]; exact hsm
    have han : (a : Int) < n := by omega
    have hz0 := hb.size
    have hgb : b < W0.heap.size := World.block_lt_of_cell? W0 _ e0
    have d0 := (hb.cell (p := ⟨b, off + a * 4, none⟩) hgb).trans e0
    have d1 := (hb.cell (p := ⟨b, off + a * 4 + 1, none⟩) hgb).trans e1
    have d2 := (hb.cell (p := ⟨b, off + a * 4 + 2, none⟩) hgb).trans e2
    have d3 := (hb.cell (p := ⟨b, off + a * 4 + 3, none⟩) hgb).trans e3
    have HV := Lib.hid hv; have HS := Lib.hid hs; have HB := Lib.hid hb; have H := Lib.hid h; have HF := Lib.hid hF; have HRB := Lib.hid hrb
    clear hv hs hb h hF hrb
    go_enter Try.func46, Try.ntmps46
    go_wp2_with fail
    refine (missing_any st' kind _ _ _).mono ?_
    rintro e w2 ⟨rfl, hb2⟩
    have R2 := Lib.hid (H.out.below hb2)
    have HF2 := Lib.hid (HF.out.below hb2)
    have BW2 := Lib.hid (HB.out.trans (hb2.mono HB.out.size))
    have q7 := R2.out.cell 7
    have f7 := R2.out.fr 7
    simp [WkC] at q7
    have hg2 := R2.out.lt
    have hz2 := BW2.out.size
    clear hb2 d0 d1 d2 d3
    by_cases hm : missE st' = 0
    · have hX := HX.out.trans (if_pos hm)
      have HX' := Lib.hid hX; clear hX
      rw [hm]
      have hs5 : IntKind.i64.wrap ((st : Int) + 1) = st + 1 := by rw [IntKind.wrap_i64]; omega
      have hs2 : IntKind.u64.wrap (a : Int) = a := by rw [IntKind.wrap_u64]; omega
      have hs3 : (0 : Int) ≤ (a : Int) := by omega
      have hs4 : IntKind.i64.wrap (a : Int) = a := by rw [IntKind.wrap_i64]; omega
      have hst' : (st : Int) ≤ 1000 := by omega
      go_wp2_with fail
      have RX : Blk (w2.setCell ⟨g, 7, none⟩ (.int .i64 ((st : Int) + 1))) g (WkC (.slice (some ⟨b, off, none⟩) n c) s f a p1 kn F ((st : Int) + 1)) 81 := R2.out.set 7 _
      have BX : Below W0.heap.size W0 (w2.setCell ⟨g, 7, none⟩ (.int .i64 ((st : Int) + 1))) := below_far BW2.out hg _
      have hFg : some g ≠ F.ownBlock := ownsRow_ne HF2.out R2.out (by decide)
      have FX : RowU (w2.setCell ⟨g, 7, none⟩ (.int .i64 ((st : Int) + 1))) W0.heap.size F acc := World.ownsRow.kept HF2.out (grownBy_set w2 g 7 _) (.inr hFg.symm)
      have hszx : w2.heap.size = (w2.setCell ⟨g, 7, none⟩ (.int .i64 ((st : Int) + 1))).heap.size := by simp [World.setCell]
      generalize w2.setCell ⟨g, 7, none⟩ (.int .i64 ((st : Int) + 1)) = wx at *
      have hzx := BX.size
      have hgx := RX.lt
      have q0 := RX.cell 0; have q1 := RX.cell 1
      simp [WkC] at q0 q1
      have d0 := (BX.cell (p := ⟨b, off + a * 4, none⟩) hgb).trans e0
      have d1 := (BX.cell (p := ⟨b, off + a * 4 + 1, none⟩) hgb).trans e1
      have d2 := (BX.cell (p := ⟨b, off + a * 4 + 2, none⟩) hgb).trans e2
      have d3 := (BX.cell (p := ⟨b, off + a * 4 + 3, none⟩) hgb).trans e3
      have hbx : b < wx.heap.size := by omega
      have hof : ∀ W, Below wx.heap.size wx W → Calls Try.prog 32 #[.agg #[.int .i64 st', .int .i64 kind, .slice dA nd dc, .slice A' n' c'], .int .i64 s] W fun e w' =>
        e = .returned (.tuple #[.agg #[.int .u64 (ofS s ⟨st', kind, nd, bs⟩).1.1, .int .u64 (ofS s ⟨st', kind, nd, bs⟩).1.2], .bool (ofS s ⟨st', kind, nd, bs⟩).2]) ∧ Below wx.heap.size wx w' ∧ Below W.heap.size W w' := fun W hW =>
        (of_any st' kind dA nd dc A' n' c' bs s W (HRB.out.below (BX.trans (hW.mono BX.size))) hn').mono fun e w' h => ⟨h.1, hW.trans (h.2.mono hW.size), h.2⟩
      have HOF := Lib.hid hof
      have X1 := Lib.hid (Below.refl wx.heap.size wx).drew
      have X2 := Lib.hid ((Below.refl wx.heap.size wx).alloc (Nat.le_refl _) (.cells #[.int .u64 0, .int .u64 0] 29)).drew
      have HRX := Lib.hid RX; have HBX := Lib.hid BX; have HFX := Lib.hid FX
      have hgn : g ≠ wx.heap.size := by omega
      have hgn' : wx.heap.size ≠ g := by omega
      have hbn : b ≠ wx.heap.size := by omega
      have hbn' : wx.heap.size ≠ b := by omega
      clear hof RX BX FX q7 f7 hFg R2 BW2 HF2 e0 e1 e2 e3 hszx
      go_region_held3 (fun W => W.cell? ⟨g, 0, none⟩ = some (.slice (some ⟨b, off, none⟩) n c) ∧ W.cell? ⟨g, 1, none⟩ = some (.int .i64 s) ∧ W.cell? ⟨b, off + a * 4, none⟩ = some (.int .i64 st') ∧ W.cell? ⟨b, off + a * 4 + 1, none⟩ = some (.int .i64 kind) ∧ W.cell? ⟨b, off + a * 4 + 2, none⟩ = some (.slice dA nd dc) ∧ W.cell? ⟨b, off + a * 4 + 3, none⟩ = some (.slice A' n' c')) (first | exact ⟨r0, r1, r2, r3, r4, r5⟩ | go_keep)
        (first
          | (go_at_call 32; refine (HOF.out _ ?_).mono ?_; (first | exact X1.out | exact X2.out); rintro e w3 ⟨rfl, hbA, hbB⟩
             have r0 := (hbA.cell (p := ⟨g, 0, none⟩) hgx).trans q0
             have r1 := (hbA.cell (p := ⟨g, 1, none⟩) hgx).trans q1
             have r2 := (hbA.cell (p := ⟨b, off + a * 4, none⟩) hbx).trans d0
             have r3 := (hbA.cell (p := ⟨b, off + a * 4 + 1, none⟩) hbx).trans d1
             have r4 := (hbA.cell (p := ⟨b, off + a * 4 + 2, none⟩) hbx).trans d2
             have r5 := (hbA.cell (p := ⟨b, off + a * 4 + 3, none⟩) hbx).trans d3
             try (have nb := (Blk.new wx #[.int .u64 0, .int .u64 0] 29).drew.below hbB; have HNB := Lib.hid nb; have m0 := nb.cell 0; have m1 := nb.cell 1; have mf0 := nb.fr 0; have mf1 := nb.fr 1; simp at m0 m1; clear nb)
             have HA := Lib.hid hbA; clear hbA hbB))
      all_goals
        generalize ofS s ⟨st', kind, nd, bs⟩ = q at *
        obtain ⟨⟨x1, x2⟩, is⟩ := q
        have hA3 := HA.out.size
        dsimp only
      · have RA : Blk (w3.alloc (.cells #[.int .u64 x1, .int .u64 x2] 29)) g _ _ := (HRX.out.below HA.out).alloc _
        have BA := HA.out.alloc hA3 (.cells #[.int .u64 x1, .int .u64 x2] 29)
        have LA := Blk.new w3 #[.int .u64 x1, .int .u64 x2] 29
        have RX' := Lib.hid RA; have BX' := Lib.hid BA; have LX' := Lib.hid LA
        clear RA BA LA HA r0 r1 r2 r3 r4 r5 hA3
        generalize w3.alloc (.cells #[.int .u64 x1, .int .u64 x2] 29) = wX at *
        generalize w3.heap.size = L at *
        have hLl := LX'.out.lt
        have l0 := LX'.out.cell 0; have l1 := LX'.out.cell 1
        have g4 := RX'.out.cell 4; have g5 := RX'.out.cell 5; have g6 := RX'.out.cell 6; have f6 := RX'.out.fr 6
        simp [WkC] at l0 l1 g4 g5 g6
        have hgX := RX'.out.lt
        have FX3 := Lib.hid (HFX.out.below BX'.out)
        have BW3 := Lib.hid (HBX.out.trans (BX'.out.mono HBX.out.size))
        have hzX := BW3.out.size
        have hLg : some L ≠ F.ownBlock := ownsRow_ne FX3.out LX'.out (by decide)
        cases is with
        | true =>
          have E1 := Lib.hid (HX'.out.trans (if_pos rfl))
          go_wp2_with (at_builtin; refine list_app rfl (.tmp 59) (.tmp 61) 33 rfl W0.heap.size 23 (.int .u64 0) 1 8 u64Info Try.underlying33 rfl (by omega) F acc.length _ rfl (FX3.out.alloc _) ⟨wX.heap.size, 0, none⟩ 1 1 [.int .u64 (a : Int)] rfl rfl ?_ ?_ ?_ ?_ ?_ ?_; (intro j u hj; match j, hj with | 0, hj => (simp at hj; subst hj; exact (Blk.new wX #[.int .u64 (a : Int)] 23).cell 0)); (intro u hu; simp at hu; rcases hu with rfl; rfl); (unfold maxLen; omega); (omega); (simp; omega); intro v4 w4 O4 G4; rw [U_append] at O4; obtain ⟨va, vc, rfl⟩ := row_form O4; have HO4 := Lib.hid O4; have HG4 := Lib.hid G4; clear O4 G4; have R4 := Lib.hid ((RX'.out.alloc (.cells #[.int .u64 (a : Int)] 23)).grown HG4.out (ownsRow_ne FX3.out RX'.out (by decide))); have L4 := Lib.hid ((LX'.out.alloc (.cells #[.int .u64 (a : Int)] 23)).grown HG4.out hLg); have s6 := R4.out.cell 6; have sf6 := R4.out.fr 6; have t0 := L4.out.cell 0; have t1 := L4.out.cell 1; simp [WkC] at s6 t0 t1; have hg4 := R4.out.lt; have hL4 := L4.out.lt)
          have hO4 : w4.ownsRow W0.heap.size 23 1 (.slice va (acc.length + 1) vc) (acc.length + 1) (U (acc ++ [a])) := HO4.out
          have hn4 : (Value.slice va (acc.length + 1) vc).ownBlock ≠ some g := (ownsRow_ne hO4 R4.out (by decide)).symm
          refine (below_any g (.slice (some ⟨b, off, none⟩) n c) s f a p1 kn (.slice va (acc.length + 1) vc) ((st : Int) + 1) x1 x2 true _ (R4.out.set 6 _)).mono ?_
          rintro e w5 ⟨rfl, hg5, hb5⟩
          have hG5 := (grownBy_set w4 g 6 (.slice va (acc.length + 1) vc)).trans hg5
          have O5 := Lib.hid (World.ownsRow.kept hO4 hG5 (.inr hn4))
          have B4 : Below W0.heap.size W0 w4 := (BW3.out.alloc hzX _).grown HG4.out (by simp; omega) (fun j hj => (FX3.out.lt j hj).1)
          have B5 := Lib.hid (B4.trans (below_of_grownBy hG5 (B := W0.heap.size) B4.size (by intro k hk; cases hk; exact hg)))
          clear hG5 hg5 B4 hO4
          by_cases hx : x1 = NN ∨ x1 < a
          · have E2 := Lib.hid (E1.out.trans (if_pos hx))
            have HB5 := Lib.hid (hb5 hx)
            rw [if_pos hx]
            clear hb5
            go_wp2
            go_ret
            refine ⟨by rw [E2.out]; rfl, B5.out, fun _ => ?_⟩
            rw [E2.out]
            exact ⟨.slice va (acc.length + 1) vc, HB5.out, by have := O5.out; unfold RowU addIf; simpa using this⟩
          · have E2 := Lib.hid (E1.out.trans (if_neg hx))
            rw [if_neg hx]
            clear hb5
            go_wp2
            go_ret
            exact ⟨by rw [E2.out]; rfl, B5.out, fun h => by rw [E2.out] at h; simp at h⟩
        | false =>
          have E1 := Lib.hid (HX'.out.trans (if_neg (by simp)))
          cases kn with
          | true =>
            have E2 := Lib.hid (E1.out.trans (if_pos rfl))
            go_wp2_with fail
            refine (below_any g (.slice (some ⟨b, off, none⟩) n c) s f a p1 true F ((st : Int) + 1) p1 0 false _ RX'.out).mono ?_
            rintro e w5 ⟨rfl, hg5, hb5⟩
            have O5 := Lib.hid (World.ownsRow.kept FX3.out hg5 (.inr (ownsRow_ne FX3.out RX'.out (by decide)).symm))
            have B5 := Lib.hid (BW3.out.trans (below_of_grownBy hg5 (B := W0.heap.size) hzX (by intro k hk; cases hk; exact hg)))
            clear hg5
            by_cases hx : p1 = NN ∨ p1 < a
            · have E3 := Lib.hid (E2.out.trans (if_pos hx))
              have HB5 := Lib.hid (hb5 hx)
              rw [if_pos hx]
              clear hb5
              go_wp2
              go_ret
              refine ⟨by rw [E3.out]; rfl, B5.out, fun _ => ?_⟩
              rw [E3.out]
              exact ⟨F, HB5.out, O5.out⟩
            · have E3 := Lib.hid (E2.out.trans (if_neg hx))
              rw [if_neg hx]
              clear hb5
              go_wp2
              go_ret
              exact ⟨by rw [E3.out]; rfl, B5.out, fun h => by rw [E3.out] at h; simp at h⟩
          | false =>
            have E2 := Lib.hid (E1.out.trans (if_neg (by simp)))
            have hsr := search_any W0 g (some ⟨b, off, none⟩) n c vs s f a p1 false F ((st : Int) + 1) wX HV.out HS.out hf0 BW3.out hg (by omega) RX'.out
            have HSR := Lib.hid hsr; clear hsr
            go_wp2_with fail
            refine HSR.out.mono ?_
            rintro e w5 ⟨rfl, hg5, hb5⟩
            have O5 := Lib.hid (World.ownsRow.kept FX3.out hg5 (.inr (ownsRow_ne FX3.out RX'.out (by decide)).symm))
            have B5 := Lib.hid (BW3.out.trans (below_of_grownBy hg5 (B := W0.heap.size) hzX (by intro k hk; cases hk; exact hg)))
            have HB5 := Lib.hid hb5
            clear hg5 hb5
            go_wp2
            go_ret
            refine ⟨by rw [E2.out]; rfl, B5.out, fun h => ?_⟩
            rw [E2.out] at h ⊢
            exact ⟨F, HB5.out h, O5.out⟩
      · have RA := ((HRX.out.below HA.out).setOther hgn 0 (.int .u64 x1)).setOther hgn 1 (.int .u64 x2)
        have BA := below_far (below_far HA.out (p := ⟨wx.heap.size, 0, none⟩) (Nat.le_refl _) (.int .u64 x1)) (p := ⟨wx.heap.size, 1, none⟩) (Nat.le_refl _) (.int .u64 x2)
        have LA := (HNB.out.set 0 (.int .u64 x1)).set 1 (.int .u64 x2)
        have RX' := Lib.hid RA; have BX' := Lib.hid BA
        have LX' : Hid (Blk ((w3.setCell ⟨wx.heap.size, 0, none⟩ (.int .u64 x1)).setCell ⟨wx.heap.size, 1, none⟩ (.int .u64 x2)) wx.heap.size #[.int .u64 x1, .int .u64 x2] 29) := Lib.hid LA
        clear RA BA LA HA r0 r1 r2 r3 r4 r5 hA3 HNB m0 m1 mf0 mf1
        generalize (w3.setCell ⟨wx.heap.size, 0, none⟩ (.int .u64 x1)).setCell ⟨wx.heap.size, 1, none⟩ (.int .u64 x2) = wX at *
        obtain ⟨L, hL⟩ : ∃ L, wx.heap.size = L := ⟨_, rfl⟩
        rw [hL]
        rw [hL] at LX'
        clear hL
        have hLl := LX'.out.lt
        have l0 := LX'.out.cell 0; have l1 := LX'.out.cell 1
        have g4 := RX'.out.cell 4; have g5 := RX'.out.cell 5; have g6 := RX'.out.cell 6; have f6 := RX'.out.fr 6
        simp [WkC] at l0 l1 g4 g5 g6
        have hgX := RX'.out.lt
        have FX3 := Lib.hid (HFX.out.below BX'.out)
        have BW3 := Lib.hid (HBX.out.trans (BX'.out.mono HBX.out.size))
        have hzX := BW3.out.size
        have hLg : some L ≠ F.ownBlock := ownsRow_ne FX3.out LX'.out (by decide)
        cases is with
        | true =>
          have E1 := Lib.hid (HX'.out.trans (if_pos rfl))
          go_wp2_with (at_builtin; refine list_app rfl (.tmp 59) (.tmp 61) 33 rfl W0.heap.size 23 (.int .u64 0) 1 8 u64Info Try.underlying33 rfl (by omega) F acc.length _ rfl (FX3.out.alloc _) ⟨wX.heap.size, 0, none⟩ 1 1 [.int .u64 (a : Int)] rfl rfl ?_ ?_ ?_ ?_ ?_ ?_; (intro j u hj; match j, hj with | 0, hj => (simp at hj; subst hj; exact (Blk.new wX #[.int .u64 (a : Int)] 23).cell 0)); (intro u hu; simp at hu; rcases hu with rfl; rfl); (unfold maxLen; omega); (omega); (simp; omega); intro v4 w4 O4 G4; rw [U_append] at O4; obtain ⟨va, vc, rfl⟩ := row_form O4; have HO4 := Lib.hid O4; have HG4 := Lib.hid G4; clear O4 G4; have R4 := Lib.hid ((RX'.out.alloc (.cells #[.int .u64 (a : Int)] 23)).grown HG4.out (ownsRow_ne FX3.out RX'.out (by decide))); have L4 := Lib.hid ((LX'.out.alloc (.cells #[.int .u64 (a : Int)] 23)).grown HG4.out hLg); have s6 := R4.out.cell 6; have sf6 := R4.out.fr 6; have t0 := L4.out.cell 0; have t1 := L4.out.cell 1; simp [WkC] at s6 t0 t1; have hg4 := R4.out.lt; have hL4 := L4.out.lt)
          have hO4 : w4.ownsRow W0.heap.size 23 1 (.slice va (acc.length + 1) vc) (acc.length + 1) (U (acc ++ [a])) := HO4.out
          have hn4 : (Value.slice va (acc.length + 1) vc).ownBlock ≠ some g := (ownsRow_ne hO4 R4.out (by decide)).symm
          refine (below_any g (.slice (some ⟨b, off, none⟩) n c) s f a p1 kn (.slice va (acc.length + 1) vc) ((st : Int) + 1) x1 x2 true _ (R4.out.set 6 _)).mono ?_
          rintro e w5 ⟨rfl, hg5, hb5⟩
          have hG5 := (grownBy_set w4 g 6 (.slice va (acc.length + 1) vc)).trans hg5
          have O5 := Lib.hid (World.ownsRow.kept hO4 hG5 (.inr hn4))
          have B4 : Below W0.heap.size W0 w4 := (BW3.out.alloc hzX _).grown HG4.out (by simp; omega) (fun j hj => (FX3.out.lt j hj).1)
          have B5 := Lib.hid (B4.trans (below_of_grownBy hG5 (B := W0.heap.size) B4.size (by intro k hk; cases hk; exact hg)))
          clear hG5 hg5 B4 hO4
          by_cases hx : x1 = NN ∨ x1 < a
          · have E2 := Lib.hid (E1.out.trans (if_pos hx))
            have HB5 := Lib.hid (hb5 hx)
            rw [if_pos hx]
            clear hb5
            go_wp2
            go_ret
            refine ⟨by rw [E2.out]; rfl, B5.out, fun _ => ?_⟩
            rw [E2.out]
            exact ⟨.slice va (acc.length + 1) vc, HB5.out, by have := O5.out; unfold RowU addIf; simpa using this⟩
          · have E2 := Lib.hid (E1.out.trans (if_neg hx))
            rw [if_neg hx]
            clear hb5
            go_wp2
            go_ret
            exact ⟨by rw [E2.out]; rfl, B5.out, fun h => by rw [E2.out] at h; simp at h⟩
        | false =>
          have E1 := Lib.hid (HX'.out.trans (if_neg (by simp)))
          cases kn with
          | true =>
            have E2 := Lib.hid (E1.out.trans (if_pos rfl))
            go_wp2_with fail
            refine (below_any g (.slice (some ⟨b, off, none⟩) n c) s f a p1 true F ((st : Int) + 1) p1 0 false _ RX'.out).mono ?_
            rintro e w5 ⟨rfl, hg5, hb5⟩
            have O5 := Lib.hid (World.ownsRow.kept FX3.out hg5 (.inr (ownsRow_ne FX3.out RX'.out (by decide)).symm))
            have B5 := Lib.hid (BW3.out.trans (below_of_grownBy hg5 (B := W0.heap.size) hzX (by intro k hk; cases hk; exact hg)))
            clear hg5
            by_cases hx : p1 = NN ∨ p1 < a
            · have E3 := Lib.hid (E2.out.trans (if_pos hx))
              have HB5 := Lib.hid (hb5 hx)
              rw [if_pos hx]
              clear hb5
              go_wp2
              go_ret
              refine ⟨by rw [E3.out]; rfl, B5.out, fun _ => ?_⟩
              rw [E3.out]
              exact ⟨F, HB5.out, O5.out⟩
            · have E3 := Lib.hid (E2.out.trans (if_neg hx))
              rw [if_neg hx]
              clear hb5
              go_wp2
              go_ret
              exact ⟨by rw [E3.out]; rfl, B5.out, fun h => by rw [E3.out] at h; simp at h⟩
          | false =>
            have E2 := Lib.hid (E1.out.trans (if_neg (by simp)))
            have hsr := search_any W0 g (some ⟨b, off, none⟩) n c vs s f a p1 false F ((st : Int) + 1) wX HV.out HS.out hf0 BW3.out hg (by omega) RX'.out
            have HSR := Lib.hid hsr; clear hsr
            go_wp2_with fail
            refine HSR.out.mono ?_
            rintro e w5 ⟨rfl, hg5, hb5⟩
            have O5 := Lib.hid (World.ownsRow.kept FX3.out hg5 (.inr (ownsRow_ne FX3.out RX'.out (by decide)).symm))
            have B5 := Lib.hid (BW3.out.trans (below_of_grownBy hg5 (B := W0.heap.size) hzX (by intro k hk; cases hk; exact hg)))
            have HB5 := Lib.hid hb5
            clear hg5 hb5
            go_wp2
            go_ret
            refine ⟨by rw [E2.out]; rfl, B5.out, fun h => ?_⟩
            rw [E2.out] at h ⊢
            exact ⟨F, HB5.out h, O5.out⟩
    · have hX := HX.out.trans (if_neg hm)
      have E' := Lib.hid hX; clear hX
      go_wp2
      go_ret
      exact ⟨by rw [E'.out]; rfl, BW2.out, fun h => absurd (by rw [← h, E'.out]) hm⟩
end Go.Proofs.Ytjalhcfphhdcbaa
