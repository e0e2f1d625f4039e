/- The document's side: a step. -/
import Derived.Test.YtjalhcfphhdcbaaStrI
set_option linter.unusedVariables false
set_option linter.unusedSimpArgs false
namespace Go.Proofs.Ytjalhcfphhdcbaa
open Go.RowKit

theorem results_cell_tmp3_row {P : Program} {fn : Func} {p u v x : Tmp} {ty : TypeId} (h : fn.results = #[.cell p ty, .tmp u, .tmp v, .tmp x]) (tmps : Array Value) (w : World) (g : Nat) (t : TypeId) (cs : Array Value) (fr : Nat × Nat) (d : TypeDesc)
    (hp : tmps.getD p undef = .pointer (some ⟨g, 0, none⟩)) (hg : w.heap[g]? = some (.cells cs t fr))
    (hu : P.underlying ty = some d) (hd : (match d with | .struct _ | .array _ _ => true | _ => false) = true) (hi : (P.info? ty).map (·.size) = some cs.size) :
    (results fn tmps).run P w = .ok (.tuple #[.agg cs, tmps.getD u undef, tmps.getD v undef, tmps.getD x undef]) w := by
  have hl := run_loadVar_row (P := P) w g t ty cs fr d hg hu hd hi
  simp only [results, h]
  simp only [Array.getD_eq_getD_getElem?] at hp
  simp [Sem.run_bind, Result.andThen, hp, asAddr, hl]

def pairV (p0 p1 : Int) (kn : Bool) : Value := .agg #[.int .u64 p0, .int .u64 p1, .bool kn]

set_option maxRecDepth 100000 in
theorem refstep_end (A : Option Addr) (n c : Nat) (s f p0 p1 : Int) (kn : Bool) (w : World) (h : p0 = NN ∨ p0 < f) :
    Calls Try.prog 48 #[.slice A n c, .int .i64 s, pairV p0 p1 kn, .int .u64 f] w fun e w' =>
      e = .returned (.tuple #[pairV p0 p1 kn, .bool false, .bool true, .int .i64 0]) ∧ Below w.heap.size w w' := by
  unfold pairV
  have b2 : Below w.heap.size w ((w.alloc (.cells #[.int .u64 p0, .int .u64 p1, .bool kn] 94)).alloc (.cells #[.int .u64 p0, .int .u64 p1, .bool kn] 94)) := ((Below.refl _ _).alloc (Nat.le_refl _) _).alloc (by simp) _
  have r2 : Blk ((w.alloc (.cells #[.int .u64 p0, .int .u64 p1, .bool kn] 94)).alloc (.cells #[.int .u64 p0, .int .u64 p1, .bool kn] 94)) (w.heap.size + 1) #[.int .u64 p0, .int .u64 p1, .bool kn] 94 := Blk.newAt (w.alloc _) _ _ _ (by simp)
  have B2 := Lib.hid b2; have R2 := Lib.hid r2; clear b2 r2
  by_cases h0 : p0 = NN
  · have h0' : (p0 == 18446744073709551615) = true := by simp only [beq_iff_eq]; exact h0
    clear h h0
    go_enter Try.func48, Try.ntmps48
    go_wp2
    refine bodyPost_ret (results_cell_tmp3_row rfl _ _ (w.heap.size + 1) 94 _ (0, 0) _ rfl R2.out Try.underlying94 rfl (by kernel_rfl)) rfl ?_
    exact ⟨rfl, B2.out⟩
  · have h0' : (p0 == 18446744073709551615) = false := by simp only [beq_eq_false_iff_ne, ne_eq]; exact h0
    have hlt := h.resolve_left h0
    clear h h0
    go_enter Try.func48, Try.ntmps48
    go_wp2
    refine bodyPost_ret (results_cell_tmp3_row rfl _ _ (w.heap.size + 1) 94 _ (0, 0) _ rfl R2.out Try.underlying94 rfl (by kernel_rfl)) rfl ?_
    exact ⟨rfl, B2.out⟩

/-- What a step of the document's tells. -/
def RStep (w : World) (t : Int × PS × Bool) (e : Ending) (w' : World) : Prop :=
  ∃ r : PS × Bool, e = .returned (.tuple #[pairV r.1.p0 r.1.p1 r.1.kn, .bool r.2, .bool false, .int .i64 t.1]) ∧ Below w.heap.size w w' ∧ (t.1 = 0 → t = (0, r))
theorem RStep.mk' {w : World} {t : Int × PS × Bool} {e : Ending} {w' : World} (h : ∃ r : PS × Bool, e = .returned (.tuple #[pairV r.1.p0 r.1.p1 r.1.kn, .bool r.2, .bool false, .int .i64 t.1]) ∧ Below w.heap.size w w' ∧ (t.1 = 0 → t = (0, r))) : RStep w t e w' := h

set_option maxRecDepth 100000 in
set_option maxHeartbeats 2000000 in
theorem refstep_go (A : Option Addr) (n c : Nat) (vs : List Sl) (s f p0 p1 : Int) (kn : Bool) (w : World) (hv : RdV w A n vs) (hs : SmallV vs) (hf0 : 0 ≤ f) (hne : ¬ p0 = NN) (hfp : f ≤ p0) :
    Calls Try.prog 48 #[.slice A n c, .int .i64 s, pairV p0 p1 kn, .int .u64 f] w fun e w' =>
      RStep w (stepP s f vs ⟨p0, p1, kn⟩) e w' := by
  unfold pairV
  have hlen := hv.len
  have hn100 : n ≤ 100 := by have := hs.1; omega
  have hwn : IntKind.u64.wrap (n : Int) = n := by rw [IntKind.wrap_u64]; omega
  have h0' : (p0 == 18446744073709551615) = false := by simp only [beq_eq_false_iff_ne, ne_eq]; exact hne
  have b2 : Below w.heap.size w ((w.alloc (.cells #[.int .u64 p0, .int .u64 p1, .bool kn] 94)).alloc (.cells #[.int .u64 0, .int .u64 0, .bool false] 94)) := ((Below.refl _ _).alloc (Nat.le_refl _) _).alloc (by simp) _
  have p2 : Blk ((w.alloc (.cells #[.int .u64 p0, .int .u64 p1, .bool kn] 94)).alloc (.cells #[.int .u64 0, .int .u64 0, .bool false] 94)) w.heap.size #[.int .u64 p0, .int .u64 p1, .bool kn] 94 := (Blk.new w _ _).alloc _
  have r2 : Blk ((w.alloc (.cells #[.int .u64 p0, .int .u64 p1, .bool kn] 94)).alloc (.cells #[.int .u64 0, .int .u64 0, .bool false] 94)) (w.heap.size + 1) #[.int .u64 0, .int .u64 0, .bool false] 94 := Blk.newAt (w.alloc _) _ _ _ (by simp)
  by_cases hpn : (n : Int) ≤ p0
  · have E : stepP s f vs ⟨p0, p1, kn⟩ = (151, ⟨p0, p1, kn⟩, false) := by unfold stepP; dsimp only; rw [if_pos (by omega)]
    have E' := Lib.hid E; clear E
    have b2' : Below w.heap.size w ((w.alloc (.cells #[.int .u64 p0, .int .u64 p1, .bool kn] 94)).alloc (.cells #[.int .u64 p0, .int .u64 p1, .bool kn] 94)) := ((Below.refl _ _).alloc (Nat.le_refl _) _).alloc (by simp) _
    have r2' : Blk ((w.alloc (.cells #[.int .u64 p0, .int .u64 p1, .bool kn] 94)).alloc (.cells #[.int .u64 p0, .int .u64 p1, .bool kn] 94)) (w.heap.size + 1) #[.int .u64 p0, .int .u64 p1, .bool kn] 94 := Blk.newAt (w.alloc _) _ _ _ (by simp)
    have B2 := Lib.hid b2'; have R2 := Lib.hid r2'; clear b2 r2 p2 b2' r2' hv hs hne
    go_enter Try.func48, Try.ntmps48
    go_wp2
    refine bodyPost_ret (results_cell_tmp3_row rfl _ _ (w.heap.size + 1) 94 _ (0, 0) _ rfl R2.out Try.underlying94 rfl (by kernel_rfl)) rfl ?_
    exact RStep.mk' ⟨(⟨p0, p1, kn⟩, false), by rw [E'.out]; rfl, B2.out, fun h => by rw [E'.out] at h; simp at h⟩
  · obtain ⟨a, rfl⟩ : ∃ a : Nat, p0 = a := ⟨p0.toNat, by omega⟩
    have hak : a < vs.length := by omega
    obtain ⟨b, off, rfl, hc⟩ := hv.at' (by omega)
    have hsm := hs.2 vs[a] (List.getElem_mem hak)
    have hsl := hc a hak
    have hX := stepP_at s f vs a p1 kn hak
    have HX := Lib.hid hX; clear hX hc
    generalize vs[a] = x at *
    obtain ⟨st', kind, nd, bs⟩ := x
    obtain ⟨dA, dc, A', n', c', e0, e1, e2, e3, hrb⟩ := hsl
    dsimp only at e0 e1 e2 e3 hrb hsm
    have hn' : n' ≤ 100 := by rw [← hrb.len]; exact hsm
    have han : (a : Int) < n := by omega
    have hbw : b < w.heap.size := World.block_lt_of_cell? w _ e0
    have HV := Lib.hid hv; have HS := Lib.hid hs; have HRB := Lib.hid hrb; have B2 := Lib.hid b2; have R2 := Lib.hid r2; have P2 := Lib.hid p2
    clear hv hs hrb b2 r2 p2 hne
    go_enter Try.func48, Try.ntmps48
    go_wp2_with fail
    refine (what_any st' kind _ _ _).mono ?_
    rintro e w2 ⟨rfl, hb2⟩
    have BW2 := Lib.hid (B2.out.trans (hb2.mono (by simp; omega)))
    have R3 := Lib.hid (R2.out.below hb2)
    have P3 := Lib.hid (P2.out.below hb2)
    clear hb2
    have c0 := (BW2.out.cell (p := ⟨b, off + a * 4, none⟩) hbw).trans e0
    have c1 := (BW2.out.cell (p := ⟨b, off + a * 4 + 1, none⟩) hbw).trans e1
    have c2 := (BW2.out.cell (p := ⟨b, off + a * 4 + 2, none⟩) hbw).trans e2
    have c3 := (BW2.out.cell (p := ⟨b, off + a * 4 + 3, none⟩) hbw).trans e3
    have g0 := P3.out.cell 0; have g1 := P3.out.cell 1; have g2 := P3.out.cell 2
    have r0 := R3.out.cell 0; have r1 := R3.out.cell 1; have r2 := R3.out.cell 2
    have rf0 := R3.out.fr 0; have rf1 := R3.out.fr 1; have rf2 := R3.out.fr 2
    simp at g0 g1 g2 r0 r1 r2
    have hgl := P3.out.lt; have hrl := R3.out.lt
    have hz2 := BW2.out.size
    by_cases hm : missE st' = 0
    · have hX := HX.out.trans (if_pos hm)
      have HX' := Lib.hid hX; clear hX
      rw [hm]
      have hbk := back_any st' kind dA nd dc A' n' c' bs s w2 (HRB.out.below BW2.out) hn'
      have HBK := Lib.hid hbk; clear hbk
      go_wp2_with fail
      refine HBK.out.mono ?_
      rintro e w3 ⟨x1, x2, rfl, hq, hb3⟩
      have BW3 := Lib.hid (BW2.out.trans (hb3.mono hz2))
      have R4 := Lib.hid (R3.out.below hb3)
      have P4 := Lib.hid (P3.out.below hb3)
      clear hb3
      have g0 := P4.out.cell 0; have g1 := P4.out.cell 1; have g2 := P4.out.cell 2
      have r0 := R4.out.cell 0; have r1 := R4.out.cell 1; have r2 := R4.out.cell 2
      have rf0 := R4.out.fr 0; have rf1 := R4.out.fr 1; have rf2 := R4.out.fr 2
      simp at g0 g1 g2 r0 r1 r2
      have hgl := P4.out.lt; have hrl := R4.out.lt
      have hz3 := BW3.out.size
      generalize ofS s ⟨st', kind, nd, bs⟩ = q at *
      obtain ⟨⟨y1, y2⟩, is⟩ := q
      cases is with
      | true =>
        have hq1 := hq rfl
        simp only [Prod.mk.injEq] at hq1
        obtain ⟨rfl, rfl⟩ := hq1
        have E1 := Lib.hid (HX'.out.trans (if_pos rfl))
        clear hq
        by_cases hx : y1 = NN ∨ y1 < a
        · have E2 := Lib.hid (E1.out.trans (if_pos hx))
          by_cases hxn : y1 = NN
          · have hxb : (y1 != 18446744073709551615) = false := by simp only [bne_eq_false_iff_eq]; exact hxn
            clear hx hxn
            go_wp2
            refine bodyPost_ret (results_cell_tmp3_row rfl _ _ (w.heap.size + 1) 94 _ (0, 0) _ rfl ((((R4.out.set 0 _).set 1 _).set 2 _).alloc _) Try.underlying94 rfl (by kernel_rfl)) rfl ?_
            exact RStep.mk' ⟨(⟨y1, y2, true⟩, true), by rw [E2.out]; rfl, (below_far (below_far (below_far BW3.out (by simp) _) (by simp) _) (by simp) _).alloc (by simpa [World.setCell] using hz3) _, fun _ => E2.out⟩
          · have hxb : (y1 != 18446744073709551615) = true := by simp only [bne_iff_ne, ne_eq]; exact hxn
            have hxl : y1 < a := hx.resolve_left hxn
            have hd : decide ((a : Int) ≤ y1) = false := decide_eq_false (by omega)
            clear hx hxn
            go_wp2
            refine bodyPost_ret (results_cell_tmp3_row rfl _ _ (w.heap.size + 1) 94 _ (0, 0) _ rfl ((((R4.out.set 0 _).set 1 _).set 2 _).alloc _) Try.underlying94 rfl (by kernel_rfl)) rfl ?_
            exact RStep.mk' ⟨(⟨y1, y2, true⟩, true), by rw [E2.out]; rfl, (below_far (below_far (below_far BW3.out (by simp) _) (by simp) _) (by simp) _).alloc (by simpa [World.setCell] using hz3) _, fun _ => E2.out⟩
        · have E2 := Lib.hid (E1.out.trans (if_neg hx))
          have hxn : ¬ y1 = NN := fun h => hx (.inl h)
          have hxb : (y1 != 18446744073709551615) = true := by simp only [bne_iff_ne, ne_eq]; exact hxn
          have hxl : (a : Int) ≤ y1 := Int.not_lt.1 fun h => hx (.inr h)
          have hd : decide ((a : Int) ≤ y1) = true := decide_eq_true hxl
          clear hx hxn
          go_wp2
          refine bodyPost_ret (results_cell_tmp3_row rfl _ _ (w.heap.size + 1) 94 _ (0, 0) _ rfl ((((R4.out.set 0 _).set 1 _).set 2 _).alloc _) Try.underlying94 rfl (by kernel_rfl)) rfl ?_
          exact RStep.mk' ⟨(⟨a, p1, kn⟩, false), by rw [E2.out]; rfl, (below_far (below_far (below_far BW3.out (by simp) _) (by simp) _) (by simp) _).alloc (by simpa [World.setCell] using hz3) _, fun h => by rw [E2.out] at h; simp at h⟩
      | false =>
        have E1 := Lib.hid (HX'.out.trans (if_neg (by simp)))
        clear hq
        cases kn with
        | true =>
          have E1' := Lib.hid (E1.out.trans (if_pos rfl))
          by_cases hx : p1 = NN ∨ p1 < a
          · have E2 := Lib.hid (E1'.out.trans (if_pos hx))
            by_cases hxn : p1 = NN
            · have hxb : (p1 != 18446744073709551615) = false := by simp only [bne_eq_false_iff_eq]; exact hxn
              clear hx hxn
              go_wp2
              refine bodyPost_ret (results_cell_tmp3_row rfl _ _ (w.heap.size + 1) 94 _ (0, 0) _ rfl ((((R4.out.set 0 _).set 1 _).set 2 _).alloc _) Try.underlying94 rfl (by kernel_rfl)) rfl ?_
              exact RStep.mk' ⟨(⟨p1, 0, false⟩, false), by rw [E2.out]; rfl, (below_far (below_far (below_far BW3.out (by simp) _) (by simp) _) (by simp) _).alloc (by simpa [World.setCell] using hz3) _, fun _ => E2.out⟩
            · have hxb : (p1 != 18446744073709551615) = true := by simp only [bne_iff_ne, ne_eq]; exact hxn
              have hxl : p1 < a := hx.resolve_left hxn
              have hd : decide ((a : Int) ≤ p1) = false := decide_eq_false (by omega)
              clear hx hxn
              go_wp2
              refine bodyPost_ret (results_cell_tmp3_row rfl _ _ (w.heap.size + 1) 94 _ (0, 0) _ rfl ((((R4.out.set 0 _).set 1 _).set 2 _).alloc _) Try.underlying94 rfl (by kernel_rfl)) rfl ?_
              exact RStep.mk' ⟨(⟨p1, 0, false⟩, false), by rw [E2.out]; rfl, (below_far (below_far (below_far BW3.out (by simp) _) (by simp) _) (by simp) _).alloc (by simpa [World.setCell] using hz3) _, fun _ => E2.out⟩
          · have E2 := Lib.hid (E1'.out.trans (if_neg hx))
            have hxn : ¬ p1 = NN := fun h => hx (.inl h)
            have hxb : (p1 != 18446744073709551615) = true := by simp only [bne_iff_ne, ne_eq]; exact hxn
            have hxl : (a : Int) ≤ p1 := Int.not_lt.1 fun h => hx (.inr h)
            have hd : decide ((a : Int) ≤ p1) = true := decide_eq_true hxl
            clear hx hxn
            go_wp2
            refine bodyPost_ret (results_cell_tmp3_row rfl _ _ (w.heap.size + 1) 94 _ (0, 0) _ rfl ((((R4.out.set 0 _).set 1 _).set 2 _).alloc _) Try.underlying94 rfl (by kernel_rfl)) rfl ?_
            exact RStep.mk' ⟨(⟨a, p1, true⟩, false), by rw [E2.out]; rfl, (below_far (below_far (below_far BW3.out (by simp) _) (by simp) _) (by simp) _).alloc (by simpa [World.setCell] using hz3) _, fun h => by rw [E2.out] at h; simp at h⟩
        | false =>
          have E2 := Lib.hid (E1.out.trans (if_neg (by simp)))
          have R5 := Lib.hid (R4.out.alloc (.cells #[.int .u64 x1, .int .u64 x2] 29))
          have P5 := Lib.hid (P4.out.alloc (.cells #[.int .u64 x1, .int .u64 x2] 29))
          have BW5 := Lib.hid (BW3.out.alloc hz3 (.cells #[.int .u64 x1, .int .u64 x2] 29))
          go_wp2
          go_loopw [15] (fun i wr => ∃ k : Nat, k ≤ a ∧ i = .int .u64 k ∧ Below w.heap.size w wr ∧ Hid (Blk wr (w.heap.size + 1) #[.int .u64 0, .int .u64 0, .bool false] 94) ∧ Hid (Blk wr w.heap.size #[.int .u64 a, .int .u64 p1, .bool false] 94) ∧ Hid (srch s f vs a = srch s f vs k)) (fun i _ => (intOf i).toNat)
          case atStart => exact ⟨a, Nat.le_refl _, rfl, BW5.out, R5, P5, Lib.hid rfl⟩
          case round =>
            obtain ⟨k, hk, rfl, hb, hr, hp, hq⟩ := hrel
            clear g0 g1 g2 r0 r1 r2 rf0 rf1 rf2 hgl hrl c0 c1 c2 c3
            have g0 := hp.out.cell 0; have g1 := hp.out.cell 1; have g2 := hp.out.cell 2
            have r0 := hr.out.cell 0; have r1 := hr.out.cell 1; have r2 := hr.out.cell 2
            have rf0 := hr.out.fr 0; have rf1 := hr.out.fr 1; have rf2 := hr.out.fr 2
            simp at g0 g1 g2 r0 r1 r2
            have hgl := hp.out.lt; have hrl := hr.out.lt
            have hzr := hb.size
            by_cases hf : f < k
            · cases k with
              | zero => exfalso; simp at hf; omega
              | succ j =>
                have hjk : j < vs.length := by omega
                obtain ⟨b', off', hbe, hc⟩ := HV.out.at' (by omega)
                cases hbe
                have hsm := HS.out.2 vs[j] (List.getElem_mem hjk)
                have hsl := hc j hjk
                have hst : srch s f vs (j + 1) = if missE vs[j].st = 0 then (if (ofS s vs[j]).2 = true then (0, (j : Int)) else srch s f vs j) else (missE vs[j].st, 0) := by
                  have hgd : vs.getD j default = vs[j] := by simp [List.getD_eq_getElem?_getD, hjk]
                  show (if f < (j : Int) + 1 then _ else _) = _
                  rw [if_pos (by omega), hgd]
                have HXj := Lib.hid hst; clear hst hc
                generalize vs[j] = xx at *
                obtain ⟨st2, kind2, nd2, bs2⟩ := xx
                obtain ⟨dA2, dc2, A2, n2, cc2, e0, e1, e2, e3, hrb2⟩ := hsl
                dsimp only at e0 e1 e2 e3 hrb2 hsm
                have hn2 : n2 ≤ 100 := by rw [← hrb2.len]; exact hsm
                have hsub : IntKind.u64.wrap (((j + 1 : Nat) : Int) - 1) = j := by rw [IntKind.wrap_u64]; omega
                have hjn : (j : Int) < n := by omega
                have d0 := (hb.cell (p := ⟨b, off + j * 4, none⟩) hbw).trans e0
                have d1 := (hb.cell (p := ⟨b, off + j * 4 + 1, none⟩) hbw).trans e1
                have d2 := (hb.cell (p := ⟨b, off + j * 4 + 2, none⟩) hbw).trans e2
                have d3 := (hb.cell (p := ⟨b, off + j * 4 + 3, none⟩) hbw).trans e3
                have HBw := Lib.hid hb; have HRB2 := Lib.hid hrb2; clear hb hrb2
                go_wp2_with fail
                refine (what_any st2 kind2 _ _ _).mono ?_
                rintro e w6 ⟨rfl, hb6⟩
                have B6 := Lib.hid (HBw.out.trans (hb6.mono hzr))
                have R6 := Lib.hid (hr.out.below hb6)
                have P6 := Lib.hid (hp.out.below hb6)
                clear hb6 d0 d1 d2 d3 g0 g1 g2 r0 r1 r2 rf0 rf1 rf2 hgl hrl
                have d0 := (B6.out.cell (p := ⟨b, off + j * 4, none⟩) hbw).trans e0
                have d1 := (B6.out.cell (p := ⟨b, off + j * 4 + 1, none⟩) hbw).trans e1
                have d2 := (B6.out.cell (p := ⟨b, off + j * 4 + 2, none⟩) hbw).trans e2
                have d3 := (B6.out.cell (p := ⟨b, off + j * 4 + 3, none⟩) hbw).trans e3
                have g0 := P6.out.cell 0; have g1 := P6.out.cell 1; have g2 := P6.out.cell 2
                have r0 := R6.out.cell 0; have r1 := R6.out.cell 1; have r2 := R6.out.cell 2
                have rf0 := R6.out.fr 0; have rf1 := R6.out.fr 1; have rf2 := R6.out.fr 2
                simp at g0 g1 g2 r0 r1 r2
                have hgl := P6.out.lt; have hrl := R6.out.lt
                have hz6 := B6.out.size
                by_cases hm2 : missE st2 = 0
                · have HXj' := Lib.hid (HXj.out.trans (if_pos hm2))
                  rw [hm2]
                  have hbk2 := back_any st2 kind2 dA2 nd2 dc2 A2 n2 cc2 bs2 s w6 (HRB2.out.below B6.out) hn2
                  have HBK2 := Lib.hid hbk2; clear hbk2
                  go_wp2_with fail
                  refine HBK2.out.mono ?_
                  rintro e w7 ⟨z1, z2, rfl, -, hb7⟩
                  have B7 := Lib.hid (B6.out.trans (hb7.mono hz6))
                  have R7 := Lib.hid (R6.out.below hb7)
                  have P7 := Lib.hid (P6.out.below hb7)
                  clear hb7 d0 d1 d2 d3 g0 g1 g2 r0 r1 r2 rf0 rf1 rf2 hgl hrl
                  have r0 := R7.out.cell 0; have r1 := R7.out.cell 1; have r2 := R7.out.cell 2
                  have rf0 := R7.out.fr 0; have rf1 := R7.out.fr 1; have rf2 := R7.out.fr 2
                  simp at r0 r1 r2
                  have hrl := R7.out.lt
                  have hz7 := B7.out.size
                  generalize (ofS s ⟨st2, kind2, nd2, bs2⟩).2 = is2 at *
                  cases is2 with
                  | true =>
                    have E3 := Lib.hid (hq.out.trans (HXj'.out.trans (if_pos rfl)))
                    go_wp2
                    refine bodyPost_ret (results_cell_tmp3_row rfl _ _ (w.heap.size + 1) 94 _ (0, 0) _ rfl ((((R7.out.set 0 _).set 1 _).set 2 _).alloc _) Try.underlying94 rfl (by kernel_rfl)) rfl ?_
                    exact RStep.mk' ⟨(⟨j, 0, false⟩, false), by rw [E2.out, E3.out]; rfl, (below_far (below_far (below_far B7.out (by simp) _) (by simp) _) (by simp) _).alloc (by simpa [World.setCell] using hz7) _, fun _ => by rw [E2.out, E3.out]⟩
                  | false =>
                    have E3 := Lib.hid (hq.out.trans (HXj'.out.trans (if_neg (by simp))))
                    go_wp2
                    go_roundw
                    case rel => exact ⟨j, by omega, by go_num, B7.out.alloc hz7 _, Lib.hid (R7.out.alloc _), Lib.hid (P7.out.alloc _), E3⟩
                    case measure => first | (simp [intOf]; done) | (simp [intOf]; omega)
                · have E3 := Lib.hid (hq.out.trans (HXj.out.trans (if_neg hm2)))
                  go_wp2
                  refine bodyPost_ret (results_cell_tmp3_row rfl _ _ (w.heap.size + 1) 94 _ (0, 0) _ rfl (((R6.out.set 0 _).set 1 _).set 2 _) Try.underlying94 rfl (by kernel_rfl)) rfl ?_
                  exact RStep.mk' ⟨(⟨a, p1, false⟩, false), by rw [E2.out, E3.out]; rfl, below_far (below_far (below_far B6.out (by simp) _) (by simp) _) (by simp) _, fun h => absurd (by rw [← h, E2.out, E3.out]) hm2⟩
            · have E : srch s f vs k = (0, NN) := by
                cases k with
                | zero => rfl
                | succ j => show (if f < (j : Int) + 1 then _ else _) = _; rw [if_neg (by omega)]
              have E3 := Lib.hid (hq.out.trans E)
              have HBw := Lib.hid hb; clear E hb
              go_wp2
              refine bodyPost_ret (results_cell_tmp3_row rfl _ _ (w.heap.size + 1) 94 _ (0, 0) _ rfl (((hr.out.set 0 _).set 1 _).set 2 _) Try.underlying94 rfl (by kernel_rfl)) rfl ?_
              exact RStep.mk' ⟨(⟨NN, 0, false⟩, false), by rw [E2.out, E3.out]; rfl, below_far (below_far (below_far HBw.out (by simp) _) (by simp) _) (by simp) _, fun _ => by rw [E2.out, E3.out]⟩
    · have hX := HX.out.trans (if_neg hm)
      have E' := Lib.hid hX; clear hX
      go_wp2
      refine bodyPost_ret (results_cell_tmp3_row rfl _ _ (w.heap.size + 1) 94 _ (0, 0) _ rfl (((R3.out.set 0 _).set 1 _).set 2 _) Try.underlying94 rfl (by kernel_rfl)) rfl ?_
      exact RStep.mk' ⟨(⟨a, p1, kn⟩, false), by rw [E'.out]; rfl, below_far (below_far (below_far BW2.out (by simp) _) (by simp) _) (by simp) _, fun h => absurd (by rw [← h, E'.out]) hm⟩
end Go.Proofs.Ytjalhcfphhdcbaa
