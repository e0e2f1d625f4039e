/- The document's side: a walk. -/
import Derived.Test.YtjalhcfphhdcbaaStrJ
set_option linter.unusedVariables false
set_option linter.unusedSimpArgs false
namespace Go.Proofs.Ytjalhcfphhdcbaa
open Go.RowKit

set_option maxRecDepth 100000 in
set_option maxHeartbeats 1000000 in
theorem refwalk_any (A : Option Addr) (n c : Nat) (vs : List Sl) (s f p0 p1 : Int) (w : World) (hv : RdV w A n vs) (hs : SmallV vs) (hN : NatV vs) (hf0 : 0 ≤ f) (h0 : 0 ≤ p0) (h1 : 0 ≤ p1) :
    Calls Try.prog 37 #[.slice A n c, .int .i64 s, .agg #[.int .u64 p0, .int .u64 p1], .int .u64 f] w fun e w' =>
      ∃ v, e = .returned (.tuple #[v, .int .i64 ((walkP s f vs p0 p1).2.2 : Int), .int .i64 (walkP s f vs p0 p1).1]) ∧ RowU w' w.heap.size v (walkP s f vs p0 p1).2.1 ∧ Below w.heap.size w w' := by
  have hlen := hv.len
  have hn100 : n ≤ 100 := by have := hs.1; omega
  have b2 : Below w.heap.size w ((w.alloc (.cells #[.int .u64 p0, .int .u64 p1] 29)).alloc (.cells #[.int .u64 p0, .int .u64 p1, .bool true] 94)) := ((Below.refl _ _).alloc (Nat.le_refl _) _).alloc (by simp) _
  have r2 : Blk ((w.alloc (.cells #[.int .u64 p0, .int .u64 p1] 29)).alloc (.cells #[.int .u64 p0, .int .u64 p1, .bool true] 94)) (w.heap.size + 1) #[.int .u64 p0, .int .u64 p1, .bool true] 94 := Blk.newAt (w.alloc _) _ _ _ (by simp)
  have HV := Lib.hid hv; have HS := Lib.hid hs; have HN := Lib.hid hN; have B2 := Lib.hid b2; have R2 := Lib.hid r2; clear hv hs hN b2 r2
  have hP : ∃ T, T = walkF s f vs (n + 2) ⟨p0, p1, true⟩ [] 0 := ⟨_, rfl⟩
  obtain ⟨T, hT⟩ := hP
  have hWP : walkP s f vs p0 p1 = (T.1, T.2.1.reverse, T.2.2) := by unfold walkP; rw [hlen, hT]
  rw [hWP]
  have HT := Lib.hid hT; clear hT hWP
  go_enter Try.func37, Try.ntmps37
  go_wp2
  go_loopg [11, 13] (n + 2) (fun m o kv wr => ∃ (p : PS) (acc : List Nat) (k : Nat), kv = .int .i64 k ∧ Blk wr (w.heap.size + 1) #[.int .u64 p.p0, .int .u64 p.p1, .bool p.kn] 94 ∧ RowU wr w.heap.size o acc.reverse ∧ (acc = [] → o = .slice none 0 0) ∧ Below w.heap.size w wr ∧
    1 ≤ m ∧ (p.p0 = NN ∨ (n : Int) ≤ p.p0 ∨ p.p0 + 2 ≤ m) ∧ 0 ≤ p.p0 ∧ 0 ≤ p.p1 ∧ acc.length ≤ k ∧ k + m ≤ n + 2 ∧ Hid (T = walkF s f vs m p acc k))
  case atStart => exact ⟨⟨p0, p1, true⟩, [], 0, rfl, R2.out, RowU.nil _ _, fun _ => rfl, B2.out, by omega, by dsimp only; omega, h0, h1, Nat.le_refl _, by omega, HT⟩
  case round =>
    obtain ⟨p, acc, k, rfl, hb, hr, hnil, hbw, hm1, hm2, hp0, hp1, hac, hkm, hTT⟩ := hrel
    obtain ⟨q0, q1, kn⟩ := p
    dsimp only at hb hm2 hp0 hp1
    obtain ⟨m, rfl⟩ : ∃ m, gk = m + 1 := ⟨gk - 1, by omega⟩
    have c0 := hb.cell 0; have c1 := hb.cell 1; have c2 := hb.cell 2
    simp at c0 c1 c2
    have hgl := hb.lt
    have hzr := hbw.size
    have RB := Lib.hid hb; have RR := Lib.hid hr; have BW := Lib.hid hbw; have HNIL := Lib.hid hnil
    clear hb hr hbw hnil
    by_cases hc : q0 = NN ∨ q0 < f
    · have hE : T = (0, acc, k) := by rw [hTT.out]; unfold walkF; dsimp only; rw [if_pos hc]
      have hst := refstep_end A n c s f q0 q1 kn wr hc
      unfold pairV at hst
      have E := Lib.hid hE; have HST := Lib.hid hst
      clear hE hst hc
      go_wp2_with fail
      refine HST.out.mono ?_
      rintro e w3 ⟨rfl, hb3⟩
      have B3 := Lib.hid (BW.out.trans (hb3.mono hzr))
      have RR3 := Lib.hid (RR.out.below hb3)
      have hz3 := B3.out.size
      clear hb3
      go_wp2
      refine bodyPost_ret (results_tmp3 rfl _ _ _) rfl ?_
      exact ⟨_, by rw [E.out]; rfl, by rw [E.out]; exact RR3.out.alloc _, B3.out.alloc hz3 _⟩
    · have hn : ¬ q0 = NN := fun h => hc (.inl h)
      have hfq : f ≤ q0 := Int.not_lt.1 fun h => hc (.inr h)
      have hW : T = if (stepP s f vs ⟨q0, q1, kn⟩).1 = 0 then walkF s f vs m (stepP s f vs ⟨q0, q1, kn⟩).2.1 (addIf (stepP s f vs ⟨q0, q1, kn⟩).2.2 acc q0.toNat) (k + 1) else ((stepP s f vs ⟨q0, q1, kn⟩).1, [], 0) := by
        rw [hTT.out]
        conv => lhs; unfold walkF
        dsimp only
        rw [if_neg hc]
      have hst := refstep_go A n c vs s f q0 q1 kn wr (HV.out.below BW.out) HS.out hf0 hn hfq
      unfold pairV at hst
      have hpos := stepP_pos s f vs ⟨q0, q1, kn⟩ HN.out hp0 hp1
      have hal := addIf_le (stepP s f vs ⟨q0, q1, kn⟩).2.2 acc q0.toNat k hac
      dsimp only at hpos
      have HW := Lib.hid hW; have HST := Lib.hid hst; clear hW hst hTT hc
      generalize stepP s f vs ⟨q0, q1, kn⟩ = r at *
      obtain ⟨re, ⟨r0, r1, rk⟩, rh⟩ := r
      dsimp only at hpos hal
      go_wp2_with fail
      refine HST.out.mono ?_
      rintro e w3 ⟨⟨⟨x0, x1, xk⟩, xh⟩, rfl, hb3, hs3⟩
      unfold pairV
      dsimp only
      have B3 := Lib.hid (BW.out.trans (hb3.mono hzr))
      have RR3 := Lib.hid (RR.out.below hb3)
      have RB3 := Lib.hid (RB.out.below hb3)
      have hz3 := B3.out.size
      clear hb3
      by_cases hre : re = 0
      · subst hre
        have hs4 := hs3 rfl
        simp only [Prod.mk.injEq, PS.mk.injEq] at hs4
        obtain ⟨-, ⟨rfl, rfl, rfl⟩, rfl⟩ := hs4
        obtain ⟨p1', p2', p3', p4'⟩ := hpos rfl
        have HT' := Lib.hid (HW.out.trans (if_pos rfl))
        clear HW hs3
        have c0 := RB3.out.cell 0; have c1 := RB3.out.cell 1; have c2 := RB3.out.cell 2
        have f0 := RB3.out.fr 0; have f1 := RB3.out.fr 1; have f2 := RB3.out.fr 2
        simp at c0 c1 c2
        have hgl3 := RB3.out.lt
        have hk1000 : (k : Int) ≤ 1000 := by omega
        cases rh with
        | false =>
          go_wp2
          go_roundg m
          case measure => omega
          case rel =>
            exact ⟨⟨r0, r1, rk⟩, acc, k + 1, by go_num, (((RB3.out.set 0 _).set 1 _).set 2 _).alloc _, RowU.alloc (World.ownsRow.kept RR3.out (grownBy_st (grownBy_st (grownBy_set w3 (w.heap.size + 1) 0 _) 1 _) 2 _) (.inr (ownsRow_ne RR3.out RB3.out (by decide)).symm)) _, HNIL.out, (below_far (below_far (below_far B3.out (by simp) _) (by simp) _) (by simp) _).alloc (by simpa [World.setCell] using hz3) _, by omega, by dsimp only; omega, p1', p2', hal, by omega, HT'⟩
        | true =>
          have hq0n : (q0.toNat : Int) = q0 := by omega
          have hadd : addIf true acc q0.toNat = acc ++ [q0.toNat] := rfl
          rw [hadd] at HT' hal
          have hrev : U (acc ++ [q0.toNat]).reverse = [.int .u64 q0] ++ U acc.reverse := by simp [U, hq0n]
          have HREV := Lib.hid hrev; clear hrev hadd
          by_cases hac0 : acc = []
          · subst hac0
            have ho := HNIL.out rfl
            subst ho
            have R5 := Lib.hid ((RB3.out.alloc (.cells #[.int .u64 r0, .int .u64 r1, .bool rk] 94)).alloc (.cells #[.int .u64 q0] 23))
            have B5 := Lib.hid ((B3.out.alloc hz3 (.cells #[.int .u64 r0, .int .u64 r1, .bool rk] 94)).alloc (by simp; omega) (.cells #[.int .u64 q0] 23))
            have O5 : ((w3.alloc (.cells #[.int .u64 r0, .int .u64 r1, .bool rk] 94)).alloc (.cells #[.int .u64 q0] 23)).ownsRow w.heap.size 23 1 (.slice (some ⟨w3.heap.size + 1, 0, none⟩) 1 1) 1 [.int .u64 q0] :=
              ⟨rfl, .inr ⟨w3.heap.size + 1, 1, #[.int .u64 q0], rfl, by omega, Blk.newAt (w3.alloc _) _ _ _ (by simp), Nat.le_refl _, by unfold maxLen; omega, rfl, rfl⟩⟩
            have HO5 := Lib.hid O5; clear O5
            have k0 := R5.out.fr 0; have k1 := R5.out.fr 1; have k2 := R5.out.fr 2
            have j0 := R5.out.cell 0; have j1 := R5.out.cell 1; have j2 := R5.out.cell 2
            have hne5 : w.heap.size + 1 ≠ w3.heap.size + 1 := by omega
            have hne6 : w.heap.size + 1 ≠ w3.heap.size := by omega
            go_wp2
            go_roundg m
            case measure => omega
            case rel =>
              have O6 := World.ownsRow.kept HO5.out (grownBy_st (grownBy_st (grownBy_set _ (w.heap.size + 1) 0 (.int .u64 r0)) 1 (.int .u64 r1)) 2 (.bool rk)) (.inr (by simp [Value.ownBlock]; omega))
              refine ⟨⟨r0, r1, rk⟩, [] ++ [q0.toNat], k + 1, by go_num, ((R5.out.set 0 _).set 1 _).set 2 _, ?_, fun h => by simp at h, below_far (below_far (below_far B5.out (by simp) _) (by simp) _) (by simp) _, by omega, by dsimp only; omega, p1', p2', hal, by omega, HT'⟩
              unfold RowU
              rw [HREV.out]
              exact O6
          · obtain ⟨oa, oc, hof⟩ := RR3.out.form
            subst hof
            have hlr : 0 < acc.reverse.length := by rw [List.length_reverse]; exact List.length_pos_iff.2 hac0
            obtain ⟨og, rfl, hog, hoc⟩ := RR3.out.at' hlr
            have HOC := Lib.hid hoc; clear hoc
            have R5 := Lib.hid ((RB3.out.alloc (.cells #[.int .u64 r0, .int .u64 r1, .bool rk] 94)).alloc (.cells #[.int .u64 q0] 23))
            have B5 := Lib.hid ((B3.out.alloc hz3 (.cells #[.int .u64 r0, .int .u64 r1, .bool rk] 94)).alloc (by simp; omega) (.cells #[.int .u64 q0] 23))
            have O5 : ((w3.alloc (.cells #[.int .u64 r0, .int .u64 r1, .bool rk] 94)).alloc (.cells #[.int .u64 q0] 23)).ownsRow (w3.heap.size + 1) 23 1 (.slice (some ⟨w3.heap.size + 1, 0, none⟩) 1 1) 1 [.int .u64 q0] :=
              ⟨rfl, .inr ⟨w3.heap.size + 1, 1, #[.int .u64 q0], rfl, by omega, Blk.newAt (w3.alloc _) _ _ _ (by simp), Nat.le_refl _, by unfold maxLen; omega, rfl, rfl⟩⟩
            have HO5 := Lib.hid O5; clear O5
            have hlen1 : acc.reverse.length ≤ 1000 := by rw [List.length_reverse]; omega
            have hcells : ∀ j u, (U acc.reverse)[j]? = some u → ((w3.alloc (.cells #[.int .u64 r0, .int .u64 r1, .bool rk] 94)).alloc (.cells #[.int .u64 q0] 23)).cell? ((⟨og, 0, none⟩ : Addr).add j) = some u := by
              intro j u hu
              have hj : j < acc.reverse.length := by
                by_cases h : j < acc.reverse.length
                · exact h
                · rw [List.getElem?_eq_none (by simpa [U] using h)] at hu; simp at hu
              have hb5 := ((Below.refl w3.heap.size w3).alloc (Nat.le_refl _) (.cells #[.int .u64 r0, .int .u64 r1, .bool rk] 94)).alloc (by simp) (.cells #[.int .u64 q0] 23)
              have ha : (⟨og, 0, none⟩ : Addr).add j = ⟨og, j, none⟩ := by unfold Addr.add; split <;> simp_all
              have hU : (U acc.reverse)[j]? = some (.int .u64 (acc.reverse[j] : Nat)) := by
                unfold U
                rw [List.getElem?_map, List.getElem?_eq_getElem hj]
                rfl
              rw [ha, hb5.cell (p := ⟨og, j, none⟩) hog, HOC.out j hj, ← hU, hu]
            have HCE := Lib.hid hcells; clear hcells
            have hU1 : ∀ u ∈ U acc.reverse, u.oneCell' = true := by intro u hu; simp [U] at hu; obtain ⟨_, _, rfl⟩ := hu; rfl
            have HU1 := Lib.hid hU1; clear hU1
            have LP := Lib.hid ((Blk.new w3 #[.int .u64 r0, .int .u64 r1, .bool rk] 94).alloc (.cells #[.int .u64 q0] 23))
            go_wp2_with (at_builtin; refine list_app rfl (.tmp 42) (.tmp 43) 33 rfl (w3.heap.size + 1) 23 (.int .u64 0) 1 8 u64Info Try.underlying33 rfl (by omega) (.slice (some ⟨w3.heap.size + 1, 0, none⟩) 1 1) 1 _ rfl HO5.out ⟨og, 0, none⟩ acc.reverse.length oc (U acc.reverse) rfl ?_ HCE.out HU1.out ?_ ?_ ?_ ?_; (simp [U]); (unfold maxLen; omega); (omega); (simp); intro v4 w4 O4 G4; obtain ⟨va, vc, rfl⟩ := row_form O4; have HO4 := Lib.hid O4; have HG4 := Lib.hid G4; clear O4 G4; have R6 := Lib.hid (R5.out.grown HG4.out (by simp [Value.ownBlock]; omega)); have L6 := Lib.hid (LP.out.grown HG4.out (by simp [Value.ownBlock])); have l0 := L6.out.cell 0; have l1 := L6.out.cell 1; have l2 := L6.out.cell 2; have k0 := R6.out.fr 0; have k1 := R6.out.fr 1; have k2 := R6.out.fr 2; have j0 := R6.out.cell 0; have j1 := R6.out.cell 1; have j2 := R6.out.cell 2; simp at j0 j1 j2 l0 l1 l2; have hl6 := R6.out.lt)
            go_roundg m
            case measure => omega
            case rel =>
              have hne6 : (Value.slice va (1 + acc.reverse.length) vc).ownBlock ≠ some (w.heap.size + 1) := (ownsRow_ne HO4.out R6.out (by decide)).symm
              have B6 := B5.out.grown HG4.out (by simp; omega) (fun j hj => by simp [Value.ownBlock] at hj; omega)
              have O6 := World.ownsRow.kept (ownsRow_base HO4.out (base' := w.heap.size) (by omega)) (grownBy_st (grownBy_st (grownBy_set w4 (w.heap.size + 1) 0 (.int .u64 r0)) 1 (.int .u64 r1)) 2 (.bool rk)) (.inr hne6)
              refine ⟨⟨r0, r1, rk⟩, acc ++ [q0.toNat], k + 1, by go_num, ((R6.out.set 0 _).set 1 _).set 2 _, ?_, fun h => by simp at h, below_far (below_far (below_far B6 (by simp) _) (by simp) _) (by simp) _, by omega, by dsimp only; omega, p1', p2', hal, by omega, HT'⟩
              unfold RowU
              rw [HREV.out, show (acc ++ [q0.toNat]).reverse.length = 1 + acc.reverse.length by simp; omega]
              simp only [List.length_reverse] at O6 ⊢
              exact O6
      · have HT' := Lib.hid (HW.out.trans (if_neg hre))
        clear HW hs3 hpos
        go_wp2
        refine bodyPost_ret (results_tmp3 rfl _ _ _) rfl ?_
        exact ⟨_, by rw [HT'.out]; rfl, by rw [HT'.out]; exact RowU.nil _ _, B3.out.alloc hz3 _⟩

theorem refWalk_any (A : Option Addr) (n c : Nat) (vs : List Sl) (s f p0 p1 : Int) (w : World) (hv : RdV w A n vs) (hs : SmallV vs) (hN : NatV vs) (hf0 : 0 ≤ f) (h0 : 0 ≤ p0) (h1 : 0 ≤ p1) :
    Calls Try.prog 20 #[.slice A n c, .int .i64 s, .agg #[.int .u64 p0, .int .u64 p1], .int .u64 f] w fun e w' =>
      ∃ v, e = .returned (.tuple #[v, .int .i64 (walkP s f vs p0 p1).1]) ∧ RowU w' w.heap.size v (walkP s f vs p0 p1).2.1 ∧ Below w.heap.size w w' := by
  have b1 : Below w.heap.size w (w.alloc (.cells #[.int .u64 p0, .int .u64 p1] 29)) := (Below.refl _ _).alloc (Nat.le_refl _) _
  have hw := refwalk_any A n c vs s f p0 p1 _ (hv.below b1) hs hN hf0 h0 h1
  have HW := Lib.hid hw; have B1 := Lib.hid b1; clear hw b1 hv hs hN
  go_enter Try.func20, Try.ntmps20
  go_wp2_with fail
  refine HW.out.mono ?_
  rintro e w2 ⟨v, rfl, hr, hb2⟩
  have B2 := Lib.hid (B1.out.trans (hb2.mono (by simp)))
  have HR := Lib.hid (hr.lo (lo' := w.heap.size) (by simp))
  clear hb2 hr
  go_wp2
  go_ret2
  exact ⟨v, rfl, HR.out, B2.out⟩

theorem refSteps_any (A : Option Addr) (n c : Nat) (vs : List Sl) (s f p0 p1 : Int) (w : World) (hv : RdV w A n vs) (hs : SmallV vs) (hN : NatV vs) (hf0 : 0 ≤ f) (h0 : 0 ≤ p0) (h1 : 0 ≤ p1) :
    Calls Try.prog 22 #[.slice A n c, .int .i64 s, .agg #[.int .u64 p0, .int .u64 p1], .int .u64 f] w fun e w' =>
      e = .returned (.int .i64 ((walkP s f vs p0 p1).2.2 : Int)) ∧ Below w.heap.size w w' := by
  have b1 : Below w.heap.size w (w.alloc (.cells #[.int .u64 p0, .int .u64 p1] 29)) := (Below.refl _ _).alloc (Nat.le_refl _) _
  have hw := refwalk_any A n c vs s f p0 p1 _ (hv.below b1) hs hN hf0 h0 h1
  have HW := Lib.hid hw; have B1 := Lib.hid b1; clear hw b1 hv hs hN
  go_enter Try.func22, Try.ntmps22
  go_wp2_with fail
  refine HW.out.mono ?_
  rintro e w2 ⟨v, rfl, hr, hb2⟩
  have B2 := Lib.hid (B1.out.trans (hb2.mono (by simp)))
  clear hb2 hr
  go_wp2
  go_ret
  exact ⟨rfl, B2.out⟩

/-- On an error nothing was found, in no steps. -/
theorem walkF_err (s f : Int) (vs : List Sl) : ∀ (m : Nat) (p : PS) (acc : List Nat) (k : Nat), (walkF s f vs m p acc k).1 ≠ 0 → (walkF s f vs m p acc k).2 = ([], 0)
  | 0, p, acc, k, h => absurd rfl h
  | m + 1, p, acc, k, h => by
    unfold walkF at h ⊢
    by_cases h1 : p.p0 = NN ∨ p.p0 < f
    · rw [if_pos h1] at h; exact absurd rfl h
    · rw [if_neg h1] at h ⊢
      by_cases h2 : (stepP s f vs p).1 = 0
      · rw [if_pos h2] at h ⊢
        exact walkF_err s f vs m _ _ _ h
      · rw [if_neg h2]
theorem walkP_err (s f : Int) (vs : List Sl) (p0 p1 : Int) (h : (walkP s f vs p0 p1).1 ≠ 0) : (walkP s f vs p0 p1).2 = ([], 0) := by
  unfold walkP at h ⊢
  have := walkF_err s f vs _ _ _ _ h
  simp only [this]
  rfl
end Go.Proofs.Ytjalhcfphhdcbaa
