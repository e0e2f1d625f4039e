/- The document's tape: Step, Commit, Open. -/
import Derived.Test.YtlgimhhhlpmjcaaTapMb
import Derived.Deep.LoopGhost
set_option linter.unusedVariables false
set_option linter.unusedSimpArgs false
namespace Go.Proofs.Ytlgimhhhlpmjcaa
open Go.RowKit Go.Maps Go.WideMaps Go.Shelf

/-- append(own, l...) in a region that draws. -/
theorem step_app_vsg {ops : Array Oper} {o : Oper} {a : Act} {w : World} {K : Act → World → Prop} {Q : Exit → Act → World → Prop} {E : Prop} (hgd : o.guard = none) (s x : Operand)
    (ho : o.op = .call { callee := .builtin .append, args := #[s, x], argTypes := #[22, 22] })
    (base : Nat) (v : Value) (k : Nat) (us : List Value) (hs : a.eval s = v) (hown : w.ownsRow base 31 1 v k us) (hk : k = us.length) (A : Option Addr) (n c : Nat) (vs : List Value) (hx : a.eval x = .slice A n c) (hl : vs.length = n)
    (hc : 0 < n → ∃ ad, A = some ad ∧ ∀ j u, vs[j]? = some u → w.cell? (ad.add j) = some u) (h1 : ∀ u ∈ vs, u.oneCell' = true) (hn : k + n ≤ 1000000) (hb : base ≤ w.heap.size)
    (h : ∀ v' w', w'.ownsRow base 31 1 v' (k + n) (us ++ vs) → w.grownBy w' v.ownBlock → K (a.put o.dst v') w') : if Region.wanted o (yielded ops a.tmps) = true then Oper.wp Try.prog o a w K Q else E := by
  rw [if_pos (by simp [Region.wanted, hgd])]
  have ht := Try.underlying22
  obtain ⟨v', w', hrun, h2, h3⟩ : ∃ v' w', (Builtin.append_ #[22, 22] o.type #[v, .slice A n c]).run Try.prog w = .ok v' w' ∧ w'.ownsRow base 31 1 v' (k + n) (us ++ vs) ∧ w.grownBy w' v.ownBlock := by
    by_cases hn0 : 0 < n
    · obtain ⟨ad, rfl, hcell⟩ := hc hn0
      obtain ⟨v', w', hr, h2, h3, h4⟩ := run_app2 (P := Try.prog) 22 o.type ht (.slice none 0 0) 24 bbInfo rfl hown ad n c vs hl hcell h1 hn0 (by unfold maxLen; omega) (by omega) hb
      exact ⟨v', w', hr, h2, h3⟩
    · have : n = 0 := by omega
      subst this
      have hvs : vs = [] := List.eq_nil_of_length_eq_zero hl
      subst hvs
      obtain ⟨i, hi, hzz⟩ := Option.map_eq_some_iff.1 bbInfo
      have hsrc : Src Try.prog i.size 22 (.slice A 0 c) 0 [] w := by
        cases A with
        | none => exact Src.ofNil w ht c
        | some ad => exact Src.ofSlice w ht ad 0 c [] (by simp) (fun j u h => by simp at h) (fun u h => by cases h)
      rw [List.append_nil, Nat.add_zero]
      rcases hown.2 with ⟨rfl, h0⟩ | ⟨g, cap, cur, rfl, e2, e3, e4, e5⟩
      · subst h0
        exact ⟨_, w, run_append_nothing (P := Try.prog) w _ _ o.type 31 i ht hi none 0 0 (Nat.le_refl _) _ hsrc, hown, World.grownBy.refl w _⟩
      · exact ⟨_, w, run_append_nothing (P := Try.prog) w _ _ o.type 31 i ht hi (some ⟨g, 0, none⟩) k cap e4 _ hsrc, hown, World.grownBy.refl w _⟩
  unfold Oper.wp execOp
  simp only [ho, resolve, invoke, builtin, Sem.run_bind, Sem.run_pure, Result.andThen_ok, List.map_toArray, List.map_cons, List.map_nil, hs, hx, hrun]
  exact h v' w' h2 h3
/-- Two lists, in a row of the call's own. -/
theorem RdBX.cat {w : World} {X : Nat → Prop} {L M : List Bs} {vs us : List Value} {a cc N : Nat} {aa : Option Addr} (hl : vs.length = L.length) (hm : us.length = M.length)
    (hvs : ∀ i (hi : i < L.length), ∃ A' c, vs[i]? = some (.slice A' L[i].length c) ∧ RdU8 w A' L[i].length L[i] ∧ ∀ p : Addr, A' = some p → 0 < L[i].length → X p.block)
    (hus : ∀ i (hi : i < M.length), ∃ A' c, us[i]? = some (.slice A' M[i].length c) ∧ RdU8 w A' M[i].length M[i] ∧ ∀ p : Addr, A' = some p → 0 < M[i].length → X p.block)
    (ho : w.ownsRow a 31 1 (.slice aa N cc) N (vs ++ us)) (hN : N = L.length + M.length) (hX : ∀ g, a ≤ g → X g) : RdBX w X aa N (L ++ M) := by
  subst hN
  refine ⟨by simp, fun hn0 => ?_⟩
  rcases ho.2 with ⟨e, h0⟩ | ⟨g, cap, cur, e, hg, hgb, _⟩
  · omega
  · have ea : aa = some ⟨g, 0, none⟩ := by injection e
    refine ⟨g, 0, ea, hX g hg, (Array.getElem?_eq_some_iff.1 hgb).1, fun i hi => ?_⟩
    have hcell := ho.cells (g := g) (by rw [e]; rfl) i
    rw [List.length_append] at hi
    by_cases hi' : i < L.length
    · obtain ⟨A2, c2, e2, hr, hp⟩ := hvs i hi'
      rw [List.getElem_append_left hi']
      refine ⟨A2, c2, ?_, hr, hp⟩
      rw [← hcell _ (by rw [List.getElem?_append_left (by omega)]; exact e2), add_none]
    · obtain ⟨A2, c2, e2, hr, hp⟩ := hus (i - L.length) (by omega)
      rw [List.getElem_append_right (by omega)]
      refine ⟨A2, c2, ?_, hr, hp⟩
      rw [← hcell _ (by rw [List.getElem?_append_right (by omega), hl]; exact e2), add_none]
theorem RTPost.behind {w w3 w' : World} {F : Nat → Prop} {r m ab bb cb : Nat} {q : TD} (K : Kept w w3 F) (h : RTPost w3 F r m ab bb cb q w') : RTPost w F r m ab bb cb q w' := by
  obtain ⟨k, F', h', hF⟩ := h
  exact ⟨K.trans k, F', h', fun x hx => (hF x hx).imp id (Nat.le_trans K.size)⟩

set_option maxRecDepth 100000 in
set_option maxHeartbeats 4000000 in
theorem rstep_end (r m ab bb cb : Nat) (F : Nat → Prop) (p : TD) (w : World) (H : RTapeIs w F r m ab bb cb p) (he : emptyP p = false) (hd : p.dn = 3) :
    Calls Try.prog 74 #[.pointer (some ⟨r, 0, none⟩)] w (RStepPost w F r m ab bb cb p) := by
  obtain ⟨A, c, A', c', K, R, R'⟩ := H.blk
  have HK := Lib.hid K
  have k3 := K.cell 3; have k4 := K.cell 4
  simp [RC] at k3 k4
  have tl := K.lt
  have hst : stepP p = endP (flushP (incP p)) := by unfold stepP; rw [if_neg (by rw [he]; simp), hd]; first | done | rfl
  have hdn : doneP p = true := by unfold doneP; rw [he, hd]; rfl
  have hcase : p.fr = true ∨ (p.fr = false ∧ 0 < p.W.length) := by
    unfold emptyP at he
    cases hf : p.fr with
    | true => exact .inl rfl
    | false => rw [hf] at he; exact .inr ⟨rfl, by have : p.W.length ≠ 0 := by simpa using he
                                                  omega⟩
  have hab := allB_le H.small
  have hfl := H.ok.fitL; have hfw := H.ok.fitW
  have hwl : p.W.length ≤ 32704 := by have := sizeB_len p.W; split at hfw <;> omega
  have hll : p.L.length ≤ 32704 := by have := sizeB_len p.L; omega
  have HST := Lib.hid hst; have HDN := Lib.hid hdn; have HE := Lib.hid he; have HD := Lib.hid hd; have HH := Lib.hid H
  clear K R R' H he hst hdn hd hab hfl hfw
  go_enter Try.func74, Try.ntmps74
  rcases hcase with hf | ⟨hf, hw⟩
  case' inl =>
    rw [hf] at k4
  case' inr =>
    rw [hf] at k4
    have hw0 : ¬ p.W.length = 0 := by omega
    have hw1 : decide (p.W.length = 0) = false := decide_eq_false hw0
    have hw2 : ¬ (p.W.length : Int) = 0 := by omega
  all_goals
    have HF := Lib.hid hf
    clear hf
    go_wp2_with fail
    refine (target_any r m ab bb cb F p w HH.out).mono ?_
    rintro e w1 ⟨a1, c1, rfl, O1, B1⟩
    have HB1 := Lib.hid B1
    have H1 := HH.out.below B1
    have K1 := HK.out.below B1
    have k5 := K1.cell 5; have f5 := K1.fr 5
    simp [RC] at k5
    rw [HD.out] at k5
    have tl1 := K1.lt
    have H2 := rtape_inc H1 (by rw [HD.out]; omega) HE.out
    rw [HD.out] at H2
    have HH2 := Lib.hid (show RTapeIs (w1.setCell ⟨r, 5, none⟩ (.int .i64 4)) F r m ab bb cb (incP p) from H2)
    have K2 := Lib.hid (show Blk (w1.setCell ⟨r, 5, none⟩ (.int .i64 4)) r (RC m p.h (.slice A p.L.length c) (.slice A' p.W.length c') p.fr 4) 111 by
      have := K1.set 5 (.int .i64 4)
      simpa [RC] using this)
    have n0 := K2.out.cell 0
    simp [RC] at n0
    clear O1 B1 H1 K1 H2 k3 k4
    go_wp2_with fail
    have KW := Lib.hid ((Kept.of_below HB1.out F).set (p := ⟨r, 5, none⟩) HH.out.fr' (.int .i64 4))
    generalize w1.setCell ⟨r, 5, none⟩ (.int .i64 4) = w2 at *
    refine (rflush_any m ab bb cb p.n _ _ _ _ HH2.out.ref).mono ?_
    rintro e w3 ⟨rfl, R3, K3⟩
    have hK3 : Kept w2 w3 (fun k => k = ab ∨ k = bb ∨ k = cb) := K3.mono (fun k _ h => .inr h)
    have hok := HH2.out.ok
    have HF3 : RTapeIs w3 F r m ab bb cb (flushP (incP p)) := by
      refine rtape_disk (q := flushP (incP p)) HH2.out hK3 ?_ rfl rfl rfl rfl rfl ⟨hok.n3, hok.h1, hok.dn3, hok.rl, hok.rw, hok.fitL, hok.fitW, hok.act⟩
      show RefIs w3 m ab bb cb p.n (flushS p.n (flushS p.n p.sf p.df) (fun _ => none)) (flushS p.n p.sf p.df) (isDs p.n (fun _ => none))
      rw [flush_flush, isDs_none]
      exact R3
    have H3 := Lib.hid HF3
    have KW3 := Lib.hid (KW.out.trans2 hK3 (fun k _ h => by rcases h with rfl | rfl | rfl; exact HH.out.fa; exact HH.out.fb; exact HH.out.fc))
    obtain ⟨A1, c1', A1', c1'', K3b, R3b, R3b'⟩ := HF3.blk
    have K4 := Lib.hid (show Blk w3 r (RC m p.h (.slice A1 p.L.length c1') (.slice A1' p.W.length c1'') p.fr 4) 111 by
      have := K3b
      show Blk w3 r (RC m p.h (.slice A1 p.L.length c1') (.slice A1' p.W.length c1'') p.fr ((4 : Nat))) _
      have e : p.dn + 1 = 4 := by rw [HD.out]
      rw [← e]
      exact this)
    have HRL := Lib.hid (show RdBX w3 (Lx F r ab bb cb) A1 p.L.length p.L from R3b)
    have HRW := Lib.hid (show RdBX w3 (Lx F r ab bb cb) A1' p.W.length p.W from R3b')
    have m4 := K4.out.cell 4; have m2 := K4.out.cell 2; have g2 := K4.out.fr 2
    simp [RC] at m4 m2
    rw [HF.out] at m4
    have tl3 := K4.out.lt
    clear R3 K3 hK3 hok HF3 K3b R3b R3b' n0 k5 f5
    go_wp2_with fail
    first
      | (have hFt : p.fr = true := HF.out
         obtain ⟨A0, L0, c0, KZ, RZ, HL0, KK⟩ : ∃ A0 L0 c0, Hid (Blk (w3.setCell ⟨r, 2, none⟩ (.slice none 0 0)) r (RC m p.h (.slice A0 L0.length c0) (.slice A1' p.W.length c1'') p.fr 4) 111) ∧ Hid (RdBX (w3.setCell ⟨r, 2, none⟩ (.slice none 0 0)) (Lx F r ab bb cb) A0 L0.length L0) ∧ Hid (L0 = if p.fr then [] else p.L) ∧ Hid (Kept w3 (w3.setCell ⟨r, 2, none⟩ (.slice none 0 0)) (fun k => k = r)) := ⟨none, [], 0, Lib.hid (by
             have := K4.out.set 2 (.slice none 0 0)
             simpa [RC] using this), Lib.hid ⟨rfl, fun h => absurd h (by simp)⟩, Lib.hid (by rw [HF.out]; rfl), Lib.hid ((Kept.refl w3 (fun k => k = r)).set (p := ⟨r, 2, none⟩) rfl _)⟩
         generalize w3.setCell ⟨r, 2, none⟩ (.slice none 0 0) = wz at *)
      | (obtain ⟨wz, hwz⟩ : ∃ wz, wz = w3 := ⟨_, rfl⟩
         obtain ⟨A0, L0, c0, KZ, RZ, HL0, KK⟩ : ∃ A0 L0 c0, Hid (Blk wz r (RC m p.h (.slice A0 L0.length c0) (.slice A1' p.W.length c1'') p.fr 4) 111) ∧ Hid (RdBX wz (Lx F r ab bb cb) A0 L0.length L0) ∧ Hid (L0 = if p.fr then [] else p.L) ∧ Hid (Kept w3 wz (fun k => k = r)) := ⟨A1, p.L, c1', Lib.hid (by rw [hwz]; exact K4.out), Lib.hid (by rw [hwz]; exact HRL.out), Lib.hid (by rw [HF.out]; rfl), Lib.hid (by rw [hwz]; exact Kept.refl w3 _)⟩
         rw [← hwz]
         clear hwz)
    have hl0 : L0.length ≤ 32704 := by rw [HL0.out]; split <;> first | exact hll | exact Nat.zero_le _
    have RW := Lib.hid (HRW.out.keep (X' := Lx F r ab bb cb) (fun g hg hlt => KK.out.block g hlt hg.2.1) KK.out.size (fun g hg _ => hg))
    have z2 := KZ.out.cell 2; have z3 := KZ.out.cell 3
    simp [RC] at z2 z3
    have tz := KZ.out.lt
    have z2a := ((balloc (Below.refl wz.heap.size wz) (.cells #[] 31)).cell (p := ⟨r, 2, none⟩) tz).trans z2
    have z3a := ((balloc (Below.refl wz.heap.size wz) (.cells #[] 31)).cell (p := ⟨r, 3, none⟩) tz).trans z3
    obtain ⟨vs, hvl, hv1, hvc, hvs⟩ := RZ.out.vals
    obtain ⟨us, hul, hu1, huc, hus⟩ := RW.out.vals
    have HVL := Lib.hid hvl; have HV1 := Lib.hid hv1; have HVC := Lib.hid hvc; have HVS := Lib.hid hvs
    have HUL := Lib.hid hul; have HU1 := Lib.hid hu1; have HUC := Lib.hid huc; have HUS := Lib.hid hus
    clear hvl hv1 hvc hvs hul hu1 huc hus m4 m2 g2 tl3
    have Z1 := Lib.hid (bdrew (balloc (Below.refl wz.heap.size wz) (.cells #[] 31)))
    have N1 := Lib.hid (own_empty (W := (wz.alloc (.cells #[] 31)).drew) (base := wz.heap.size) (g := wz.heap.size) (heap_alloc_new wz _) (Nat.le_refl _))
    go_region_law (first
      | (refine step_app_vs rfl _ _ rfl wz.heap.size _ rfl N1.out A0 L0.length c0 vs rfl HVL.out ?_ HV1.out (by omega) Z1.out.size ?_
         (intro h0; obtain ⟨b0, o0, e0, hl0', hc0⟩ := HVC.out h0; refine ⟨_, e0, fun j u hj => ?_⟩; rw [add_none]; exact (Z1.out.cell (p := ⟨b0, o0 + j, none⟩) hl0').trans (hc0 j u hj))
         intro v4 w4 O4 G4
         obtain ⟨a4, c4, rfl⟩ := row_form O4
         have B4 : Below wz.heap.size wz w4 := Z1.out.grown G4 Z1.out.size (fun j hj => by cases hj; exact Nat.le_refl _)
         have r3 := (B4.cell (p := ⟨r, 3, none⟩) tz).trans z3
         have HO4 := Lib.hid O4; have HB4 := Lib.hid B4; clear O4 B4 G4)
      | (refine step_app_vsg rfl _ _ rfl wz.heap.size _ L0.length vs rfl HO4.out HVL.out.symm A1' p.W.length c1'' us rfl HUL.out ?_ HU1.out (by omega) HB4.out.size ?_
         (intro h0; obtain ⟨b0, o0, e0, hl0', hc0⟩ := HUC.out h0; refine ⟨_, e0, fun j u hj => ?_⟩; rw [add_none]; exact (HB4.out.cell (p := ⟨b0, o0 + j, none⟩) hl0').trans (hc0 j u hj))
         intro v5 w5 O5 G5
         obtain ⟨a5, c5, rfl⟩ := row_form O5
         have B5 : Below wz.heap.size wz w5 := HB4.out.grown G5 HB4.out.size (fun j hj => (HO4.out.lt j hj).1)
         have K5 := Lib.hid (KZ.out.below B5)
         have k52 := K5.out.cell 2; have f52 := K5.out.fr 2; simp [RC] at k52; have tl5 := K5.out.lt
         have HO5 := Lib.hid O5; have HB5 := Lib.hid B5; clear O5 B5 G5))
    all_goals
      have K6 := Lib.hid (show Blk (w5.setCell ⟨r, 2, none⟩ (.slice a5 (L0.length + p.W.length) c5)) r (RC m p.h (.slice a5 (L0.length + p.W.length) c5) (.slice A1' p.W.length c1'') p.fr 4) 111 by
        have := K5.out.set 2 (.slice a5 (L0.length + p.W.length) c5)
        simpa [RC] using this)
      have KK6 := Lib.hid (((KK.out.then HB5.out).set (p := ⟨r, 2, none⟩) rfl (.slice a5 (L0.length + p.W.length) c5) : Kept w3 (w5.setCell ⟨r, 2, none⟩ (.slice a5 (L0.length + p.W.length) c5)) (fun k => k = r)))
      have RN := Lib.hid (show RdBX w5 (Ly w3 F r ab bb cb) a5 (L0.length + p.W.length) (L0 ++ p.W) from
        RdBX.cat HVL.out HUL.out (fun i hi => by obtain ⟨A2, c2, e1, e2, e3⟩ := HVS.out i hi; exact ⟨A2, c2, e1, e2.below HB5.out, fun q hq h0 => .inr (e3 q hq h0)⟩) (fun i hi => by obtain ⟨A2, c2, e1, e2, e3⟩ := HUS.out i hi; exact ⟨A2, c2, e1, e2.below HB5.out, fun q hq h0 => .inr (e3 q hq h0)⟩) HO5.out rfl (fun g hg => .inl (Nat.le_trans KK.out.size hg)))
      have RN6 := Lib.hid (RN.out.keep (w' := w5.setCell ⟨r, 2, none⟩ (.slice a5 (L0.length + p.W.length) c5)) (X' := Ly w3 F r ab bb cb) (fun g hg hlt => Below.heap_setCell _ _ _ _ (fun e => by
        have e : g = r := e
        rcases hg with hg | hg
        · have := H3.out.lt r H3.out.fr'; omega
        · exact hg.2.1 e)) (by simp [World.setCell]) (fun g hg _ => hg))
      generalize w5.setCell ⟨r, 2, none⟩ (.slice a5 (L0.length + p.W.length) c5) = w6 at *
      have c61 := K6.out.cell 1; have c63 := K6.out.cell 3; have c64 := K6.out.cell 4; have c65 := K6.out.cell 5
      simp [RC] at c61 c63 c64 c65
      have f61 := K6.out.fr 1; have f63 := K6.out.fr 3; have f64 := K6.out.fr 4; have f65 := K6.out.fr 5
      have tl6 := K6.out.lt
      clear HO4 HB4 HO5 HB5 K5 k52 f52 tl5 z2 z3 z2a z3a r3 tz Z1 N1 RN HVL HV1 HVC HVS HUL HU1 HUC HUS
      go_wp2
      go_ret
      refine ⟨by rw [HDN.out]; rfl, ?_⟩
      rw [HST.out]
      refine RTPost.behind KW3.out ?_
      have hst := ((((K6.out.set 1 (.int .i64 (placeH p : Nat))).set 3 (.slice none 0 0)).set 4 (.bool false)).set 5 (.int .i64 0))
      have hkk := ((((KK6.out.set (p := ⟨r, 1, none⟩) rfl (.int .i64 (placeH p : Nat))).set (p := ⟨r, 3, none⟩) rfl (.slice none 0 0)).set (p := ⟨r, 4, none⟩) rfl (.bool false)).set (p := ⟨r, 5, none⟩) rfl (.int .i64 0))
      have hLn : (L0 ++ p.W) = (endP (flushP (incP p))).L := by rw [HL0.out]; rfl
      have hLl : L0.length + p.W.length = (endP (flushP (incP p))).L.length := by rw [← hLn, List.length_append]
      have hrn := RN6.out
      rw [hLn, hLl] at hrn
      rw [hLl] at hst
      refine rtape_set2 (q := endP (flushP (incP p))) (c := c5) (A' := none) (c' := 0) H3.out hkk ?_ (hrn.keep (fun g hg hlt => ?_) ?_ (fun g hg _ => hg)) ⟨rfl, fun h => absurd h (by show ¬ 0 < 0; omega)⟩ rfl rfl rfl (endP_ok H3.out.ok)
      · simp [RC] at hst
        exact hst
      · have hgr : g ≠ r := fun e => by
          rcases hg with hg | hg
          · have := H3.out.lt r H3.out.fr'; omega
          · exact hg.2.1 e
        exact ((((Below.heap_setCell _ _ _ _ hgr).trans (Below.heap_setCell _ _ _ _ hgr)).trans (Below.heap_setCell _ _ _ _ hgr)).trans (Below.heap_setCell _ _ _ _ hgr))
      · simp [World.setCell]
end Go.Proofs.Ytlgimhhhlpmjcaa
namespace Go.Proofs.Ytlgimhhhlpmjcaa
open Go.RowKit Go.Maps Go.WideMaps Go.Shelf

theorem rstep_any (r m ab bb cb : Nat) (F : Nat → Prop) (p : TD) (w : World) (H : RTapeIs w F r m ab bb cb p) (S : RSt p) :
    Calls Try.prog 74 #[.pointer (some ⟨r, 0, none⟩)] w (RStepPost w F r m ab bb cb p) := by
  have h3 := S.dn3
  cases he : emptyP p with
  | true => exact rstep_none r m ab bb cb F p w H he
  | false =>
    have hc : p.dn = 0 ∨ p.dn = 1 ∨ p.dn = 2 ∨ p.dn = 3 := by omega
    rcases hc with hd | hd | hd | hd
    · exact rstep_lay r m ab bb cb F p w H he hd (RSt.layB H.ok S hd)
    · exact rstep_flush r m ab bb cb F p w H he hd
    · exact rstep_mark r m ab bb cb F p w H he hd
    · exact rstep_end r m ab bb cb F p w H he hd
theorem RTPost.trans {w w1 w2 : World} {F F1 : Nat → Prop} {r m ab bb cb : Nat} {q : TD} (K : Kept w w1 F) (hF : ∀ k, F1 k → F k ∨ w.heap.size ≤ k) (h : RTPost w1 F1 r m ab bb cb q w2) : RTPost w F r m ab bb cb q w2 := by
  obtain ⟨k, F', h', hF'⟩ := h
  refine ⟨K.trans2 k (fun i hi h1 => (hF i h1).resolve_right (by omega)), F', h', fun x hx => ?_⟩
  rcases hF' x hx with h1 | h1
  · exact hF x h1
  · exact .inr (Nat.le_trans K.size h1)
/-- Behind so many steps of a commit. -/
def RCm (w : World) (F : Nat → Prop) (r m ab bb cb : Nat) (p q : TD) (k : Nat) (wr : World) : Prop := commitP p = commitN k q ∧ RSt q ∧ RTPost w F r m ab bb cb q wr
theorem rcm_step {w : World} {F : Nat → Prop} {r m ab bb cb : Nat} {p q : TD} {wr w1 : World} {e : Ending} {G : Nat → Prop} (h3 : q.dn ≤ 3) (h : RCm w F r m ab bb cb p q (4 - q.dn) wr) (hK : Kept w wr F) (hG : ∀ k, G k → F k ∨ w.heap.size ≤ k) (hT : RTapeIs wr G r m ab bb cb q) (hp : RStepPost wr G r m ab bb cb q e w1) :
    e = .returned (.bool (doneP q)) ∧ (doneP q = true → RTPost w F r m ab bb cb (commitP p) w1) ∧ (doneP q = false → q.dn < 3 ∧ (stepP q).dn = q.dn + 1 ∧ RCm w F r m ab bb cb p (stepP q) (4 - (stepP q).dn) w1) := by
  obtain ⟨h1, h2⟩ := hp
  obtain ⟨c1, c2, c3⟩ := h
  have hT2 := RTPost.trans hK hG h2
  obtain ⟨k, hk⟩ : ∃ k, 4 - q.dn = k + 1 := ⟨3 - q.dn, by omega⟩
  refine ⟨h1, fun hd => ?_, fun hd => ?_⟩
  · rw [c1, hk, commitN, if_pos hd]; exact hT2
  · have hdn := stepP_dn hd
    have hlt : q.dn < 3 := by
      unfold doneP at hd
      have he : emptyP q = false := by cases h1 : emptyP q <;> simp [h1] at hd ⊢
      rw [he] at hd
      simpa using hd
    refine ⟨hlt, hdn, ?_, RSt.step hT.ok c2, hT2⟩
    rw [c1, hk, commitN, if_neg (by rw [hd]; simp), hdn]
    congr 1
    omega
theorem rcommit_any (r m ab bb cb : Nat) (F : Nat → Prop) (p : TD) (w : World) (H : RTapeIs w F r m ab bb cb p) (S : RSt p) :
    Calls Try.prog 75 #[.pointer (some ⟨r, 0, none⟩)] w fun e w' => e = .returned (.tuple #[]) ∧ RTPost w F r m ab bb cb (commitP p) w' := by
  have h3 := S.dn3
  have H0 : Hid (RCm w F r m ab bb cb p p (4 - p.dn) w) := Lib.hid ⟨rfl, S, RTPost.same H (Below.refl _ _)⟩
  clear H S
  go_enter Try.func75, Try.ntmps75
  go_wp2
  go_loopg [2] (5 - p.dn) (fun mm s2 wr => (∃ q : TD, s2 = .bool false ∧ mm = 5 - q.dn ∧ q.dn ≤ 3 ∧ Hid (RCm w F r m ab bb cb p q (4 - q.dn) wr)) ∨ (s2 = .bool true ∧ mm = 0 ∧ Hid (RTPost w F r m ab bb cb (commitP p) wr)))
  case atStart => exact .inl ⟨p, rfl, rfl, h3, H0⟩
  case round =>
    clear h3 H0
    rcases hrel with ⟨q, rfl, hm, hq3, hC⟩ | ⟨rfl, hm, hC⟩
    · obtain ⟨hK, G, hT, hG⟩ := hC.out.2.2
      have HK := Lib.hid hK; have HT := Lib.hid hT; have HG := Lib.hid hG; have HS := Lib.hid hC.out.2.1
      clear hK hT hG
      go_wp2_with fail
      refine (rstep_any r m ab bb cb G q _ HT.out HS.out).mono ?_
      intro e w1 hP
      obtain ⟨rfl, hyes, hno⟩ := rcm_step hq3 hC.out HK.out HG.out HT.out hP
      have HY := Lib.hid hyes; have HN := Lib.hid hno
      clear hP hyes hno
      cases hd : doneP q with
      | true =>
        have HE := Lib.hid (HY.out hd)
        clear HY HN
        go_wp2
        go_roundg 0
        case measure => omega
        case rel => exact .inr ⟨rfl, rfl, HE⟩
      | false =>
        obtain ⟨hl, hdn, hc⟩ := HN.out hd
        have HE := Lib.hid hc
        clear HY HN hc
        go_wp2
        go_roundg (5 - (stepP q).dn)
        case measure => omega
        case rel => exact .inl ⟨stepP q, rfl, rfl, by omega, HE⟩
    · go_wp2
      go_end0
      exact ⟨rfl, hC.out⟩
end Go.Proofs.Ytlgimhhhlpmjcaa
namespace Go.Proofs.Ytlgimhhhlpmjcaa
open Go.RowKit Go.Maps Go.WideMaps Go.Shelf

theorem four_list {l : Bs} (h : l.length = 4) : ∃ a0 a1 a2 a3, l = [a0, a1, a2, a3] := by
  match l, h with
  | [a0, a1, a2, a3], _ => exact ⟨a0, a1, a2, a3, rfl⟩
theorem RdU8.pre {w : World} {A : Option Addr} {n : Nat} {xs : Bs} (h : RdU8 w A n xs) (u : Nat) (hu : u ≤ n) : RdU8 w A u (xs.take u) := by
  have hl := h.len
  refine ⟨by simp; omega, fun h0 => ?_⟩
  obtain ⟨b, off, e, hb, hc⟩ := h.at' (by omega)
  refine ⟨b, off, e, hb, fun i hi => ?_⟩
  have hi' : i < xs.length := by simp at hi; omega
  rw [hc i hi', List.getElem_take]
/-- The blocks of a tape that is new. -/
def Fo (m ab bb cb t : Nat) (k : Nat) : Prop := k = m ∨ k = ab ∨ k = bb ∨ k = cb ∨ k = t
theorem ropen_new {w w3 : World} {m ab bb cb n t : Nat} {sf : List Sec} {df : Int → Option Sec} (H : RefIs w m ab bb cb n (flushS n sf df) sf (isDs n df)) (hn : 3 ≤ n) (b : Below w.heap.size w w3)
    (K : Blk w3 t (RC m 0 (.slice none 0 0) (.slice none 0 0) false 0) 111) : RTapeIs w3 (Fo m ab bb cb t) t m ab bb cb ⟨n, sf, df, 0, [], [], false, 0⟩ := by
  have H3 := H.below b
  obtain ⟨l1, l2, l3, l4⟩ := H3.lt
  have hz : RdBX w3 (Lx (Fo m ab bb cb t) t ab bb cb) none 0 [] := ⟨rfl, fun h => absurd h (by omega)⟩
  refine ⟨fun k hk => ?_, ⟨none, 0, none, 0, K, hz, hz⟩, H3, .inr (.inr (.inr (.inr rfl))), .inl rfl, .inr (.inl rfl), .inr (.inr (.inl rfl)), .inr (.inr (.inr (.inl rfl))), ⟨hn, Nat.zero_le 1, Nat.zero_le 4, fun x hx => (by cases hx), fun x hx => (by cases hx), Nat.zero_le _, Nat.zero_le _, fun h => absurd h (by show ¬ 0 < 0; omega)⟩⟩
  rcases hk with rfl | rfl | rfl | rfl | rfl
  · exact l1
  · exact l2
  · exact l3
  · exact l4
  · exact K.lt
def ROpenPost (w : World) (m ab bb cb n : Nat) (sf : List Sec) (df : Int → Option Sec) (e : Ending) (w' : World) : Prop :=
  Below w.heap.size w w' ∧ match openP n sf df with
    | none => e = .returned (.tuple #[.pointer none, .int .i64 63])
    | some (h, L) => ∃ r F, e = .returned (.tuple #[.pointer (some ⟨r, 0, none⟩), .int .i64 0]) ∧ RTapeIs w' F r m ab bb cb ⟨n, sf, df, h, L, [], false, 0⟩ ∧ ∀ k, F k → k = m ∨ k = ab ∨ k = bb ∨ k = cb ∨ w.heap.size ≤ k

set_option maxRecDepth 100000 in
set_option maxHeartbeats 4000000 in
theorem ropen_a (m ab bb cb n : Nat) (sf : List Sec) (df : Int → Option Sec) (w : World) (H : RefIs w m ab bb cb n (flushS n sf df) sf (isDs n df)) (hLn : Lens n sf df) (hn : 3 ≤ n) (hby : BytesS sf df) (hA : 1 < (curS sf df 0).getD 0 0) :
    Calls Try.prog 44 #[.pointer (some ⟨m, 0, none⟩)] w (ROpenPost w m ab bb cb n sf df) := by
  have hsm := H.small
  obtain ⟨s, HS⟩ : ∃ s, Hid (s = curS sf df 0) := ⟨_, Lib.hid rfl⟩
  have hs64 : s.length = 64 := by rw [HS.out]; exact hLn.cur (by omega)
  have hsb : okB s := by rw [HS.out]; exact hby.cur 0
  obtain ⟨r, hr⟩ : ∃ r : Nat, numB ((s.drop 1).take 4) = r := ⟨(numB ((s.drop 1).take 4)).toNat, by have := numB_nonneg (okB_take (okB_drop hsb 1) 4); omega⟩
  obtain ⟨u, hu⟩ : ∃ u : Nat, numB ((s.drop 5).take 4) = u := ⟨(numB ((s.drop 5).take 4)).toNat, by have := numB_nonneg (okB_take (okB_drop hsb 5) 4); omega⟩
  have hrl : r < 4294967296 := by have h1 := numB_lt _ (okB_take (okB_drop hsb 1) 4); rw [show ((s.drop 1).take 4).length = 4 by simp; omega] at h1; omega
  have hul : u < 4294967296 := by have h1 := numB_lt _ (okB_take (okB_drop hsb 5) 4); rw [show ((s.drop 5).take 4).length = 4 by simp; omega] at h1; omega
  obtain ⟨h, hh⟩ : ∃ h : Nat, s.getD 0 0 = h := ⟨(s.getD 0 0).toNat, by have := (hsb (s.getD 0 0) (by rw [List.getD_eq_getElem?_getD, List.getElem?_eq_getElem (by omega : 0 < s.length)]; exact List.getElem_mem _)).1; omega⟩
  have hh256 : h < 256 := by have := (hsb (s.getD 0 0) (by rw [List.getD_eq_getElem?_getD, List.getElem?_eq_getElem (by omega : 0 < s.length)]; exact List.getElem_mem _)).2; omega
  have hop : openP n sf df = if 1 < (h : Int) then none else if s = superB h r u then (if (allB n : Int) < u then none else match splitB u ((halfB n sf df h).take u) with | none => none | some L => if (L.length : Int) = r then some (h, L) else none) else none := by
    unfold openP
    rw [← HS.out, hh, hr, hu]
    simp only [Int.toNat_natCast]
    rfl
  have hs0 : (sc s)[0]? = some (.int .u8 h) := by
    have := hh
    rw [List.getD_eq_getElem?_getD, List.getElem?_eq_getElem (by omega : 0 < s.length)] at this
    simp only [Option.getD_some] at this
    simp [sc, List.getElem?_map, List.getElem?_eq_getElem (by omega : 0 < s.length), this]
  obtain ⟨a0, a1, a2, a3, e1⟩ := four_list (l := (s.drop 1).take 4) (by simp; omega)
  obtain ⟨b0, b1, b2, b3, e5⟩ := four_list (l := (s.drop 5).take 4) (by simp; omega)
  have ho1 := okB_take (okB_drop hsb 1) 4; have ho5 := okB_take (okB_drop hsb 5) 4
  rw [e1] at ho1; rw [e5] at ho5
  have hnl : 0 < (flushS n sf df).length := by rw [flushS_len]; omega
  have hra : ∀ W, Below w.heap.size w W → W.rangeAt ab 0 (sc s) := fun W hW => by
    have := (H.below hW).a.2 0 hnl
    rw [flushS_at hnl, ← HS.out, Nat.zero_mul] at this
    exact this
  have hr1 := hr; have hu1 := hu
  rw [e1] at hr1; rw [e5] at hu1
  have HOP := Lib.hid hop; have HS64 := Lib.hid hs64; have HSB := Lib.hid hsb; have HR := Lib.hid hr; have HU := Lib.hid hu; have HBY := Lib.hid hby; have HS0 := Lib.hid hs0
  have HE1 := Lib.hid e1; have HE5 := Lib.hid e5; have HO1 := Lib.hid ho1; have HO5 := Lib.hid ho5; have HR1 := Lib.hid hr1; have HU1 := Lib.hid hu1; have HRA := Lib.hid hra; have HLn := Lib.hid hLn
  have HH := Lib.hid H
  have HOPH := Lib.hid hh
  obtain ⟨c1, c2, c3, hblk⟩ := H.blk
  obtain ⟨ml, _⟩ := H.lt
  have m0 := hblk.cell 0
  simp at m0
  have m0a := ((balloc (Below.refl w.heap.size w) (.cells #[.pointer (some ⟨m, 0, none⟩), .int .i64 0, .slice none 0 0, .slice none 0 0, .bool false, .int .i64 0] 111)).cell (p := ⟨m, 0, none⟩) ml).trans m0
  clear hop hs64 hsb hr hu hby hs0 H hh hblk e1 e5 ho1 ho5 hra hr1 hu1 hnl hLn
  obtain ⟨z, HZ, hz⟩ := zsec_named
  have Hz := Lib.hid hz; clear hz
  go_enter Try.func44, Try.ntmps44
  go_wp2_with (first
    | ((with_reducible refine is_load 58 (x := .tmp 23) rfl ?_); refine sec_load secT2 rfl _ rfl ab 0 rfl s HS64.out (HRA.out _ (balloc (Below.refl _ _) _)) ?_)
    | ((with_reducible refine sec_alloc secT2 HZ rfl rfl ?_); try simp only [World.size_alloc])
    | ((with_reducible refine is_store 58 (x := .tmp 5) rfl ?_); refine sec_store secT2 rfl _ _ rfl (w.heap.size + 1) 0 s HS64.out rfl rfl ((Blk.newAt (w.alloc (.cells #[.pointer (some ⟨m, 0, none⟩), .int .i64 0, .slice none 0 0, .slice none 0 0, .bool false, .int .i64 0] 111)) (sc z).toArray 58 (w.heap.size + 1) (by simp)).secThere Hz.out) ?_;
       have bW : Below w.heap.size w (((w.alloc (.cells #[.pointer (some ⟨m, 0, none⟩), .int .i64 0, .slice none 0 0, .slice none 0 0, .bool false, .int .i64 0] 111)).alloc (.cells (sc z).toArray 58)).setCells (w.heap.size + 1) 0 (sc s)) := below_cells (balloc (balloc (Below.refl _ _) _) _) (by omega) _ _;
       have bW2 : Below (w.alloc (.cells #[.pointer (some ⟨m, 0, none⟩), .int .i64 0, .slice none 0 0, .slice none 0 0, .bool false, .int .i64 0] 111)).heap.size (w.alloc (.cells #[.pointer (some ⟨m, 0, none⟩), .int .i64 0, .slice none 0 0, .slice none 0 0, .bool false, .int .i64 0] 111)) (((w.alloc (.cells #[.pointer (some ⟨m, 0, none⟩), .int .i64 0, .slice none 0 0, .slice none 0 0, .bool false, .int .i64 0] 111)).alloc (.cells (sc z).toArray 58)).setCells (w.heap.size + 1) 0 (sc s)) := below_cells (balloc (Below.refl _ _) _) (by simp) _ _;
       have Jw3 := Lib.hid ((Blk.newAt (w.alloc (.cells #[.pointer (some ⟨m, 0, none⟩), .int .i64 0, .slice none 0 0, .slice none 0 0, .bool false, .int .i64 0] 111)) (sc z).toArray 58 (w.heap.size + 1) (by simp)).secStore (s' := s) (Hz.out.trans HS64.out.symm));
       have K3 := Lib.hid (show Blk (((w.alloc (.cells #[.pointer (some ⟨m, 0, none⟩), .int .i64 0, .slice none 0 0, .slice none 0 0, .bool false, .int .i64 0] 111)).alloc (.cells (sc z).toArray 58)).setCells (w.heap.size + 1) 0 (sc s)) w.heap.size (RC m 0 (.slice none 0 0) (.slice none 0 0) false 0) 111 from (Blk.new w _ 111).below bW2);
       have B3 := Lib.hid bW; clear bW bW2; generalize (((w.alloc (.cells #[.pointer (some ⟨m, 0, none⟩), .int .i64 0, .slice none 0 0, .slice none 0 0, .bool false, .int .i64 0] 111)).alloc (.cells (sc z).toArray 58)).setCells (w.heap.size + 1) 0 (sc s)) = w3 at *))
  have H3 := Lib.hid (ropen_new HH.out hn B3.out K3.out)
  have zw3 := B3.out.size
  obtain ⟨g, hg⟩ : ∃ g, g = w.heap.size + 1 := ⟨_, rfl⟩
  rw [← hg] at Jw3 ⊢
  obtain ⟨t, ht⟩ : ∃ t, t = w.heap.size := ⟨_, rfl⟩
  rw [← ht] at K3 H3 ⊢
  have HT := Lib.hid ht; have HG := Lib.hid hg
  clear ht hg m0a
  have rd1 := Lib.hid (sec_rd Jw3.out HS64.out 1 4 (by omega)); have rd5 := Lib.hid (sec_rd Jw3.out HS64.out 5 4 (by omega))
  refine (of_any (some ⟨g, 1, none⟩) 63 a0 a1 a2 a3 w3 (by rw [← HE1.out]; exact rd1.out) HO1.out).mono ?_
  rintro e w4 ⟨rfl, B4⟩
  rw [HR1.out]
  have HB4 := Lib.hid B4
  clear B4
  go_wp2_with fail
  refine (of_any (some ⟨g, 5, none⟩) 59 b0 b1 b2 b3 w4 (by rw [← HE5.out]; exact rd5.out.below HB4.out) HO5.out).mono ?_
  rintro e w5 ⟨rfl, B5⟩
  rw [HU1.out]
  have HB35 := Lib.hid (bthen HB4.out B5)
  have J5 := Lib.hid (Jw3.out.below HB35.out)
  have K5 := Lib.hid (K3.out.below HB35.out)
  have H5 := Lib.hid (H3.out.below HB35.out)
  have HB5 := Lib.hid (bthen B3.out HB35.out)
  clear B5 Jw3 K3 H3 B3 rd1 rd5 HB4 HB35 zw3
  have c50 : w5.cell? ⟨g, 0, none⟩ = some (.int .u8 h) := by rw [J5.out.cell]; simpa using HS0.out
  have c51 := K5.out.cell 1; have f51 := K5.out.fr 1
  simp [RC] at c51
  have tl := K5.out.lt; have gl := J5.out.lt
  go_wp2_with fail
  have hA2 : (1 : Int) < h := by have := HOPH.out; rw [← HS.out, this] at hA; exact hA
  have hd : decide ((1 : Int) < (h : Int)) = true := decide_eq_true hA2
  clear hA
  go_quiet (fail)
  go_wp2
  go_ret2
  have e := HOP.out
  rw [if_pos hA2] at e
  unfold ROpenPost
  rw [e]
  exact ⟨below_drewN HB5.out _, rfl⟩

set_option maxRecDepth 100000 in
set_option maxHeartbeats 4000000 in
theorem ropen_b (m ab bb cb n : Nat) (sf : List Sec) (df : Int → Option Sec) (w : World) (H : RefIs w m ab bb cb n (flushS n sf df) sf (isDs n df)) (hLn : Lens n sf df) (hn : 3 ≤ n) (hby : BytesS sf df) (hA : ¬ 1 < (curS sf df 0).getD 0 0) (hB : curS sf df 0 ≠ superB ((curS sf df 0).getD 0 0) (numB (((curS sf df 0).drop 1).take 4)) (numB (((curS sf df 0).drop 5).take 4))) :
    Calls Try.prog 44 #[.pointer (some ⟨m, 0, none⟩)] w (ROpenPost w m ab bb cb n sf df) := by
  have hsm := H.small
  obtain ⟨s, HS⟩ : ∃ s, Hid (s = curS sf df 0) := ⟨_, Lib.hid rfl⟩
  have hs64 : s.length = 64 := by rw [HS.out]; exact hLn.cur (by omega)
  have hsb : okB s := by rw [HS.out]; exact hby.cur 0
  obtain ⟨r, hr⟩ : ∃ r : Nat, numB ((s.drop 1).take 4) = r := ⟨(numB ((s.drop 1).take 4)).toNat, by have := numB_nonneg (okB_take (okB_drop hsb 1) 4); omega⟩
  obtain ⟨u, hu⟩ : ∃ u : Nat, numB ((s.drop 5).take 4) = u := ⟨(numB ((s.drop 5).take 4)).toNat, by have := numB_nonneg (okB_take (okB_drop hsb 5) 4); omega⟩
  have hrl : r < 4294967296 := by have h1 := numB_lt _ (okB_take (okB_drop hsb 1) 4); rw [show ((s.drop 1).take 4).length = 4 by simp; omega] at h1; omega
  have hul : u < 4294967296 := by have h1 := numB_lt _ (okB_take (okB_drop hsb 5) 4); rw [show ((s.drop 5).take 4).length = 4 by simp; omega] at h1; omega
  obtain ⟨h, hh⟩ : ∃ h : Nat, s.getD 0 0 = h := ⟨(s.getD 0 0).toNat, by have := (hsb (s.getD 0 0) (by rw [List.getD_eq_getElem?_getD, List.getElem?_eq_getElem (by omega : 0 < s.length)]; exact List.getElem_mem _)).1; omega⟩
  have hh256 : h < 256 := by have := (hsb (s.getD 0 0) (by rw [List.getD_eq_getElem?_getD, List.getElem?_eq_getElem (by omega : 0 < s.length)]; exact List.getElem_mem _)).2; omega
  have hop : openP n sf df = if 1 < (h : Int) then none else if s = superB h r u then (if (allB n : Int) < u then none else match splitB u ((halfB n sf df h).take u) with | none => none | some L => if (L.length : Int) = r then some (h, L) else none) else none := by
    unfold openP
    rw [← HS.out, hh, hr, hu]
    simp only [Int.toNat_natCast]
    rfl
  have hs0 : (sc s)[0]? = some (.int .u8 h) := by
    have := hh
    rw [List.getD_eq_getElem?_getD, List.getElem?_eq_getElem (by omega : 0 < s.length)] at this
    simp only [Option.getD_some] at this
    simp [sc, List.getElem?_map, List.getElem?_eq_getElem (by omega : 0 < s.length), this]
  obtain ⟨a0, a1, a2, a3, e1⟩ := four_list (l := (s.drop 1).take 4) (by simp; omega)
  obtain ⟨b0, b1, b2, b3, e5⟩ := four_list (l := (s.drop 5).take 4) (by simp; omega)
  have ho1 := okB_take (okB_drop hsb 1) 4; have ho5 := okB_take (okB_drop hsb 5) 4
  rw [e1] at ho1; rw [e5] at ho5
  have hnl : 0 < (flushS n sf df).length := by rw [flushS_len]; omega
  have hra : ∀ W, Below w.heap.size w W → W.rangeAt ab 0 (sc s) := fun W hW => by
    have := (H.below hW).a.2 0 hnl
    rw [flushS_at hnl, ← HS.out, Nat.zero_mul] at this
    exact this
  have hr1 := hr; have hu1 := hu
  rw [e1] at hr1; rw [e5] at hu1
  have HOP := Lib.hid hop; have HS64 := Lib.hid hs64; have HSB := Lib.hid hsb; have HR := Lib.hid hr; have HU := Lib.hid hu; have HBY := Lib.hid hby; have HS0 := Lib.hid hs0
  have HE1 := Lib.hid e1; have HE5 := Lib.hid e5; have HO1 := Lib.hid ho1; have HO5 := Lib.hid ho5; have HR1 := Lib.hid hr1; have HU1 := Lib.hid hu1; have HRA := Lib.hid hra; have HLn := Lib.hid hLn
  have HH := Lib.hid H
  have HOPH := Lib.hid hh
  obtain ⟨c1, c2, c3, hblk⟩ := H.blk
  obtain ⟨ml, _⟩ := H.lt
  have m0 := hblk.cell 0
  simp at m0
  have m0a := ((balloc (Below.refl w.heap.size w) (.cells #[.pointer (some ⟨m, 0, none⟩), .int .i64 0, .slice none 0 0, .slice none 0 0, .bool false, .int .i64 0] 111)).cell (p := ⟨m, 0, none⟩) ml).trans m0
  clear hop hs64 hsb hr hu hby hs0 H hh hblk e1 e5 ho1 ho5 hra hr1 hu1 hnl hLn
  obtain ⟨z, HZ, hz⟩ := zsec_named
  have Hz := Lib.hid hz; clear hz
  go_enter Try.func44, Try.ntmps44
  go_wp2_with (first
    | ((with_reducible refine is_load 58 (x := .tmp 23) rfl ?_); refine sec_load secT2 rfl _ rfl ab 0 rfl s HS64.out (HRA.out _ (balloc (Below.refl _ _) _)) ?_)
    | ((with_reducible refine sec_alloc secT2 HZ rfl rfl ?_); try simp only [World.size_alloc])
    | ((with_reducible refine is_store 58 (x := .tmp 5) rfl ?_); refine sec_store secT2 rfl _ _ rfl (w.heap.size + 1) 0 s HS64.out rfl rfl ((Blk.newAt (w.alloc (.cells #[.pointer (some ⟨m, 0, none⟩), .int .i64 0, .slice none 0 0, .slice none 0 0, .bool false, .int .i64 0] 111)) (sc z).toArray 58 (w.heap.size + 1) (by simp)).secThere Hz.out) ?_;
       have bW : Below w.heap.size w (((w.alloc (.cells #[.pointer (some ⟨m, 0, none⟩), .int .i64 0, .slice none 0 0, .slice none 0 0, .bool false, .int .i64 0] 111)).alloc (.cells (sc z).toArray 58)).setCells (w.heap.size + 1) 0 (sc s)) := below_cells (balloc (balloc (Below.refl _ _) _) _) (by omega) _ _;
       have bW2 : Below (w.alloc (.cells #[.pointer (some ⟨m, 0, none⟩), .int .i64 0, .slice none 0 0, .slice none 0 0, .bool false, .int .i64 0] 111)).heap.size (w.alloc (.cells #[.pointer (some ⟨m, 0, none⟩), .int .i64 0, .slice none 0 0, .slice none 0 0, .bool false, .int .i64 0] 111)) (((w.alloc (.cells #[.pointer (some ⟨m, 0, none⟩), .int .i64 0, .slice none 0 0, .slice none 0 0, .bool false, .int .i64 0] 111)).alloc (.cells (sc z).toArray 58)).setCells (w.heap.size + 1) 0 (sc s)) := below_cells (balloc (Below.refl _ _) _) (by simp) _ _;
       have Jw3 := Lib.hid ((Blk.newAt (w.alloc (.cells #[.pointer (some ⟨m, 0, none⟩), .int .i64 0, .slice none 0 0, .slice none 0 0, .bool false, .int .i64 0] 111)) (sc z).toArray 58 (w.heap.size + 1) (by simp)).secStore (s' := s) (Hz.out.trans HS64.out.symm));
       have K3 := Lib.hid (show Blk (((w.alloc (.cells #[.pointer (some ⟨m, 0, none⟩), .int .i64 0, .slice none 0 0, .slice none 0 0, .bool false, .int .i64 0] 111)).alloc (.cells (sc z).toArray 58)).setCells (w.heap.size + 1) 0 (sc s)) w.heap.size (RC m 0 (.slice none 0 0) (.slice none 0 0) false 0) 111 from (Blk.new w _ 111).below bW2);
       have B3 := Lib.hid bW; clear bW bW2; generalize (((w.alloc (.cells #[.pointer (some ⟨m, 0, none⟩), .int .i64 0, .slice none 0 0, .slice none 0 0, .bool false, .int .i64 0] 111)).alloc (.cells (sc z).toArray 58)).setCells (w.heap.size + 1) 0 (sc s)) = w3 at *))
  have H3 := Lib.hid (ropen_new HH.out hn B3.out K3.out)
  have zw3 := B3.out.size
  obtain ⟨g, hg⟩ : ∃ g, g = w.heap.size + 1 := ⟨_, rfl⟩
  rw [← hg] at Jw3 ⊢
  obtain ⟨t, ht⟩ : ∃ t, t = w.heap.size := ⟨_, rfl⟩
  rw [← ht] at K3 H3 ⊢
  have HT := Lib.hid ht; have HG := Lib.hid hg
  clear ht hg m0a
  have rd1 := Lib.hid (sec_rd Jw3.out HS64.out 1 4 (by omega)); have rd5 := Lib.hid (sec_rd Jw3.out HS64.out 5 4 (by omega))
  refine (of_any (some ⟨g, 1, none⟩) 63 a0 a1 a2 a3 w3 (by rw [← HE1.out]; exact rd1.out) HO1.out).mono ?_
  rintro e w4 ⟨rfl, B4⟩
  rw [HR1.out]
  have HB4 := Lib.hid B4
  clear B4
  go_wp2_with fail
  refine (of_any (some ⟨g, 5, none⟩) 59 b0 b1 b2 b3 w4 (by rw [← HE5.out]; exact rd5.out.below HB4.out) HO5.out).mono ?_
  rintro e w5 ⟨rfl, B5⟩
  rw [HU1.out]
  have HB35 := Lib.hid (bthen HB4.out B5)
  have J5 := Lib.hid (Jw3.out.below HB35.out)
  have K5 := Lib.hid (K3.out.below HB35.out)
  have H5 := Lib.hid (H3.out.below HB35.out)
  have HB5 := Lib.hid (bthen B3.out HB35.out)
  clear B5 Jw3 K3 H3 B3 rd1 rd5 HB4 HB35 zw3
  have c50 : w5.cell? ⟨g, 0, none⟩ = some (.int .u8 h) := by rw [J5.out.cell]; simpa using HS0.out
  have c51 := K5.out.cell 1; have f51 := K5.out.fr 1
  simp [RC] at c51
  have tl := K5.out.lt; have gl := J5.out.lt
  go_wp2_with fail
  have hB2 : s ≠ superB h r u := by have e1 := HOPH.out; have e2 := HR.out; have e3 := HU.out; rw [← HS.out, e1, e2, e3] at hB; exact hB
  have hh1 : h ≤ 1 := by have e := HOPH.out; rw [← HS.out, e] at hA; omega
  have hd : decide ((1 : Int) < (h : Int)) = false := decide_eq_false (by omega)
  clear hA
  obtain ⟨q, hq⟩ : ∃ q, superB h r u = q := ⟨_, rfl⟩
  have hq64 : q.length = 64 := by rw [← hq]; exact superB_len _ _ _
  have hsup : ∀ W, Calls Try.prog 68 #[.int .i64 h, .int .i64 r, .int .i64 u] W fun e w' => e = .returned (.agg (sc q).toArray) ∧ Below W.heap.size W w' := fun W => by
    rw [← hq]; exact rsuper_any h r u W (by omega) (by omega) (by omega) (by omega)
  have HSUP := Lib.hid hsup; have HQ := Lib.hid hq; have HQ64 := Lib.hid hq64
  clear hsup hq hq64
  have hwh : IntKind.i64.wrap (h : Int) = h := by rw [IntKind.wrap_i64]; omega
  have hu' := Try.underlying58
  have hi : (Try.prog.info? 58).map (·.size) = some (sc s).length := by rw [sc_len, HS64.out]; exact secT2.info
  have hl : (sc s).length = 64 := by rw [sc_len, HS64.out]
  have hone := sc_one s
  have hr5 : w5.rangeAt g 0 (sc s) := J5.out.sec
  have heq : ∀ W : World, (Op.equalIn 10000 58 (.agg (sc s).toArray) (.agg (sc q).toArray)).run Try.prog W = .ok false W := fun W => by
    rw [sec_eq Try.underlying58 s q HS64.out HQ64.out W]
    have : s ≠ q := by rw [← HQ.out]; exact hB2
    simp [this]
  have HB2 := Lib.hid hB2
  clear hB hB2
  refine wp_region_noPanic ?_
  refine wp_region_held_drew (S := (fun W => W.cell? ⟨g, 0, none⟩ = some (.int .u8 h) ∧ W.rangeAt g 0 (sc s))) (by kernel_rfl) ⟨c50, hr5⟩ (fun hHeld => ?_)
  refine wpAnyH_take (i := 0) (oi := { dst := some 29, op := Op.indexAddr 58 (Operand.tmp 5) (Operand.const (Value.int IntKind.i64 0)), type := 0, pos := "ref.go:85", after := #[], guard := none }) (v := .pointer (some ⟨g, 0, none⟩)) rfl (by kernel_rfl) (by kernel_rfl) (by kernel_rfl) (fun _ _ _ h => (h : False).elim) (Or.inl ⟨by rfl, fun W1 hW1 => ?_⟩) hHeld ?_
  · obtain ⟨s1, s2⟩ := hW1; go_simp
  simp only [Act.put, List.setIfInBounds_toArray, List.set_cons_zero, List.set_cons_succ]
  refine wpAnyH_take (i := 1) (oi := { dst := some 30, op := Op.load 5 (Operand.tmp 29), type := 5, pos := "ref.go:85", after := #[{ on := 0, ground := Ground.data }], guard := none }) (v := .int .u8 h) rfl (by kernel_rfl) (by kernel_rfl) (by kernel_rfl) (fun _ _ _ h => (h : False).elim) (Or.inl ⟨by rfl, fun W1 hW1 => ?_⟩) hHeld ?_
  · obtain ⟨s1, s2⟩ := hW1; go_simp
  simp only [Act.put, List.setIfInBounds_toArray, List.set_cons_zero, List.set_cons_succ]
  refine wpAnyH_take (i := 2) (oi := { dst := some 31, op := Op.binOp BinOp.gtr 5 (Operand.tmp 30) (Operand.const (Value.int IntKind.u8 1)) 5, type := 4, pos := "ref.go:85", after := #[{ on := 1, ground := Ground.data }], guard := none }) (v := .bool false) rfl (by kernel_rfl) (by kernel_rfl) (by kernel_rfl) (fun _ _ _ h => (h : False).elim) (Or.inl ⟨by rfl, fun W1 hW1 => ?_⟩) hHeld ?_
  · obtain ⟨s1, s2⟩ := hW1; go_simp
  simp only [Act.put, List.setIfInBounds_toArray, List.set_cons_zero, List.set_cons_succ]
  refine wpAnyH_take (i := 3) (oi := { dst := some 32, op := Op.move (Operand.tmp 31), type := 4, pos := "ref.go:85", after := #[{ on := 2, ground := Ground.data }], guard := none }) (v := .bool false) rfl (by kernel_rfl) (by kernel_rfl) (by kernel_rfl) (fun _ _ _ h => (h : False).elim) (Or.inl ⟨by rfl, fun W1 hW1 => ?_⟩) hHeld ?_
  · obtain ⟨s1, s2⟩ := hW1; go_simp
  simp only [Act.put, List.setIfInBounds_toArray, List.set_cons_zero, List.set_cons_succ]
  refine' wpAnyH_take (i := 4) (oi := { dst := some 33, op := Op.load 58 (Operand.tmp 5), type := 58, pos := "ref.go:85", after := #[{ on := 3, ground := Ground.guard }], guard := some (3, false) }) (v := _) rfl (by kernel_rfl) (by kernel_rfl) (by kernel_rfl) (fun _ _ _ h => (h : False).elim) (yieldsIf_load_mid (by rfl) _ _ rfl _ _ rfl _ _ (fun W1 hW1 => hW1.2) hu' rfl hi) hHeld ?_
  simp only [Act.put, List.setIfInBounds_toArray, List.set_cons_zero, List.set_cons_succ]
  refine wpAnyH_take (i := 5) (oi := { dst := some 34, op := Op.indexAddr 58 (Operand.tmp 5) (Operand.const (Value.int IntKind.i64 0)), type := 0, pos := "ref.go:85", after := #[{ on := 3, ground := Ground.guard }], guard := some (3, false) }) (v := .pointer (some ⟨g, 0, none⟩)) rfl (by kernel_rfl) (by kernel_rfl) (by kernel_rfl) (fun _ _ _ h => (h : False).elim) (Or.inl ⟨by rfl, fun W1 hW1 => ?_⟩) hHeld ?_
  · obtain ⟨s1, s2⟩ := hW1; go_simp
  simp only [Act.put, List.setIfInBounds_toArray, List.set_cons_zero, List.set_cons_succ]
  refine wpAnyH_take (i := 6) (oi := { dst := some 35, op := Op.load 5 (Operand.tmp 34), type := 5, pos := "ref.go:85", after := #[{ on := 5, ground := Ground.data }, { on := 3, ground := Ground.guard }], guard := some (3, false) }) (v := .int .u8 h) rfl (by kernel_rfl) (by kernel_rfl) (by kernel_rfl) (fun _ _ _ h => (h : False).elim) (Or.inl ⟨by rfl, fun W1 hW1 => ?_⟩) hHeld ?_
  · obtain ⟨s1, s2⟩ := hW1; go_simp
  simp only [Act.put, List.setIfInBounds_toArray, List.set_cons_zero, List.set_cons_succ]
  refine wpAnyH_take (i := 7) (oi := { dst := some 36, op := Op.convert 5 3 (Operand.tmp 35), type := 3, pos := "ref.go:85", after := #[{ on := 6, ground := Ground.data }, { on := 3, ground := Ground.guard }], guard := some (3, false) }) (v := .int .i64 h) rfl (by kernel_rfl) (by kernel_rfl) (by kernel_rfl) (fun _ _ _ h => (h : False).elim) (Or.inl ⟨by rfl, fun W1 hW1 => ?_⟩) hHeld ?_
  · obtain ⟨s1, s2⟩ := hW1; go_simp
  simp only [Act.put, List.setIfInBounds_toArray, List.set_cons_zero, List.set_cons_succ]
  refine wpAnyH_take (i := 8) (oi := { dst := some 37, op := Op.move (Operand.tmp 6), type := 3, pos := "ref.go:85", after := #[{ on := 3, ground := Ground.guard }], guard := some (3, false) }) (v := .int .i64 r) rfl (by kernel_rfl) (by kernel_rfl) (by kernel_rfl) (fun _ _ _ h => (h : False).elim) (Or.inl ⟨by rfl, fun W1 hW1 => ?_⟩) hHeld ?_
  · obtain ⟨s1, s2⟩ := hW1; go_simp
  simp only [Act.put, List.setIfInBounds_toArray, List.set_cons_zero, List.set_cons_succ]
  refine wpAnyH_take (i := 9) (oi := { dst := some 38, op := Op.move (Operand.tmp 7), type := 3, pos := "ref.go:85", after := #[{ on := 3, ground := Ground.guard }], guard := some (3, false) }) (v := .int .i64 u) rfl (by kernel_rfl) (by kernel_rfl) (by kernel_rfl) (fun _ _ _ h => (h : False).elim) (Or.inl ⟨by rfl, fun W1 hW1 => ?_⟩) hHeld ?_
  · obtain ⟨s1, s2⟩ := hW1; go_simp
  simp only [Act.put, List.setIfInBounds_toArray, List.set_cons_zero, List.set_cons_succ]
  refine wpAnyH_ready (rs := [10]) (by kernel_rfl) (by simp) ?_
  refine AllReadyH.cons (o := { dst := some 39, op := Op.call { callee := Callee.value (Operand.func 68), args := #[Operand.tmp 36, Operand.tmp 37, Operand.tmp 38], argTypes := #[3, 3, 3] }, type := 58, pos := "ref.go:85", after := #[{ on := 7, ground := Ground.data }, { on := 8, ground := Ground.data }, { on := 9, ground := Ground.data }, { on := 3, ground := Ground.chain }, { on := 3, ground := Ground.guard }], guard := some (3, false) }) rfl (fun K hK => ?_) AllReadyH.nil
  go_simp
  refine (HSUP.out _).mono ?_
  rintro e w6 ⟨rfl, hb6⟩
  have r1 := (hb6.cell (p := ⟨g, 0, none⟩) gl).trans c50; have r2 : w6.rangeAt g 0 (sc s) := rangeAt_keep hr5 (hb6.block _ gl)
  have B6 := Lib.hid (bthen (bdrew HB5.out) hb6); clear hb6
  dsimp only
  clear hHeld
  refine hK.out _ _ ⟨r1, r2⟩ (fun hHeld => ?_)
  clear hK K
  try simp only [Act.put, List.setIfInBounds_toArray, List.set_cons_zero, List.set_cons_succ]
  refine wpAnyH_take (i := 11) (oi := { dst := some 40, op := Op.binOp BinOp.neq 58 (Operand.tmp 33) (Operand.tmp 39) 58, type := 4, pos := "ref.go:85", after := #[{ on := 4, ground := Ground.data }, { on := 10, ground := Ground.data }, { on := 3, ground := Ground.guard }], guard := some (3, false) }) (v := .bool true) rfl (by kernel_rfl) (by kernel_rfl) (by kernel_rfl) (fun _ _ _ h => (h : False).elim) (Or.inl ⟨by rfl, fun W1 hW1 => ?_⟩) hHeld ?_
  · obtain ⟨s1, s2⟩ := hW1; go_simp
  simp only [Act.put, List.setIfInBounds_toArray, List.set_cons_zero, List.set_cons_succ]
  refine wpAnyH_take (i := 12) (oi := { dst := some 41, op := Op.pick (Operand.tmp 32) (Operand.const (Value.bool true)) (Operand.tmp 40), type := 4, pos := "ref.go:85", after := #[{ on := 3, ground := Ground.data }, { on := 11, ground := Ground.data }], guard := none }) (v := .bool true) rfl (by kernel_rfl) (by kernel_rfl) (by kernel_rfl) (fun _ _ _ h => (h : False).elim) (Or.inl ⟨by rfl, fun W1 hW1 => ?_⟩) hHeld ?_
  · obtain ⟨s1, s2⟩ := hW1; go_simp
  simp only [Act.put, List.setIfInBounds_toArray, List.set_cons_zero, List.set_cons_succ]
  refine wpAnyH_take (i := 13) (oi := { dst := some 42, op := Op.move (Operand.tmp 41), type := 4, pos := "ref.go:85", after := #[{ on := 12, ground := Ground.data }, { on := 10, ground := Ground.chain }], guard := none }) (v := .bool true) rfl (by kernel_rfl) (by kernel_rfl) (by kernel_rfl) (fun _ _ _ h => (h : False).elim) (Or.inl ⟨by rfl, fun W1 hW1 => ?_⟩) hHeld ?_
  · obtain ⟨s1, s2⟩ := hW1; go_simp
  simp only [Act.put, List.setIfInBounds_toArray, List.set_cons_zero, List.set_cons_succ]
  refine wpAnyH_take (i := 14) (oi := { dst := some 43, op := Op.move (Operand.tmp 7), type := 3, pos := "ref.go:85", after := #[{ on := 13, ground := Ground.guard }], guard := some (13, false) }) (v := undef) rfl (by kernel_rfl) (by kernel_rfl) (by kernel_rfl) (fun _ _ _ h => (h : False).elim) (Or.inr ⟨by rfl, rfl⟩) hHeld ?_
  simp only [Act.put, List.setIfInBounds_toArray, List.set_cons_zero, List.set_cons_succ]
  refine wpAnyH_take (i := 15) (oi := { dst := some 44, op := Op.move (Operand.tmp 4), type := 80, pos := "ref.go:85", after := #[{ on := 13, ground := Ground.guard }], guard := some (13, false) }) (v := undef) rfl (by kernel_rfl) (by kernel_rfl) (by kernel_rfl) (fun _ _ _ h => (h : False).elim) (Or.inr ⟨by rfl, rfl⟩) hHeld ?_
  simp only [Act.put, List.setIfInBounds_toArray, List.set_cons_zero, List.set_cons_succ]
  refine wpAnyH_take (i := 16) (oi := { dst := some 45, op := Op.call { callee := Callee.value (Operand.func 69), args := #[Operand.tmp 44], argTypes := #[80] }, type := 3, pos := "ref.go:85", after := #[{ on := 15, ground := Ground.data }, { on := 13, ground := Ground.chain }, { on := 13, ground := Ground.guard }], guard := some (13, false) }) (v := undef) rfl (by kernel_rfl) (by kernel_rfl) (by kernel_rfl) (fun _ _ _ h => (h : False).elim) (Or.inr ⟨by rfl, rfl⟩) hHeld ?_
  simp only [Act.put, List.setIfInBounds_toArray, List.set_cons_zero, List.set_cons_succ]
  refine wpAnyH_take (i := 17) (oi := { dst := some 46, op := Op.binOp BinOp.mul 3 (Operand.const (Value.int IntKind.i64 64)) (Operand.tmp 45) 3, type := 3, pos := "ref.go:85", after := #[{ on := 16, ground := Ground.data }, { on := 13, ground := Ground.guard }], guard := some (13, false) }) (v := undef) rfl (by kernel_rfl) (by kernel_rfl) (by kernel_rfl) (fun _ _ _ h => (h : False).elim) (Or.inr ⟨by rfl, rfl⟩) hHeld ?_
  simp only [Act.put, List.setIfInBounds_toArray, List.set_cons_zero, List.set_cons_succ]
  refine wpAnyH_take (i := 18) (oi := { dst := some 47, op := Op.binOp BinOp.gtr 3 (Operand.tmp 43) (Operand.tmp 46) 3, type := 4, pos := "ref.go:85", after := #[{ on := 14, ground := Ground.data }, { on := 17, ground := Ground.data }, { on := 13, ground := Ground.guard }], guard := some (13, false) }) (v := undef) rfl (by kernel_rfl) (by kernel_rfl) (by kernel_rfl) (fun _ _ _ h => (h : False).elim) (Or.inr ⟨by rfl, rfl⟩) hHeld ?_
  simp only [Act.put, List.setIfInBounds_toArray, List.set_cons_zero, List.set_cons_succ]
  refine wpAnyH_take (i := 19) (oi := { dst := some 48, op := Op.pick (Operand.tmp 42) (Operand.const (Value.bool true)) (Operand.tmp 47), type := 4, pos := "ref.go:85", after := #[{ on := 13, ground := Ground.data }, { on := 18, ground := Ground.data }], guard := none }) (v := .bool true) rfl (by kernel_rfl) (by kernel_rfl) (by kernel_rfl) (fun _ _ _ h => (h : False).elim) (Or.inl ⟨by rfl, fun W1 hW1 => ?_⟩) hHeld ?_
  · obtain ⟨s1, s2⟩ := hW1; go_simp
  simp only [Act.put, List.setIfInBounds_toArray, List.set_cons_zero, List.set_cons_succ]
  refine wpAnyH_done (by kernel_rfl) ?_ _
  refine NoPanic.normal ?_
  all_goals
    go_wp2
    go_ret2
    have e := HOP.out
    rw [if_neg (by omega), if_neg HB2.out] at e
    unfold ROpenPost
    rw [e]
    exact ⟨B6.out, rfl⟩

set_option maxRecDepth 100000 in
set_option maxHeartbeats 4000000 in
theorem ropen_c (m ab bb cb n : Nat) (sf : List Sec) (df : Int → Option Sec) (w : World) (H : RefIs w m ab bb cb n (flushS n sf df) sf (isDs n df)) (hLn : Lens n sf df) (hn : 3 ≤ n) (hby : BytesS sf df) (hA : ¬ 1 < (curS sf df 0).getD 0 0) (hB : curS sf df 0 = superB ((curS sf df 0).getD 0 0) (numB (((curS sf df 0).drop 1).take 4)) (numB (((curS sf df 0).drop 5).take 4))) (hC : (allB n : Int) < numB (((curS sf df 0).drop 5).take 4)) :
    Calls Try.prog 44 #[.pointer (some ⟨m, 0, none⟩)] w (ROpenPost w m ab bb cb n sf df) := by
  have hsm := H.small
  obtain ⟨s, HS⟩ : ∃ s, Hid (s = curS sf df 0) := ⟨_, Lib.hid rfl⟩
  have hs64 : s.length = 64 := by rw [HS.out]; exact hLn.cur (by omega)
  have hsb : okB s := by rw [HS.out]; exact hby.cur 0
  obtain ⟨r, hr⟩ : ∃ r : Nat, numB ((s.drop 1).take 4) = r := ⟨(numB ((s.drop 1).take 4)).toNat, by have := numB_nonneg (okB_take (okB_drop hsb 1) 4); omega⟩
  obtain ⟨u, hu⟩ : ∃ u : Nat, numB ((s.drop 5).take 4) = u := ⟨(numB ((s.drop 5).take 4)).toNat, by have := numB_nonneg (okB_take (okB_drop hsb 5) 4); omega⟩
  have hrl : r < 4294967296 := by have h1 := numB_lt _ (okB_take (okB_drop hsb 1) 4); rw [show ((s.drop 1).take 4).length = 4 by simp; omega] at h1; omega
  have hul : u < 4294967296 := by have h1 := numB_lt _ (okB_take (okB_drop hsb 5) 4); rw [show ((s.drop 5).take 4).length = 4 by simp; omega] at h1; omega
  obtain ⟨h, hh⟩ : ∃ h : Nat, s.getD 0 0 = h := ⟨(s.getD 0 0).toNat, by have := (hsb (s.getD 0 0) (by rw [List.getD_eq_getElem?_getD, List.getElem?_eq_getElem (by omega : 0 < s.length)]; exact List.getElem_mem _)).1; omega⟩
  have hh256 : h < 256 := by have := (hsb (s.getD 0 0) (by rw [List.getD_eq_getElem?_getD, List.getElem?_eq_getElem (by omega : 0 < s.length)]; exact List.getElem_mem _)).2; omega
  have hop : openP n sf df = if 1 < (h : Int) then none else if s = superB h r u then (if (allB n : Int) < u then none else match splitB u ((halfB n sf df h).take u) with | none => none | some L => if (L.length : Int) = r then some (h, L) else none) else none := by
    unfold openP
    rw [← HS.out, hh, hr, hu]
    simp only [Int.toNat_natCast]
    rfl
  have hs0 : (sc s)[0]? = some (.int .u8 h) := by
    have := hh
    rw [List.getD_eq_getElem?_getD, List.getElem?_eq_getElem (by omega : 0 < s.length)] at this
    simp only [Option.getD_some] at this
    simp [sc, List.getElem?_map, List.getElem?_eq_getElem (by omega : 0 < s.length), this]
  obtain ⟨a0, a1, a2, a3, e1⟩ := four_list (l := (s.drop 1).take 4) (by simp; omega)
  obtain ⟨b0, b1, b2, b3, e5⟩ := four_list (l := (s.drop 5).take 4) (by simp; omega)
  have ho1 := okB_take (okB_drop hsb 1) 4; have ho5 := okB_take (okB_drop hsb 5) 4
  rw [e1] at ho1; rw [e5] at ho5
  have hnl : 0 < (flushS n sf df).length := by rw [flushS_len]; omega
  have hra : ∀ W, Below w.heap.size w W → W.rangeAt ab 0 (sc s) := fun W hW => by
    have := (H.below hW).a.2 0 hnl
    rw [flushS_at hnl, ← HS.out, Nat.zero_mul] at this
    exact this
  have hr1 := hr; have hu1 := hu
  rw [e1] at hr1; rw [e5] at hu1
  have HOP := Lib.hid hop; have HS64 := Lib.hid hs64; have HSB := Lib.hid hsb; have HR := Lib.hid hr; have HU := Lib.hid hu; have HBY := Lib.hid hby; have HS0 := Lib.hid hs0
  have HE1 := Lib.hid e1; have HE5 := Lib.hid e5; have HO1 := Lib.hid ho1; have HO5 := Lib.hid ho5; have HR1 := Lib.hid hr1; have HU1 := Lib.hid hu1; have HRA := Lib.hid hra; have HLn := Lib.hid hLn
  have HH := Lib.hid H
  have HOPH := Lib.hid hh
  obtain ⟨c1, c2, c3, hblk⟩ := H.blk
  obtain ⟨ml, _⟩ := H.lt
  have m0 := hblk.cell 0
  simp at m0
  have m0a := ((balloc (Below.refl w.heap.size w) (.cells #[.pointer (some ⟨m, 0, none⟩), .int .i64 0, .slice none 0 0, .slice none 0 0, .bool false, .int .i64 0] 111)).cell (p := ⟨m, 0, none⟩) ml).trans m0
  clear hop hs64 hsb hr hu hby hs0 H hh hblk e1 e5 ho1 ho5 hra hr1 hu1 hnl hLn
  obtain ⟨z, HZ, hz⟩ := zsec_named
  have Hz := Lib.hid hz; clear hz
  go_enter Try.func44, Try.ntmps44
  go_wp2_with (first
    | ((with_reducible refine is_load 58 (x := .tmp 23) rfl ?_); refine sec_load secT2 rfl _ rfl ab 0 rfl s HS64.out (HRA.out _ (balloc (Below.refl _ _) _)) ?_)
    | ((with_reducible refine sec_alloc secT2 HZ rfl rfl ?_); try simp only [World.size_alloc])
    | ((with_reducible refine is_store 58 (x := .tmp 5) rfl ?_); refine sec_store secT2 rfl _ _ rfl (w.heap.size + 1) 0 s HS64.out rfl rfl ((Blk.newAt (w.alloc (.cells #[.pointer (some ⟨m, 0, none⟩), .int .i64 0, .slice none 0 0, .slice none 0 0, .bool false, .int .i64 0] 111)) (sc z).toArray 58 (w.heap.size + 1) (by simp)).secThere Hz.out) ?_;
       have bW : Below w.heap.size w (((w.alloc (.cells #[.pointer (some ⟨m, 0, none⟩), .int .i64 0, .slice none 0 0, .slice none 0 0, .bool false, .int .i64 0] 111)).alloc (.cells (sc z).toArray 58)).setCells (w.heap.size + 1) 0 (sc s)) := below_cells (balloc (balloc (Below.refl _ _) _) _) (by omega) _ _;
       have bW2 : Below (w.alloc (.cells #[.pointer (some ⟨m, 0, none⟩), .int .i64 0, .slice none 0 0, .slice none 0 0, .bool false, .int .i64 0] 111)).heap.size (w.alloc (.cells #[.pointer (some ⟨m, 0, none⟩), .int .i64 0, .slice none 0 0, .slice none 0 0, .bool false, .int .i64 0] 111)) (((w.alloc (.cells #[.pointer (some ⟨m, 0, none⟩), .int .i64 0, .slice none 0 0, .slice none 0 0, .bool false, .int .i64 0] 111)).alloc (.cells (sc z).toArray 58)).setCells (w.heap.size + 1) 0 (sc s)) := below_cells (balloc (Below.refl _ _) _) (by simp) _ _;
       have Jw3 := Lib.hid ((Blk.newAt (w.alloc (.cells #[.pointer (some ⟨m, 0, none⟩), .int .i64 0, .slice none 0 0, .slice none 0 0, .bool false, .int .i64 0] 111)) (sc z).toArray 58 (w.heap.size + 1) (by simp)).secStore (s' := s) (Hz.out.trans HS64.out.symm));
       have K3 := Lib.hid (show Blk (((w.alloc (.cells #[.pointer (some ⟨m, 0, none⟩), .int .i64 0, .slice none 0 0, .slice none 0 0, .bool false, .int .i64 0] 111)).alloc (.cells (sc z).toArray 58)).setCells (w.heap.size + 1) 0 (sc s)) w.heap.size (RC m 0 (.slice none 0 0) (.slice none 0 0) false 0) 111 from (Blk.new w _ 111).below bW2);
       have B3 := Lib.hid bW; clear bW bW2; generalize (((w.alloc (.cells #[.pointer (some ⟨m, 0, none⟩), .int .i64 0, .slice none 0 0, .slice none 0 0, .bool false, .int .i64 0] 111)).alloc (.cells (sc z).toArray 58)).setCells (w.heap.size + 1) 0 (sc s)) = w3 at *))
  have H3 := Lib.hid (ropen_new HH.out hn B3.out K3.out)
  have zw3 := B3.out.size
  obtain ⟨g, hg⟩ : ∃ g, g = w.heap.size + 1 := ⟨_, rfl⟩
  rw [← hg] at Jw3 ⊢
  obtain ⟨t, ht⟩ : ∃ t, t = w.heap.size := ⟨_, rfl⟩
  rw [← ht] at K3 H3 ⊢
  have HT := Lib.hid ht; have HG := Lib.hid hg
  clear ht hg m0a
  have rd1 := Lib.hid (sec_rd Jw3.out HS64.out 1 4 (by omega)); have rd5 := Lib.hid (sec_rd Jw3.out HS64.out 5 4 (by omega))
  refine (of_any (some ⟨g, 1, none⟩) 63 a0 a1 a2 a3 w3 (by rw [← HE1.out]; exact rd1.out) HO1.out).mono ?_
  rintro e w4 ⟨rfl, B4⟩
  rw [HR1.out]
  have HB4 := Lib.hid B4
  clear B4
  go_wp2_with fail
  refine (of_any (some ⟨g, 5, none⟩) 59 b0 b1 b2 b3 w4 (by rw [← HE5.out]; exact rd5.out.below HB4.out) HO5.out).mono ?_
  rintro e w5 ⟨rfl, B5⟩
  rw [HU1.out]
  have HB35 := Lib.hid (bthen HB4.out B5)
  have J5 := Lib.hid (Jw3.out.below HB35.out)
  have K5 := Lib.hid (K3.out.below HB35.out)
  have H5 := Lib.hid (H3.out.below HB35.out)
  have HB5 := Lib.hid (bthen B3.out HB35.out)
  clear B5 Jw3 K3 H3 B3 rd1 rd5 HB4 HB35 zw3
  have c50 : w5.cell? ⟨g, 0, none⟩ = some (.int .u8 h) := by rw [J5.out.cell]; simpa using HS0.out
  have c51 := K5.out.cell 1; have f51 := K5.out.fr 1
  simp [RC] at c51
  have tl := K5.out.lt; have gl := J5.out.lt
  go_wp2_with fail
  have hC2 : (allB n : Int) < u := by have e3 := HU.out; rw [← HS.out, e3] at hC; exact hC
  clear hC
  have hB2 : s = superB h r u := by have e1 := HOPH.out; have e2 := HR.out; have e3 := HU.out; rw [← HS.out, e1, e2, e3] at hB; exact hB
  have hh1 : h ≤ 1 := by have e := HOPH.out; rw [← HS.out, e] at hA; omega
  have hd : decide ((1 : Int) < (h : Int)) = false := decide_eq_false (by omega)
  clear hA
  obtain ⟨q, hq⟩ : ∃ q, superB h r u = q := ⟨_, rfl⟩
  have hq64 : q.length = 64 := by rw [← hq]; exact superB_len _ _ _
  have hsup : ∀ W, Calls Try.prog 68 #[.int .i64 h, .int .i64 r, .int .i64 u] W fun e w' => e = .returned (.agg (sc q).toArray) ∧ Below W.heap.size W w' := fun W => by
    rw [← hq]; exact rsuper_any h r u W (by omega) (by omega) (by omega) (by omega)
  have HSUP := Lib.hid hsup; have HQ := Lib.hid hq; have HQ64 := Lib.hid hq64
  clear hsup hq hq64
  have hwh : IntKind.i64.wrap (h : Int) = h := by rw [IntKind.wrap_i64]; omega
  have hu' := Try.underlying58
  have hi : (Try.prog.info? 58).map (·.size) = some (sc s).length := by rw [sc_len, HS64.out]; exact secT2.info
  have hl : (sc s).length = 64 := by rw [sc_len, HS64.out]
  have hone := sc_one s
  have hr5 : w5.rangeAt g 0 (sc s) := J5.out.sec
  have heq : ∀ W : World, (Op.equalIn 10000 58 (.agg (sc s).toArray) (.agg (sc q).toArray)).run Try.prog W = .ok true W := fun W => by
    rw [sec_eq Try.underlying58 s q HS64.out HQ64.out W]
    have : s = q := by rw [← HQ.out]; exact hB2
    simp [this]
  have HB2 := Lib.hid hB2
  clear hB hB2
  have hab := allB_le hsm
  have hsn := secs_le _ hsm
  have hA4 : ((allB n : Nat) : Int) = 64 * (secs n : Nat) := by unfold allB; omega
  have hC3 : 64 * ((secs n : Nat) : Int) < u := by omega
  have X5 := Lib.hid (bdrew (Below.refl w5.heap.size w5))
  have r1 := c50; have r2 := hr5
  have hw64 : IntKind.i64.wrap (64 * ((secs n : Nat) : Int)) = 64 * ((secs n : Nat) : Int) := by rw [IntKind.wrap_i64]; omega
  have HSECT := Lib.hid (show ∀ W, Below w5.heap.size w5 W → Calls Try.prog 69 #[.pointer (some ⟨t, 0, none⟩)] W (fun e w' => e = .returned (.int .i64 (secs n : Nat)) ∧ w' = W) from fun W hW => rsectors_any t m ab bb cb _ _ W (H5.out.below hW))
  go_region_held3 (fun W => W.cell? ⟨g, 0, none⟩ = some (.int .u8 h) ∧ W.rangeAt g 0 (sc s)) (first | exact ⟨r1, r2⟩ | go_keep)
    (first
      | (go_at_call 68; refine (HSUP.out _).mono ?_; rintro e w6 ⟨rfl, hb6⟩
         have X5 := Lib.hid (bthen X5.out hb6); have r1 := (X5.out.cell (p := ⟨g, 0, none⟩) gl).trans c50; have r2 : w6.rangeAt g 0 (sc s) := rangeAt_keep hr5 (X5.out.block _ gl); clear hb6)
      | (go_at_call 69; refine (HSECT.out _ X5.out).mono ?_; rintro e w7 ⟨rfl, hw7⟩; rw [hw7]; clear hw7 w7))
  all_goals
    go_wp2
    go_ret2
    have e := HOP.out
    rw [if_neg (by omega), if_pos HB2.out, if_pos hC2] at e
    unfold ROpenPost
    rw [e]
    exact ⟨bthen HB5.out X5.out, rfl⟩

set_option maxRecDepth 100000 in
set_option maxHeartbeats 4000000 in
theorem ropen_d (m ab bb cb n : Nat) (sf : List Sec) (df : Int → Option Sec) (w : World) (H : RefIs w m ab bb cb n (flushS n sf df) sf (isDs n df)) (hLn : Lens n sf df) (hn : 3 ≤ n) (hby : BytesS sf df) (hA : ¬ 1 < (curS sf df 0).getD 0 0) (hB : curS sf df 0 = superB ((curS sf df 0).getD 0 0) (numB (((curS sf df 0).drop 1).take 4)) (numB (((curS sf df 0).drop 5).take 4))) (hC : ¬ (allB n : Int) < numB (((curS sf df 0).drop 5).take 4)) :
    Calls Try.prog 44 #[.pointer (some ⟨m, 0, none⟩)] w (ROpenPost w m ab bb cb n sf df) := by
  have hsm := H.small
  obtain ⟨s, HS⟩ : ∃ s, Hid (s = curS sf df 0) := ⟨_, Lib.hid rfl⟩
  have hs64 : s.length = 64 := by rw [HS.out]; exact hLn.cur (by omega)
  have hsb : okB s := by rw [HS.out]; exact hby.cur 0
  obtain ⟨r, hr⟩ : ∃ r : Nat, numB ((s.drop 1).take 4) = r := ⟨(numB ((s.drop 1).take 4)).toNat, by have := numB_nonneg (okB_take (okB_drop hsb 1) 4); omega⟩
  obtain ⟨u, hu⟩ : ∃ u : Nat, numB ((s.drop 5).take 4) = u := ⟨(numB ((s.drop 5).take 4)).toNat, by have := numB_nonneg (okB_take (okB_drop hsb 5) 4); omega⟩
  have hrl : r < 4294967296 := by have h1 := numB_lt _ (okB_take (okB_drop hsb 1) 4); rw [show ((s.drop 1).take 4).length = 4 by simp; omega] at h1; omega
  have hul : u < 4294967296 := by have h1 := numB_lt _ (okB_take (okB_drop hsb 5) 4); rw [show ((s.drop 5).take 4).length = 4 by simp; omega] at h1; omega
  obtain ⟨h, hh⟩ : ∃ h : Nat, s.getD 0 0 = h := ⟨(s.getD 0 0).toNat, by have := (hsb (s.getD 0 0) (by rw [List.getD_eq_getElem?_getD, List.getElem?_eq_getElem (by omega : 0 < s.length)]; exact List.getElem_mem _)).1; omega⟩
  have hh256 : h < 256 := by have := (hsb (s.getD 0 0) (by rw [List.getD_eq_getElem?_getD, List.getElem?_eq_getElem (by omega : 0 < s.length)]; exact List.getElem_mem _)).2; omega
  have hop : openP n sf df = if 1 < (h : Int) then none else if s = superB h r u then (if (allB n : Int) < u then none else match splitB u ((halfB n sf df h).take u) with | none => none | some L => if (L.length : Int) = r then some (h, L) else none) else none := by
    unfold openP
    rw [← HS.out, hh, hr, hu]
    simp only [Int.toNat_natCast]
    rfl
  have hs0 : (sc s)[0]? = some (.int .u8 h) := by
    have := hh
    rw [List.getD_eq_getElem?_getD, List.getElem?_eq_getElem (by omega : 0 < s.length)] at this
    simp only [Option.getD_some] at this
    simp [sc, List.getElem?_map, List.getElem?_eq_getElem (by omega : 0 < s.length), this]
  obtain ⟨a0, a1, a2, a3, e1⟩ := four_list (l := (s.drop 1).take 4) (by simp; omega)
  obtain ⟨b0, b1, b2, b3, e5⟩ := four_list (l := (s.drop 5).take 4) (by simp; omega)
  have ho1 := okB_take (okB_drop hsb 1) 4; have ho5 := okB_take (okB_drop hsb 5) 4
  rw [e1] at ho1; rw [e5] at ho5
  have hnl : 0 < (flushS n sf df).length := by rw [flushS_len]; omega
  have hra : ∀ W, Below w.heap.size w W → W.rangeAt ab 0 (sc s) := fun W hW => by
    have := (H.below hW).a.2 0 hnl
    rw [flushS_at hnl, ← HS.out, Nat.zero_mul] at this
    exact this
  have hr1 := hr; have hu1 := hu
  rw [e1] at hr1; rw [e5] at hu1
  have HOP := Lib.hid hop; have HS64 := Lib.hid hs64; have HSB := Lib.hid hsb; have HR := Lib.hid hr; have HU := Lib.hid hu; have HBY := Lib.hid hby; have HS0 := Lib.hid hs0
  have HE1 := Lib.hid e1; have HE5 := Lib.hid e5; have HO1 := Lib.hid ho1; have HO5 := Lib.hid ho5; have HR1 := Lib.hid hr1; have HU1 := Lib.hid hu1; have HRA := Lib.hid hra; have HLn := Lib.hid hLn
  have HH := Lib.hid H
  have HOPH := Lib.hid hh
  obtain ⟨c1, c2, c3, hblk⟩ := H.blk
  obtain ⟨ml, _⟩ := H.lt
  have m0 := hblk.cell 0
  simp at m0
  have m0a := ((balloc (Below.refl w.heap.size w) (.cells #[.pointer (some ⟨m, 0, none⟩), .int .i64 0, .slice none 0 0, .slice none 0 0, .bool false, .int .i64 0] 111)).cell (p := ⟨m, 0, none⟩) ml).trans m0
  clear hop hs64 hsb hr hu hby hs0 H hh hblk e1 e5 ho1 ho5 hra hr1 hu1 hnl hLn
  obtain ⟨z, HZ, hz⟩ := zsec_named
  have Hz := Lib.hid hz; clear hz
  go_enter Try.func44, Try.ntmps44
  go_wp2_with (first
    | ((with_reducible refine is_load 58 (x := .tmp 23) rfl ?_); refine sec_load secT2 rfl _ rfl ab 0 rfl s HS64.out (HRA.out _ (balloc (Below.refl _ _) _)) ?_)
    | ((with_reducible refine sec_alloc secT2 HZ rfl rfl ?_); try simp only [World.size_alloc])
    | ((with_reducible refine is_store 58 (x := .tmp 5) rfl ?_); refine sec_store secT2 rfl _ _ rfl (w.heap.size + 1) 0 s HS64.out rfl rfl ((Blk.newAt (w.alloc (.cells #[.pointer (some ⟨m, 0, none⟩), .int .i64 0, .slice none 0 0, .slice none 0 0, .bool false, .int .i64 0] 111)) (sc z).toArray 58 (w.heap.size + 1) (by simp)).secThere Hz.out) ?_;
       have bW : Below w.heap.size w (((w.alloc (.cells #[.pointer (some ⟨m, 0, none⟩), .int .i64 0, .slice none 0 0, .slice none 0 0, .bool false, .int .i64 0] 111)).alloc (.cells (sc z).toArray 58)).setCells (w.heap.size + 1) 0 (sc s)) := below_cells (balloc (balloc (Below.refl _ _) _) _) (by omega) _ _;
       have bW2 : Below (w.alloc (.cells #[.pointer (some ⟨m, 0, none⟩), .int .i64 0, .slice none 0 0, .slice none 0 0, .bool false, .int .i64 0] 111)).heap.size (w.alloc (.cells #[.pointer (some ⟨m, 0, none⟩), .int .i64 0, .slice none 0 0, .slice none 0 0, .bool false, .int .i64 0] 111)) (((w.alloc (.cells #[.pointer (some ⟨m, 0, none⟩), .int .i64 0, .slice none 0 0, .slice none 0 0, .bool false, .int .i64 0] 111)).alloc (.cells (sc z).toArray 58)).setCells (w.heap.size + 1) 0 (sc s)) := below_cells (balloc (Below.refl _ _) _) (by simp) _ _;
       have Jw3 := Lib.hid ((Blk.newAt (w.alloc (.cells #[.pointer (some ⟨m, 0, none⟩), .int .i64 0, .slice none 0 0, .slice none 0 0, .bool false, .int .i64 0] 111)) (sc z).toArray 58 (w.heap.size + 1) (by simp)).secStore (s' := s) (Hz.out.trans HS64.out.symm));
       have K3 := Lib.hid (show Blk (((w.alloc (.cells #[.pointer (some ⟨m, 0, none⟩), .int .i64 0, .slice none 0 0, .slice none 0 0, .bool false, .int .i64 0] 111)).alloc (.cells (sc z).toArray 58)).setCells (w.heap.size + 1) 0 (sc s)) w.heap.size (RC m 0 (.slice none 0 0) (.slice none 0 0) false 0) 111 from (Blk.new w _ 111).below bW2);
       have B3 := Lib.hid bW; clear bW bW2; generalize (((w.alloc (.cells #[.pointer (some ⟨m, 0, none⟩), .int .i64 0, .slice none 0 0, .slice none 0 0, .bool false, .int .i64 0] 111)).alloc (.cells (sc z).toArray 58)).setCells (w.heap.size + 1) 0 (sc s)) = w3 at *))
  have H3 := Lib.hid (ropen_new HH.out hn B3.out K3.out)
  have zw3 := B3.out.size
  obtain ⟨g, hg⟩ : ∃ g, g = w.heap.size + 1 := ⟨_, rfl⟩
  rw [← hg] at Jw3 ⊢
  obtain ⟨t, ht⟩ : ∃ t, t = w.heap.size := ⟨_, rfl⟩
  rw [← ht] at K3 H3 ⊢
  have HT := Lib.hid ht; have HG := Lib.hid hg
  clear ht hg m0a
  have rd1 := Lib.hid (sec_rd Jw3.out HS64.out 1 4 (by omega)); have rd5 := Lib.hid (sec_rd Jw3.out HS64.out 5 4 (by omega))
  refine (of_any (some ⟨g, 1, none⟩) 63 a0 a1 a2 a3 w3 (by rw [← HE1.out]; exact rd1.out) HO1.out).mono ?_
  rintro e w4 ⟨rfl, B4⟩
  rw [HR1.out]
  have HB4 := Lib.hid B4
  clear B4
  go_wp2_with fail
  refine (of_any (some ⟨g, 5, none⟩) 59 b0 b1 b2 b3 w4 (by rw [← HE5.out]; exact rd5.out.below HB4.out) HO5.out).mono ?_
  rintro e w5 ⟨rfl, B5⟩
  rw [HU1.out]
  have HB35 := Lib.hid (bthen HB4.out B5)
  have J5 := Lib.hid (Jw3.out.below HB35.out)
  have K5 := Lib.hid (K3.out.below HB35.out)
  have H5 := Lib.hid (H3.out.below HB35.out)
  have HB5 := Lib.hid (bthen B3.out HB35.out)
  clear B5 Jw3 K3 H3 B3 rd1 rd5 HB4 HB35 zw3
  have c50 : w5.cell? ⟨g, 0, none⟩ = some (.int .u8 h) := by rw [J5.out.cell]; simpa using HS0.out
  have c51 := K5.out.cell 1; have f51 := K5.out.fr 1
  simp [RC] at c51
  have tl := K5.out.lt; have gl := J5.out.lt
  go_wp2_with fail
  have hC2 : ¬ (allB n : Int) < u := by have e3 := HU.out; rw [← HS.out, e3] at hC; omega
  clear hC
  have hB2 : s = superB h r u := by have e1 := HOPH.out; have e2 := HR.out; have e3 := HU.out; rw [← HS.out, e1, e2, e3] at hB; exact hB
  have hh1 : h ≤ 1 := by have e := HOPH.out; rw [← HS.out, e] at hA; omega
  have hd : decide ((1 : Int) < (h : Int)) = false := decide_eq_false (by omega)
  clear hA
  obtain ⟨q, hq⟩ : ∃ q, superB h r u = q := ⟨_, rfl⟩
  have hq64 : q.length = 64 := by rw [← hq]; exact superB_len _ _ _
  have hsup : ∀ W, Calls Try.prog 68 #[.int .i64 h, .int .i64 r, .int .i64 u] W fun e w' => e = .returned (.agg (sc q).toArray) ∧ Below W.heap.size W w' := fun W => by
    rw [← hq]; exact rsuper_any h r u W (by omega) (by omega) (by omega) (by omega)
  have HSUP := Lib.hid hsup; have HQ := Lib.hid hq; have HQ64 := Lib.hid hq64
  clear hsup hq hq64
  have hwh : IntKind.i64.wrap (h : Int) = h := by rw [IntKind.wrap_i64]; omega
  have hu' := Try.underlying58
  have hi : (Try.prog.info? 58).map (·.size) = some (sc s).length := by rw [sc_len, HS64.out]; exact secT2.info
  have hl : (sc s).length = 64 := by rw [sc_len, HS64.out]
  have hone := sc_one s
  have hr5 : w5.rangeAt g 0 (sc s) := J5.out.sec
  have heq : ∀ W : World, (Op.equalIn 10000 58 (.agg (sc s).toArray) (.agg (sc q).toArray)).run Try.prog W = .ok true W := fun W => by
    rw [sec_eq Try.underlying58 s q HS64.out HQ64.out W]
    have : s = q := by rw [← HQ.out]; exact hB2
    simp [this]
  have HB2 := Lib.hid hB2
  clear hB hB2
  have hab := allB_le hsm
  have hsn := secs_le _ hsm
  have hA4 : ((allB n : Nat) : Int) = 64 * (secs n : Nat) := by unfold allB; omega
  have hC3 : ¬ 64 * ((secs n : Nat) : Int) < u := by omega
  have X5 := Lib.hid (bdrew (Below.refl w5.heap.size w5))
  have r1 := c50; have r2 := hr5
  have hw64 : IntKind.i64.wrap (64 * ((secs n : Nat) : Int)) = 64 * ((secs n : Nat) : Int) := by rw [IntKind.wrap_i64]; omega
  have HSECT := Lib.hid (show ∀ W, Below w5.heap.size w5 W → Calls Try.prog 69 #[.pointer (some ⟨t, 0, none⟩)] W (fun e w' => e = .returned (.int .i64 (secs n : Nat)) ∧ w' = W) from fun W hW => rsectors_any t m ab bb cb _ _ W (H5.out.below hW))
  go_region_held3 (fun W => W.cell? ⟨g, 0, none⟩ = some (.int .u8 h) ∧ W.rangeAt g 0 (sc s)) (first | exact ⟨r1, r2⟩ | go_keep)
    (first
      | (go_at_call 68; refine (HSUP.out _).mono ?_; rintro e w6 ⟨rfl, hb6⟩
         have X5 := Lib.hid (bthen X5.out hb6); have r1 := (X5.out.cell (p := ⟨g, 0, none⟩) gl).trans c50; have r2 : w6.rangeAt g 0 (sc s) := rangeAt_keep hr5 (X5.out.block _ gl); clear hb6)
      | (go_at_call 69; refine (HSECT.out _ X5.out).mono ?_; rintro e w7 ⟨rfl, hw7⟩; rw [hw7]; clear hw7 w7))
  all_goals
    have K6 := Lib.hid (K5.out.below X5.out)
    have H6 := Lib.hid (H5.out.below X5.out)
    have c60 := r1
    have c61 := K6.out.cell 1; have f61 := K6.out.fr 1
    simp [RC] at c61
    have tl6 := K6.out.lt
    have B6 := Lib.hid (bthen HB5.out X5.out)
    clear c50 c51 f51 tl gl r2 hr5 K5 H5 HB5 hu' hi hl hone heq HSUP hA4 r1 hw64 HSECT
    have hgt : g ≠ t := by rw [HG.out, HT.out]; omega
    go_wp2_with fail
    clear hC3
    have K7 := Lib.hid (show Blk (w6.setCell ⟨t, 1, none⟩ (.int .i64 h)) t (RC m h (.slice none 0 0) (.slice none 0 0) false 0) 111 by
      have := K6.out.set 1 (.int .i64 h)
      simpa [RC] using this)
    have H7 := Lib.hid (rtape_fld (q := ⟨n, sf, df, h, [], [], false, 0⟩) H6.out ((Kept.refl w6 (fun k => k = t)).set (p := ⟨t, 1, none⟩) rfl (.int .i64 h)) (fun A c A' c' hb => by
      have := hb.set 1 (.int .i64 h)
      simpa [RC] using this) rfl rfl rfl rfl rfl ⟨hn, hh1, Nat.zero_le 4, fun x hx => (by cases hx), fun x hx => (by cases hx), Nat.zero_le _, Nat.zero_le _, fun h => absurd h (by show ¬ 0 < 0; omega)⟩)
    have B7 := Lib.hid (B6.out.setCell (p := ⟨t, 1, none⟩) (by rw [HT.out]; exact Nat.le_refl _) (.int .i64 h))
    generalize w6.setCell ⟨t, 1, none⟩ (.int .i64 h) = w7 at *
    refine (rhalf_any t m ab bb cb _ _ h w7 H7.out hh1).mono ?_
    rintro e w8 ⟨v8, rfl, O8, B8⟩
    obtain ⟨a8, c8, rfl⟩ := O8.form
    have hhl : (halfB n sf df h).length = allB n := half_len HLn.out hh1
    rw [show (halfB (TD.n ⟨n, sf, df, h, [], [], false, 0⟩) (TD.sf ⟨n, sf, df, h, [], [], false, 0⟩) (TD.df ⟨n, sf, df, h, [], [], false, 0⟩) h).length = allB n from hhl] at O8 ⊢
    have HO8 := Lib.hid (show Own8 w8 w7.heap.size (.slice a8 (allB n) c8) (halfB n sf df h) from O8)
    have cap8 := O8.cap
    have H8 := Lib.hid (H7.out.below B8); have K8 := Lib.hid (K7.out.below B8); have B18 := Lib.hid (bthen B7.out B8)
    have hua : u ≤ allB n := by omega
    obtain ⟨cap1, cap2⟩ := cap8
    have hu0 : ((u : Nat) : Int) ≤ c8 := by omega
    have huc : u ≤ c8 := by omega
    have HHL := Lib.hid hhl
    clear O8 B8 K6 H6 c60 c61 f61 tl6 K7 hhl
    go_wp2_with fail
    refine (parse_any a8 u c8 r ((halfB n sf df h).take u) w8 (HO8.out.rdu.pre u hua) (okB_take (HBY.out.half n h) u) (by omega) huc cap2).mono ?_
    rintro e w9 ⟨B9, M9⟩
    have HB9 := Lib.hid B9
    have B19 := Lib.hid (bthen B18.out B9)
    have e := HOP.out
    rw [if_neg (by omega), if_pos HB2.out, if_neg (show ¬ (allB n : Int) < u by omega)] at e
    cases hsp : splitB u ((halfB n sf df h).take u) with
    | none =>
      rw [hsp] at M9
      obtain rfl := M9
      rw [hsp] at e
      have E := Lib.hid e
      clear e hsp B9 HO8
      go_wp2
      go_ret2
      unfold ROpenPost
      rw [E.out]
      exact ⟨B19.out, rfl⟩
    | some L =>
      rw [hsp] at M9
      obtain ⟨v9, rfl, R9⟩ := M9
      obtain ⟨a9, c9, rfl⟩ := R9.form
      rw [hsp] at e
      have E := Lib.hid e
      obtain ⟨s1, s2⟩ := splitB_sound _ _ _ (okB_take (HBY.out.half n h) u) hsp
      have hsz : sizeB L = u := by rw [← framesB_len, s1, List.length_take, HHL.out]; omega
      have HSZ := Lib.hid hsz; have HS2 := Lib.hid s2; have HR9 := Lib.hid R9
      clear e hsp B9 HO8 s1 s2 hsz R9
      by_cases hLr : (L.length : Int) = r
      · have HLR := Lib.hid hLr
        have K9 := Lib.hid (K8.out.below HB9.out)
        have c92 := K9.out.cell 2; have f92 := K9.out.fr 2
        simp [RC] at c92
        have tl9 := K9.out.lt
        go_wp2
        go_ret2
        unfold ROpenPost
        rw [E.out, if_pos HLR.out]
        have hfin : RTPost w8 (Fo m ab bb cb t) t m ab bb cb ⟨n, sf, df, h, L, [], false, 0⟩ (w9.setCell ⟨t, 2, none⟩ (.slice a9 L.length c9)) := by
          refine rtape_set2 (q := ⟨n, sf, df, h, L, [], false, 0⟩) (c := c9) (A' := none) (c' := 0) H8.out ((Kept.of_below HB9.out (fun k => k = t)).set (p := ⟨t, 2, none⟩) rfl _) ?_ ((RdBX.row (X := Ly w8 (Fo m ab bb cb t) t ab bb cb) HR9.out (fun g hg => .inl hg.1)).keep (fun g hg hlt => Below.heap_setCell _ _ _ _ (fun e => ?_)) (by simp [World.setCell]) (fun g hg _ => hg)) ⟨rfl, fun h => absurd h (by show ¬ 0 < 0; omega)⟩ rfl rfl rfl ⟨hn, hh1, Nat.zero_le 4, HS2.out, fun x hx => (by cases hx), by show sizeB L ≤ allB n; rw [HSZ.out]; omega, by show sizeB L + 0 ≤ allB n; rw [HSZ.out]; omega, fun h => absurd h (by show ¬ 0 < 0; omega)⟩
          · have := K9.out.set 2 (.slice a9 L.length c9)
            simpa [RC] using this
          · have e : g = t := e
            rcases hg with hg | hg
            · have := H8.out.lt t H8.out.fr'; omega
            · exact hg.2.1 e
        obtain ⟨k1, F', h', hF'⟩ := hfin
        refine ⟨B19.out.setCell (p := ⟨t, 2, none⟩) (by rw [HT.out]; exact Nat.le_refl _) _, t, F', rfl, h', fun k hk => ?_⟩
        rcases hF' k hk with hk | hk
        · rcases hk with hk | hk | hk | hk | hk
          · exact .inl hk
          · exact .inr (.inl hk)
          · exact .inr (.inr (.inl hk))
          · exact .inr (.inr (.inr (.inl hk)))
          · exact .inr (.inr (.inr (.inr (by rw [hk, HT.out]; exact Nat.le_refl _))))
        · exact .inr (.inr (.inr (.inr (Nat.le_trans B18.out.size hk))))
      · have E2 := Lib.hid (E.out.trans (if_neg hLr))
        go_wp2
        go_ret2
        unfold ROpenPost
        rw [E2.out]
        exact ⟨B19.out, rfl⟩

theorem ropen_any (m ab bb cb n : Nat) (sf : List Sec) (df : Int → Option Sec) (w : World) (H : RefIs w m ab bb cb n (flushS n sf df) sf (isDs n df)) (hLn : Lens n sf df) (hn : 3 ≤ n) (hby : BytesS sf df) :
    Calls Try.prog 44 #[.pointer (some ⟨m, 0, none⟩)] w (ROpenPost w m ab bb cb n sf df) := by
  by_cases hA : 1 < (curS sf df 0).getD 0 0
  · exact ropen_a m ab bb cb n sf df w H hLn hn hby hA
  · by_cases hB : curS sf df 0 = superB ((curS sf df 0).getD 0 0) (numB (((curS sf df 0).drop 1).take 4)) (numB (((curS sf df 0).drop 5).take 4))
    · by_cases hC : (allB n : Int) < numB (((curS sf df 0).drop 5).take 4)
      · exact ropen_c m ab bb cb n sf df w H hLn hn hby hA hB hC
      · exact ropen_d m ab bb cb n sf df w H hLn hn hby hA hB hC
    · exact ropen_b m ab bb cb n sf df w H hLn hn hby hA hB
end Go.Proofs.Ytlgimhhhlpmjcaa
