/- The tape: end. -/
import Derived.Test.YtlgimhhhlpmjcaaTapN
import Derived.Deep.Upon
set_option linter.unusedVariables false
set_option linter.unusedSimpArgs false
namespace Go.Proofs.Ytlgimhhhlpmjcaa
open Go.RowKit Go.Maps Go.WideMaps Go.Shelf

section
variable {P : Program} {ops : Array Oper} {o : Oper} {a : Act} {w : World} {K : Act → World → Prop} {Q : Exit → Act → World → Prop} {E : Prop}
/-- Nothing is appended. -/
theorem step_app0 (hgd : o.guard = none) (s x : Operand) (t : TypeId)
    (ho : o.op = .call { callee := .builtin .append, args := #[s, x], argTypes := #[t, t] })
    (e : TypeId) (hinfo : (P.info? e).isSome = true) (ht : P.underlying t = some (.slice e))
    (base : Option Addr) (sLen sCap : Nat) (hle : sLen ≤ sCap) (hs : a.eval s = .slice base sLen sCap) (A : Option Addr) (m c : Nat) (hx : a.eval x = .slice A m c) (hm : m = 0)
    (h : K (a.put o.dst (.slice base sLen sCap)) w) : if Region.wanted o (yielded ops a.tmps) = true then Oper.wp P o a w K Q else E := by
  subst hm
  obtain ⟨i, hi⟩ := Option.isSome_iff_exists.1 hinfo
  have hsrc : Src P i.size t (.slice A 0 c) 0 [] w := by
    cases A with
    | none => exact Src.ofNil w ht c
    | some ad => exact Src.ofSlice w ht ad 0 c [] (by simp) (fun j u h => by simp at h) (fun u h => by cases h)
  have hr := run_append_nothing (P := P) w t t o.type e i ht hi base sLen sCap hle _ hsrc
  rw [if_pos (by simp [Region.wanted, hgd])]
  unfold Oper.wp execOp
  simp only [ho, resolve, invoke, builtin, Sem.run_bind, Sem.run_pure, Result.andThen_ok, List.map_toArray, List.map_cons, List.map_nil, hs, hx, hr]
  exact h
end

theorem RowR.cap {w : World} {F : Nat → Prop} {A : Option Addr} {n c : Nat} {L : List Bs} (h : RowR w F (.slice A n c) L) : n ≤ c := by
  obtain ⟨⟨vs, h1, _⟩, _⟩ := h
  rcases h1.2 with ⟨e, h0⟩ | ⟨g', cap, cur, e, _, _, h3, _⟩
  · cases e; omega
  · cases e; exact h3
theorem ktset {w w' : World} {t : Nat} (h : Kept w w' (fun k => k = t)) (o : Nat) (u : Value) : Kept w (w'.setCell ⟨t, o, none⟩ u) (fun k => k = t) := h.set (S := fun k => k = t) (p := ⟨t, o, none⟩) rfl u
/-- Records of another row. -/
theorem RowR.join {w w' : World} {F F' : Nat → Prop} {v v' : Value} {L M : List Bs} {vs us : List Value} (h : RowR w F v L) (hvs : ∀ i (h : i < L.length), ∃ u, vs[i]? = some u ∧ RecIs w F u L[i]) (hl : vs.length = L.length)
    (hus : ∀ i (h : i < M.length), ∃ u, us[i]? = some u ∧ RecIs w F u M[i]) (ho : w'.ownsRow 0 31 1 v' (L.length + M.length) (vs ++ us)) (hg : w.grownBy w' v.ownBlock) (hn : NewOr w v v')
    (hF : ∀ g, F g → F' g) (hF2 : ∀ g, w.heap.size ≤ g → g < w'.heap.size → F' g) (hlt : ∀ g, F g → g < w.heap.size) : RowR w' F' v' (L ++ M) := by
  have hkeep : ∀ g cs fr, F g → w.heap[g]? = some (.cells cs 5 fr) → w'.heap[g]? = w.heap[g]? := fun g cs fr hFg hb => hg.block g (hlt g hFg) (fun e => by
    obtain ⟨cs', hb'⟩ := h.blk e.symm
    rw [hb] at hb'
    simp at hb')
  refine ⟨⟨vs ++ us, by simpa using ho, fun i hi => ?_⟩, fun g hgv => ?_⟩
  · rw [List.length_append] at hi
    by_cases hi' : i < L.length
    · obtain ⟨u', e, hr⟩ := hvs i hi'
      refine ⟨u', by rw [List.getElem?_append_left (by omega)]; exact e, ?_⟩
      rw [List.getElem_append_left hi']
      exact (hr.keep hkeep).mono hF
    · obtain ⟨u', e, hr⟩ := hus (i - L.length) (by omega)
      refine ⟨u', by rw [List.getElem?_append_right (by omega), hl]; exact e, ?_⟩
      rw [List.getElem_append_right (by omega)]
      exact (hr.keep hkeep).mono hF
  · rcases hn g hgv with e | e
    · exact hF g (h.foot g e)
    · exact hF2 g e (ho.lt g hgv).2

def endP (p : TD) : TD := { n := p.n, sf := p.sf, df := p.df, h := placeH p, L := (if p.fr then [] else p.L) ++ p.W, W := [], fr := false, dn := 0 }
theorem endP_ok {p : TD} (h : p.Ok) : (endP p).Ok := by
  have hfw := h.fitW
  have hh : placeH p ≤ 1 := by unfold placeH; have := h.h1; split <;> omega
  have hsz : sizeB ((if p.fr then [] else p.L) ++ p.W) ≤ allB p.n := by
    rw [sizeB_append]
    cases hf : p.fr <;> simp [hf, sizeB_nil] at hfw ⊢ <;> omega
  refine ⟨h.n3, hh, by show 0 ≤ 4; omega, fun x hx => ?_, fun x hx => (by cases hx), hsz, ?_, fun h => absurd h (by show ¬ 0 < 0; omega)⟩
  · rcases List.mem_append.1 hx with hx | hx
    · cases hf : p.fr <;> simp [hf] at hx
      exact h.rl x hx
    · exact h.rw x hx
  · show (if false = true then 0 else sizeB ((if p.fr then [] else p.L) ++ p.W)) + sizeB [] ≤ allB p.n
    rw [if_neg (by simp), sizeB_nil]
    omega
theorem end_size (p : TD) : placeU p + sizeB p.W = sizeB (endP p).L := by
  unfold placeU endP
  rw [sizeB_append]
  cases p.fr <;> simp [sizeB_nil]

theorem tape_end {w w6 w9 : World} {F : Nat → Prop} {t d sb mb : Nat} {p : TD} {cv v6 : Value} {cs : Array Value} (H : TapeIs w F t d sb mb p) (K : Blk w t cs 89) (R : RowR w F cv p.L)
    (K6 : Kept w w6 (fun k => k = t ∨ cv.ownBlock = some k)) {cs6 : Array Value} (B6 : Blk w6 t cs6 89) (K9 : Kept w6 w9 (fun k => k = t)) (z9 : w9.heap.size = w6.heap.size)
    (B9 : Blk w9 t (TC d (placeH p) v6 (placeU p + sizeB p.W) (.slice none 0 0) false 0) 89)
    (R6 : RowR w6 (fun k => F k ∨ (w.heap.size ≤ k ∧ k < w6.heap.size)) v6 (endP p).L) : TPost w F t d sb mb (endP p) w9 := by
  obtain ⟨dt1, dt2, dt3⟩ := H.disk.ne_blk K (by decide) (by decide)
  have hrow : ∀ g, cv.ownBlock = some g → g ≠ d ∧ g ≠ sb ∧ g ≠ mb := fun g hg => by
    obtain ⟨cs, hb⟩ := row_isBlk R hg
    exact H.disk.ne_blk hb (by decide) (by decide)
  have K69 : Kept w w9 (fun k => k = t ∨ cv.ownBlock = some k) := K6.trans2 K9 (fun k _ hk => .inl hk)
  rw [end_size] at B9
  have hlt6 : t < w6.heap.size := by have := K6.size; have := K.lt; omega
  have h9 : ∀ g, g ≠ t → g < w6.heap.size → w9.heap[g]? = w6.heap[g]? := fun g hg hlt => K9.block g hlt hg
  refine ⟨K69.mono (fun k _ hk => ?_), fun k => F k ∨ (w.heap.size ≤ k ∧ k < w6.heap.size), ⟨fun k hk => ?_, ⟨v6, .slice none 0 0, B9, ?_, RowR.nil _ _, fun g _ hg => by cases hg⟩, ?_, .inl H.ft, .inl H.fd, .inl H.fs, .inl H.fm, endP_ok H.ok⟩, fun k hk => hk.imp id fun h => h.1⟩
  · rcases hk with rfl | hk
    · exact H.ft
    · exact R.foot k hk
  · rw [z9]
    rcases hk with hk | hk
    · have := H.lt k hk; have := K6.size; omega
    · exact hk.2
  · refine R6.keep (fun g hg => h9 g (R6.ne_blk hg B6 (by decide)) (R6.lt hg)) (fun g cs fr _ hb => h9 g (fun e => ?_) (Array.getElem?_eq_some_iff.1 hb).1)
    subst e
    rw [show w6.heap[g]? = _ from B6] at hb; simp at hb
  · exact H.disk.keep (K69.block d (H.lt d H.fd) (fun hS => by rcases hS with e | e; exact dt1 e.symm; exact (hrow d e).1 rfl)) (K69.block sb (H.lt sb H.fs) (fun hS => by rcases hS with e | e; exact dt2 e.symm; exact (hrow sb e).2.1 rfl)) (K69.block mb (H.lt mb H.fm) (fun hS => by rcases hS with e | e; exact dt3 e.symm; exact (hrow mb e).2.2 rfl))

theorem TPost.trans {w w1 w' : World} {F F1 : Nat → Prop} {t d sb mb : Nat} {p' : TD} (h1 : Kept w w1 F) (h3 : ∀ k, F1 k → F k ∨ w.heap.size ≤ k) (k : TPost w1 F1 t d sb mb p' w') : TPost w F t d sb mb p' w' := by
  obtain ⟨k1, F2, k2, k3⟩ := k
  refine ⟨h1.trans2 k1 (fun k hk hF => ?_), F2, k2, fun k hk => ?_⟩
  · rcases h3 k hF with e | e
    · exact e
    · omega
  · rcases k3 k hk with e | e
    · exact h3 k e
    · have := h1.size; exact .inr (by omega)

set_option maxRecDepth 100000 in
set_option maxHeartbeats 4000000 in
theorem end_any (t d sb mb : Nat) (F : Nat → Prop) (p : TD) (w : World) (H : TapeIs w F t d sb mb p) :
    Calls Try.prog 61 #[.pointer (some ⟨t, 0, none⟩)] w fun e w' => e = .returned (.tuple #[]) ∧ TPost w F t d sb mb (endP (flushP p)) w' := by
  have HH := Lib.hid H; clear H
  obtain ⟨p1, hp1⟩ : ∃ p1, flushP p = p1 := ⟨_, rfl⟩
  rw [hp1]
  have HP1 := Lib.hid hp1; clear hp1
  go_enter Try.func61, Try.ntmps61
  go_wp2_with fail
  refine (tflush_any t d sb mb F p _ HH.out).mono ?_
  rintro e w1 ⟨rfl, hT⟩
  rw [HP1.out] at hT
  obtain ⟨hK1, F1, H1, hF1⟩ := hT
  obtain ⟨A, c, A', c', K, R, R', hd⟩ := H1.open
  have HKW := Lib.hid hK1; have HF1 := Lib.hid hF1; have HH1 := Lib.hid H1; have HK1 := Lib.hid K; have HR := Lib.hid R; have HR' := Lib.hid R'; have HDS := Lib.hid hd
  have hfl := H1.ok.fitL; have hfw := H1.ok.fitW
  have hab := allB_le H1.small
  have hWl := sizeB_len p1.W; have hLl := sizeB_len p1.L
  have hZ : sizeB p1.W ≤ 32704 := by split at hfw <;> omega
  have hU : placeU p1 ≤ 32704 := by unfold placeU; split <;> omega
  have hL1 : p1.L.length ≤ 32704 := by omega
  have hL2 : p1.W.length ≤ 32704 := by omega
  obtain ⟨h1, hh1⟩ : ∃ h1, placeH p1 = h1 := ⟨_, rfl⟩
  obtain ⟨u1, hu1⟩ : ∃ u1, placeU p1 = u1 := ⟨_, rfl⟩
  obtain ⟨z1, hz1⟩ : ∃ z1, sizeB p1.W = z1 := ⟨_, rfl⟩
  rw [hu1] at hU
  rw [hz1] at hZ
  have HPH := Lib.hid hh1; have HPU := Lib.hid hu1; have HPZ := Lib.hid hz1
  have hwu : wrap64 ((u1 : Int) + z1) = u1 + z1 := by unfold wrap64; omega
  clear hh1 hu1 hz1 hfl hfw hab hWl hLl H1 K R R' hd hK1 hF1
  by_cases hm : p1.W.length = 0
  · have HM := Lib.hid hm; clear hm
    cases hfr : p1.fr with
    | true =>
      have HFR := Lib.hid hfr; clear hfr
      go_wp2_with (first
        | (go_at_call 82; refine (place_any t d sb mb F1 p1 _ HH1.out).mono ?_; rintro e w2 ⟨rfl, B2⟩; rw [HPH.out, HPU.out]
           have K2 := Lib.hid (HK1.out.below B2); have H2 := Lib.hid (HH1.out.below B2); have R2 := Lib.hid (HR.out.below' B2); have R2' := Lib.hid (HR'.out.below' B2); have HB2 := Lib.hid B2
           have k21 := K2.out.cell 1; have k22 := K2.out.cell 2; have k23 := K2.out.cell 3; have k24 := K2.out.cell 4; have k25 := K2.out.cell 5; have k26 := K2.out.cell 6
           simp only [TC, List.getElem?_toArray, List.getElem?_cons_zero, List.getElem?_cons_succ] at k21 k22 k23 k24 k25 k26
           rw [HFR.out] at k25
           have f21 := K2.out.fr 1; have f22 := K2.out.fr 2; have f23 := K2.out.fr 3
           have tl2 := K2.out.lt
           have RD2 := Lib.hid (fun (W : World) (hW : Kept w2 W (fun k => k = t)) => (R2'.out.keptS hW H2.out.lt (fun g hg e => R2'.out.ne_blk hg K2.out (by decide) e) (fun g cs fr hb e => by subst e; rw [show w2.heap[g]? = _ from K2.out] at hb; simp at hb)).rd)
           clear B2)
        | (go_at_call 55; refine (size_any _ _ _ _ _ (RD2.out _ (by first | exact Kept.refl _ _ | exact ktset (Kept.refl _ _) 2 _)) (by rw [HPZ.out]; omega)).mono ?_; rintro e w3 ⟨rfl, hw3⟩; rw [hw3, HPZ.out]; clear hw3 w3))
      have K4 := Lib.hid (show Blk (((w2.setCell ⟨t, 2, none⟩ (.slice none 0 0)).setCell ⟨t, 1, none⟩ (.int .i64 h1)).setCell ⟨t, 3, none⟩ (.int .i64 ((u1 : Int) + z1))) t (TC d h1 (.slice none 0 0) (u1 + z1) (.slice A' p1.W.length c') p1.fr p1.dn) 89 from by
        have := ((K2.out.set 2 (.slice none 0 0)).set 1 (.int .i64 h1)).set 3 (.int .i64 ((u1 : Int) + z1))
        simpa [TC] using this)
      have KK4 := Lib.hid (show Kept w2 (((w2.setCell ⟨t, 2, none⟩ (.slice none 0 0)).setCell ⟨t, 1, none⟩ (.int .i64 h1)).setCell ⟨t, 3, none⟩ (.int .i64 ((u1 : Int) + z1))) (fun k => k = t) from ktset (ktset (ktset (Kept.refl w2 _) 2 _) 1 _) 3 _)
      have z4 : (((w2.setCell ⟨t, 2, none⟩ (.slice none 0 0)).setCell ⟨t, 1, none⟩ (.int .i64 h1)).setCell ⟨t, 3, none⟩ (.int .i64 ((u1 : Int) + z1))).heap.size = w2.heap.size := by simp [World.setCell]
      clear k21 k22 k23 k24 k25 k26 f21 f22 f23 tl2 RD2
      generalize (((w2.setCell ⟨t, 2, none⟩ (.slice none 0 0)).setCell ⟨t, 1, none⟩ (.int .i64 h1)).setCell ⟨t, 3, none⟩ (.int .i64 ((u1 : Int) + z1))) = w4 at *
      have R4' := Lib.hid (R2'.out.keptS KK4.out H2.out.lt (fun g hg e => R2'.out.ne_blk hg K2.out (by decide) e) (fun g cs fr hb e => by subst e; rw [show w2.heap[g]? = _ from K2.out] at hb; simp at hb))
      have R4 := Lib.hid (show RowR w4 F1 (.slice none 0 0) [] from RowR.nil _ _)
      have k42 := K4.out.cell 2; have k44 := K4.out.cell 4; have f42 := K4.out.fr 2
      simp only [TC, List.getElem?_toArray, List.getElem?_cons_zero, List.getElem?_cons_succ] at k42 k44
      have tl4 := K4.out.lt
      have hcv := R4.out.cap
      go_region_law (first
        | (refine step_app0 rfl _ _ 22 rfl 31 (by kernel_rfl) Try.underlying22 none 0 0 (by omega) rfl A' p1.W.length c' rfl HM.out ?_))
      all_goals
        have k45 := K4.out.cell 5; have k46 := K4.out.cell 6; have f44 := K4.out.fr 4; have f45 := K4.out.fr 5; have f46 := K4.out.fr 6
        simp only [TC, List.getElem?_toArray, List.getElem?_cons_zero, List.getElem?_cons_succ] at k45 k46
        have K6 := Lib.hid (K4.out.keep (w' := w4.drew) rfl)
        have hLL : (endP p1).L = [] := by
          have hw0 : p1.W = [] := List.eq_nil_of_length_eq_zero HM.out
          simp [endP, hw0, HFR.out]
        have HLL := Lib.hid hLL; clear hLL
        go_wp2
        go_end0
        refine ⟨rfl, TPost.trans HKW.out HF1.out (TPost.behind HB2.out ?_)⟩
        refine tape_end H2.out K2.out R2.out (w6 := w4.drew) (v6 := (.slice none 0 0)) ?_ K6.out (ktset (ktset (ktset (ktset (Kept.refl _ _) 2 _) 4 _) 5 _) 6 _) (by simp [World.setCell]) ?_ ?_
        · exact (KK4.out.drew).mono (fun k _ hk => .inl hk)
        · have := (((K6.out.set 2 (.slice none 0 0)).set 4 (.slice none 0 0)).set 5 (.bool false)).set 6 (.int .i64 0)
          rw [HPH.out, HPU.out, HPZ.out]
          exact this
        · rw [HLL.out]
          exact (R4.out.same (w' := w4.drew) (fun _ _ => rfl)).mono (fun k hk => .inl hk)
    | false =>
      have HFR := Lib.hid hfr; clear hfr
      go_wp2_with (first
        | (go_at_call 82; refine (place_any t d sb mb F1 p1 _ HH1.out).mono ?_; rintro e w2 ⟨rfl, B2⟩; rw [HPH.out, HPU.out]
           have K2 := Lib.hid (HK1.out.below B2); have H2 := Lib.hid (HH1.out.below B2); have R2 := Lib.hid (HR.out.below' B2); have R2' := Lib.hid (HR'.out.below' B2); have HB2 := Lib.hid B2
           have k21 := K2.out.cell 1; have k22 := K2.out.cell 2; have k23 := K2.out.cell 3; have k24 := K2.out.cell 4; have k25 := K2.out.cell 5; have k26 := K2.out.cell 6
           simp only [TC, List.getElem?_toArray, List.getElem?_cons_zero, List.getElem?_cons_succ] at k21 k22 k23 k24 k25 k26
           rw [HFR.out] at k25
           have f21 := K2.out.fr 1; have f22 := K2.out.fr 2; have f23 := K2.out.fr 3
           have tl2 := K2.out.lt
           have RD2 := Lib.hid (fun (W : World) (hW : Kept w2 W (fun k => k = t)) => (R2'.out.keptS hW H2.out.lt (fun g hg e => R2'.out.ne_blk hg K2.out (by decide) e) (fun g cs fr hb e => by subst e; rw [show w2.heap[g]? = _ from K2.out] at hb; simp at hb)).rd)
           clear B2)
        | (go_at_call 55; refine (size_any _ _ _ _ _ (RD2.out _ (by first | exact Kept.refl _ _ | exact ktset (Kept.refl _ _) 2 _)) (by rw [HPZ.out]; omega)).mono ?_; rintro e w3 ⟨rfl, hw3⟩; rw [hw3, HPZ.out]; clear hw3 w3))
      have K4 := Lib.hid (show Blk ((w2.setCell ⟨t, 1, none⟩ (.int .i64 h1)).setCell ⟨t, 3, none⟩ (.int .i64 ((u1 : Int) + z1))) t (TC d h1 (.slice A p1.L.length c) (u1 + z1) (.slice A' p1.W.length c') p1.fr p1.dn) 89 from by
        have := (K2.out.set 1 (.int .i64 h1)).set 3 (.int .i64 ((u1 : Int) + z1))
        simpa [TC] using this)
      have KK4 := Lib.hid (show Kept w2 ((w2.setCell ⟨t, 1, none⟩ (.int .i64 h1)).setCell ⟨t, 3, none⟩ (.int .i64 ((u1 : Int) + z1))) (fun k => k = t) from ktset (ktset (Kept.refl w2 _) 1 _) 3 _)
      have z4 : ((w2.setCell ⟨t, 1, none⟩ (.int .i64 h1)).setCell ⟨t, 3, none⟩ (.int .i64 ((u1 : Int) + z1))).heap.size = w2.heap.size := by simp [World.setCell]
      clear k21 k22 k23 k24 k25 k26 f21 f22 f23 tl2 RD2
      generalize ((w2.setCell ⟨t, 1, none⟩ (.int .i64 h1)).setCell ⟨t, 3, none⟩ (.int .i64 ((u1 : Int) + z1))) = w4 at *
      have R4' := Lib.hid (R2'.out.keptS KK4.out H2.out.lt (fun g hg e => R2'.out.ne_blk hg K2.out (by decide) e) (fun g cs fr hb e => by subst e; rw [show w2.heap[g]? = _ from K2.out] at hb; simp at hb))
      have R4 := Lib.hid (show RowR w4 F1 (.slice A p1.L.length c) p1.L from R2.out.keptS KK4.out H2.out.lt (fun g hg e => R2.out.ne_blk hg K2.out (by decide) e) (fun g cs fr hb e => by subst e; rw [show w2.heap[g]? = _ from K2.out] at hb; simp at hb))
      have k42 := K4.out.cell 2; have k44 := K4.out.cell 4; have f42 := K4.out.fr 2
      simp only [TC, List.getElem?_toArray, List.getElem?_cons_zero, List.getElem?_cons_succ] at k42 k44
      have tl4 := K4.out.lt
      have hcv := R4.out.cap
      go_region_law (first
        | (refine step_app0 rfl _ _ 22 rfl 31 (by kernel_rfl) Try.underlying22 A p1.L.length c hcv rfl A' p1.W.length c' rfl HM.out ?_))
      all_goals
        have k45 := K4.out.cell 5; have k46 := K4.out.cell 6; have f44 := K4.out.fr 4; have f45 := K4.out.fr 5; have f46 := K4.out.fr 6
        simp only [TC, List.getElem?_toArray, List.getElem?_cons_zero, List.getElem?_cons_succ] at k45 k46
        have K6 := Lib.hid (K4.out.keep (w' := w4.drew) rfl)
        have hLL : (endP p1).L = p1.L := by
          have hw0 : p1.W = [] := List.eq_nil_of_length_eq_zero HM.out
          simp [endP, hw0, HFR.out]
        have HLL := Lib.hid hLL; clear hLL
        go_wp2
        go_end0
        refine ⟨rfl, TPost.trans HKW.out HF1.out (TPost.behind HB2.out ?_)⟩
        refine tape_end H2.out K2.out R2.out (w6 := w4.drew) (v6 := (.slice A p1.L.length c)) ?_ K6.out (ktset (ktset (ktset (ktset (Kept.refl _ _) 2 _) 4 _) 5 _) 6 _) (by simp [World.setCell]) ?_ ?_
        · exact (KK4.out.drew).mono (fun k _ hk => .inl hk)
        · have := (((K6.out.set 2 (.slice A p1.L.length c)).set 4 (.slice none 0 0)).set 5 (.bool false)).set 6 (.int .i64 0)
          rw [HPH.out, HPU.out, HPZ.out]
          exact this
        · rw [HLL.out]
          exact (R4.out.same (w' := w4.drew) (fun _ _ => rfl)).mono (fun k hk => .inl hk)
  · cases hfr : p1.fr with
    | true =>
      have HFR := Lib.hid hfr; clear hfr
      go_wp2_with (first
        | (go_at_call 82; refine (place_any t d sb mb F1 p1 _ HH1.out).mono ?_; rintro e w2 ⟨rfl, B2⟩; rw [HPH.out, HPU.out]
           have K2 := Lib.hid (HK1.out.below B2); have H2 := Lib.hid (HH1.out.below B2); have R2 := Lib.hid (HR.out.below' B2); have R2' := Lib.hid (HR'.out.below' B2); have HB2 := Lib.hid B2
           have k21 := K2.out.cell 1; have k22 := K2.out.cell 2; have k23 := K2.out.cell 3; have k24 := K2.out.cell 4; have k25 := K2.out.cell 5; have k26 := K2.out.cell 6
           simp only [TC, List.getElem?_toArray, List.getElem?_cons_zero, List.getElem?_cons_succ] at k21 k22 k23 k24 k25 k26
           rw [HFR.out] at k25
           have f21 := K2.out.fr 1; have f22 := K2.out.fr 2; have f23 := K2.out.fr 3
           have tl2 := K2.out.lt
           have RD2 := Lib.hid (fun (W : World) (hW : Kept w2 W (fun k => k = t)) => (R2'.out.keptS hW H2.out.lt (fun g hg e => R2'.out.ne_blk hg K2.out (by decide) e) (fun g cs fr hb e => by subst e; rw [show w2.heap[g]? = _ from K2.out] at hb; simp at hb)).rd)
           clear B2)
        | (go_at_call 55; refine (size_any _ _ _ _ _ (RD2.out _ (by first | exact Kept.refl _ _ | exact ktset (Kept.refl _ _) 2 _)) (by rw [HPZ.out]; omega)).mono ?_; rintro e w3 ⟨rfl, hw3⟩; rw [hw3, HPZ.out]; clear hw3 w3))
      have K4 := Lib.hid (show Blk (((w2.setCell ⟨t, 2, none⟩ (.slice none 0 0)).setCell ⟨t, 1, none⟩ (.int .i64 h1)).setCell ⟨t, 3, none⟩ (.int .i64 ((u1 : Int) + z1))) t (TC d h1 (.slice none 0 0) (u1 + z1) (.slice A' p1.W.length c') p1.fr p1.dn) 89 from by
        have := ((K2.out.set 2 (.slice none 0 0)).set 1 (.int .i64 h1)).set 3 (.int .i64 ((u1 : Int) + z1))
        simpa [TC] using this)
      have KK4 := Lib.hid (show Kept w2 (((w2.setCell ⟨t, 2, none⟩ (.slice none 0 0)).setCell ⟨t, 1, none⟩ (.int .i64 h1)).setCell ⟨t, 3, none⟩ (.int .i64 ((u1 : Int) + z1))) (fun k => k = t) from ktset (ktset (ktset (Kept.refl w2 _) 2 _) 1 _) 3 _)
      have z4 : (((w2.setCell ⟨t, 2, none⟩ (.slice none 0 0)).setCell ⟨t, 1, none⟩ (.int .i64 h1)).setCell ⟨t, 3, none⟩ (.int .i64 ((u1 : Int) + z1))).heap.size = w2.heap.size := by simp [World.setCell]
      clear k21 k22 k23 k24 k25 k26 f21 f22 f23 tl2 RD2
      generalize (((w2.setCell ⟨t, 2, none⟩ (.slice none 0 0)).setCell ⟨t, 1, none⟩ (.int .i64 h1)).setCell ⟨t, 3, none⟩ (.int .i64 ((u1 : Int) + z1))) = w4 at *
      have R4' := Lib.hid (R2'.out.keptS KK4.out H2.out.lt (fun g hg e => R2'.out.ne_blk hg K2.out (by decide) e) (fun g cs fr hb e => by subst e; rw [show w2.heap[g]? = _ from K2.out] at hb; simp at hb))
      have R4 := Lib.hid (show RowR w4 F1 (.slice none 0 0) [] from RowR.nil _ _)
      have k42 := K4.out.cell 2; have k44 := K4.out.cell 4; have f42 := K4.out.fr 2
      simp only [TC, List.getElem?_toArray, List.getElem?_cons_zero, List.getElem?_cons_succ] at k42 k44
      have tl4 := K4.out.lt
      have hcv := R4.out.cap
      obtain ⟨⟨us, Ou, Vu⟩, Fu⟩ := R4'.out
      obtain ⟨⟨vs, Ov, Vv⟩, Fv⟩ := R4.out
      have HOU := Lib.hid Ou; have HVU := Lib.hid Vu; have HOV := Lib.hid Ov; have HVV := Lib.hid Vv
      have hul : us.length = p1.W.length := by have := Ou.1; omega
      have hvl : vs.length = 0 := by have := Ov.1; simpa using this
      have HUL := Lib.hid hul; have HVL := Lib.hid hvl
      obtain ⟨g', hg'⟩ : ∃ g', A' = some ⟨g', 0, none⟩ := by
        rcases Ou.2 with ⟨e, e0⟩ | ⟨g, cap, cur, e, _⟩
        · exact absurd e0 hm
        · cases e; exact ⟨g, rfl⟩
      subst hg'
      have hcells := HOU.out.cells (g := g') rfl
      have HCE := Lib.hid hcells
      have hone : ∀ u ∈ us, u.oneCell' = true := fun u hu => by
        obtain ⟨i, hi, rfl⟩ := List.getElem_of_mem hu
        obtain ⟨u', e, hr⟩ := HVU.out i (by omega)
        rw [List.getElem?_eq_getElem hi] at e
        cases e; exact hr.one
      have HON := Lib.hid hone
      clear Ou Vu Fu Ov Vv Fv hul hvl hcells hone
      go_region_law (first
        | (refine step_app2 rfl _ _ 22 rfl 0 31 (.slice none 0 0) 24 bbInfo Try.underlying22 rfl (.slice none 0 0) 0 vs rfl (ownsRow_keep HOV.out (fun _ _ => rfl)) ⟨g', 0, none⟩ p1.W.length c' us rfl HUL.out ?_ ?_ ?_ ?_ ?_ ?_ ?_
           (exact HCE.out)
           (exact HON.out)
           (omega)
           (unfold maxLen; omega)
           (omega)
           (omega)
           intro v6 w6 O6 G6 N6
           obtain ⟨va6, vc6, rfl⟩ := row_form O6
           have K6 := Lib.hid ((K4.out.keep (w' := w4.drew) rfl).grown G6 (fun e => (R4.out.ne_blk e.symm K4.out (by decide) rfl)))
           have k62 := K6.out.cell 2; have f62 := K6.out.fr 2
           simp only [TC, List.getElem?_toArray, List.getElem?_cons_zero, List.getElem?_cons_succ] at k62
           have tl6 := K6.out.lt
           have HO6 := Lib.hid O6; have HG6 := Lib.hid G6; have HN6 := Lib.hid N6; clear O6 G6 N6))
      all_goals
        have k64 := K6.out.cell 4; have k65 := K6.out.cell 5; have k66 := K6.out.cell 6; have f64 := K6.out.fr 4; have f65 := K6.out.fr 5; have f66 := K6.out.fr 6
        simp only [TC, List.getElem?_toArray, List.getElem?_cons_zero, List.getElem?_cons_succ] at k64 k65 k66
        have hLL : (endP p1).L = ([] : List Bs) ++ p1.W := by simp [endP, HFR.out]
        have HLL := Lib.hid hLL; clear hLL
        have H4lt := Lib.hid (fun g (hg : F1 g) => (by have := H2.out.lt g hg; have := KK4.out.size; omega : g < w4.heap.size))
        go_wp2
        go_end0
        refine ⟨rfl, TPost.trans HKW.out HF1.out (TPost.behind HB2.out ?_)⟩
        refine tape_end H2.out K2.out R2.out (w6 := w6) (v6 := .slice va6 (0 + p1.W.length) vc6) ?_ K6.out (ktset (ktset (ktset (ktset (Kept.refl _ _) 2 _) 4 _) 5 _) 6 _) (by simp [World.setCell]) ?_ ?_
        · exact (KK4.out.drew.mono (fun k _ hk => .inl hk)).trans (Kept.of_grown HG6.out (fun k e => by cases e))
        · have := (((K6.out.set 2 (.slice va6 p1.W.length vc6)).set 4 (.slice none 0 0)).set 5 (.bool false)).set 6 (.int .i64 0)
          rw [HPH.out, HPU.out, HPZ.out, Nat.zero_add]
          exact this
        · rw [HLL.out]
          have R4d := R4.out.same (w' := w4.drew) (fun _ _ => rfl)
          refine RowR.join (w := w4.drew) R4d (vs := vs) (us := us) (fun i hi => ?_) HVL.out (fun i hi => ?_) HO6.out HG6.out HN6.out (fun g hg => .inl hg) (fun g h1 h2 => .inr ⟨by have : w4.heap.size ≤ g := h1; omega, h2⟩) (fun g hg => H4lt.out g hg)
          · obtain ⟨u, e, hr⟩ := HVV.out i hi
            exact ⟨u, e, hr.keep (fun _ _ _ _ _ => rfl)⟩
          · obtain ⟨u, e, hr⟩ := HVU.out i hi
            exact ⟨u, e, hr.keep (fun _ _ _ _ _ => rfl)⟩
    | false =>
      have HFR := Lib.hid hfr; clear hfr
      go_wp2_with (first
        | (go_at_call 82; refine (place_any t d sb mb F1 p1 _ HH1.out).mono ?_; rintro e w2 ⟨rfl, B2⟩; rw [HPH.out, HPU.out]
           have K2 := Lib.hid (HK1.out.below B2); have H2 := Lib.hid (HH1.out.below B2); have R2 := Lib.hid (HR.out.below' B2); have R2' := Lib.hid (HR'.out.below' B2); have HB2 := Lib.hid B2
           have k21 := K2.out.cell 1; have k22 := K2.out.cell 2; have k23 := K2.out.cell 3; have k24 := K2.out.cell 4; have k25 := K2.out.cell 5; have k26 := K2.out.cell 6
           simp only [TC, List.getElem?_toArray, List.getElem?_cons_zero, List.getElem?_cons_succ] at k21 k22 k23 k24 k25 k26
           rw [HFR.out] at k25
           have f21 := K2.out.fr 1; have f22 := K2.out.fr 2; have f23 := K2.out.fr 3
           have tl2 := K2.out.lt
           have RD2 := Lib.hid (fun (W : World) (hW : Kept w2 W (fun k => k = t)) => (R2'.out.keptS hW H2.out.lt (fun g hg e => R2'.out.ne_blk hg K2.out (by decide) e) (fun g cs fr hb e => by subst e; rw [show w2.heap[g]? = _ from K2.out] at hb; simp at hb)).rd)
           clear B2)
        | (go_at_call 55; refine (size_any _ _ _ _ _ (RD2.out _ (by first | exact Kept.refl _ _ | exact ktset (Kept.refl _ _) 2 _)) (by rw [HPZ.out]; omega)).mono ?_; rintro e w3 ⟨rfl, hw3⟩; rw [hw3, HPZ.out]; clear hw3 w3))
      have K4 := Lib.hid (show Blk ((w2.setCell ⟨t, 1, none⟩ (.int .i64 h1)).setCell ⟨t, 3, none⟩ (.int .i64 ((u1 : Int) + z1))) t (TC d h1 (.slice A p1.L.length c) (u1 + z1) (.slice A' p1.W.length c') p1.fr p1.dn) 89 from by
        have := (K2.out.set 1 (.int .i64 h1)).set 3 (.int .i64 ((u1 : Int) + z1))
        simpa [TC] using this)
      have KK4 := Lib.hid (show Kept w2 ((w2.setCell ⟨t, 1, none⟩ (.int .i64 h1)).setCell ⟨t, 3, none⟩ (.int .i64 ((u1 : Int) + z1))) (fun k => k = t) from ktset (ktset (Kept.refl w2 _) 1 _) 3 _)
      have z4 : ((w2.setCell ⟨t, 1, none⟩ (.int .i64 h1)).setCell ⟨t, 3, none⟩ (.int .i64 ((u1 : Int) + z1))).heap.size = w2.heap.size := by simp [World.setCell]
      clear k21 k22 k23 k24 k25 k26 f21 f22 f23 tl2 RD2
      generalize ((w2.setCell ⟨t, 1, none⟩ (.int .i64 h1)).setCell ⟨t, 3, none⟩ (.int .i64 ((u1 : Int) + z1))) = w4 at *
      have R4' := Lib.hid (R2'.out.keptS KK4.out H2.out.lt (fun g hg e => R2'.out.ne_blk hg K2.out (by decide) e) (fun g cs fr hb e => by subst e; rw [show w2.heap[g]? = _ from K2.out] at hb; simp at hb))
      have R4 := Lib.hid (show RowR w4 F1 (.slice A p1.L.length c) p1.L from R2.out.keptS KK4.out H2.out.lt (fun g hg e => R2.out.ne_blk hg K2.out (by decide) e) (fun g cs fr hb e => by subst e; rw [show w2.heap[g]? = _ from K2.out] at hb; simp at hb))
      have k42 := K4.out.cell 2; have k44 := K4.out.cell 4; have f42 := K4.out.fr 2
      simp only [TC, List.getElem?_toArray, List.getElem?_cons_zero, List.getElem?_cons_succ] at k42 k44
      have tl4 := K4.out.lt
      have hcv := R4.out.cap
      obtain ⟨⟨us, Ou, Vu⟩, Fu⟩ := R4'.out
      obtain ⟨⟨vs, Ov, Vv⟩, Fv⟩ := R4.out
      have HOU := Lib.hid Ou; have HVU := Lib.hid Vu; have HOV := Lib.hid Ov; have HVV := Lib.hid Vv
      have hul : us.length = p1.W.length := by have := Ou.1; omega
      have hvl : vs.length = p1.L.length := by have := Ov.1; simpa using this
      have HUL := Lib.hid hul; have HVL := Lib.hid hvl
      obtain ⟨g', hg'⟩ : ∃ g', A' = some ⟨g', 0, none⟩ := by
        rcases Ou.2 with ⟨e, e0⟩ | ⟨g, cap, cur, e, _⟩
        · exact absurd e0 hm
        · cases e; exact ⟨g, rfl⟩
      subst hg'
      have hcells := HOU.out.cells (g := g') rfl
      have HCE := Lib.hid hcells
      have hone : ∀ u ∈ us, u.oneCell' = true := fun u hu => by
        obtain ⟨i, hi, rfl⟩ := List.getElem_of_mem hu
        obtain ⟨u', e, hr⟩ := HVU.out i (by omega)
        rw [List.getElem?_eq_getElem hi] at e
        cases e; exact hr.one
      have HON := Lib.hid hone
      clear Ou Vu Fu Ov Vv Fv hul hvl hcells hone
      go_region_law (first
        | (refine step_app2 rfl _ _ 22 rfl 0 31 (.slice none 0 0) 24 bbInfo Try.underlying22 rfl (.slice A p1.L.length c) p1.L.length vs rfl (ownsRow_keep HOV.out (fun _ _ => rfl)) ⟨g', 0, none⟩ p1.W.length c' us rfl HUL.out ?_ ?_ ?_ ?_ ?_ ?_ ?_
           (exact HCE.out)
           (exact HON.out)
           (omega)
           (unfold maxLen; omega)
           (omega)
           (omega)
           intro v6 w6 O6 G6 N6
           obtain ⟨va6, vc6, rfl⟩ := row_form O6
           have K6 := Lib.hid ((K4.out.keep (w' := w4.drew) rfl).grown G6 (fun e => (R4.out.ne_blk e.symm K4.out (by decide) rfl)))
           have k62 := K6.out.cell 2; have f62 := K6.out.fr 2
           simp only [TC, List.getElem?_toArray, List.getElem?_cons_zero, List.getElem?_cons_succ] at k62
           have tl6 := K6.out.lt
           have HO6 := Lib.hid O6; have HG6 := Lib.hid G6; have HN6 := Lib.hid N6; clear O6 G6 N6))
      all_goals
        have k64 := K6.out.cell 4; have k65 := K6.out.cell 5; have k66 := K6.out.cell 6; have f64 := K6.out.fr 4; have f65 := K6.out.fr 5; have f66 := K6.out.fr 6
        simp only [TC, List.getElem?_toArray, List.getElem?_cons_zero, List.getElem?_cons_succ] at k64 k65 k66
        have hLL : (endP p1).L = p1.L ++ p1.W := by simp [endP, HFR.out]
        have HLL := Lib.hid hLL; clear hLL
        have H4lt := Lib.hid (fun g (hg : F1 g) => (by have := H2.out.lt g hg; have := KK4.out.size; omega : g < w4.heap.size))
        go_wp2
        go_end0
        refine ⟨rfl, TPost.trans HKW.out HF1.out (TPost.behind HB2.out ?_)⟩
        refine tape_end H2.out K2.out R2.out (w6 := w6) (v6 := .slice va6 (p1.L.length + p1.W.length) vc6) ?_ K6.out (ktset (ktset (ktset (ktset (Kept.refl _ _) 2 _) 4 _) 5 _) 6 _) (by simp [World.setCell]) ?_ ?_
        · exact (KK4.out.drew.mono (fun k _ hk => .inl hk)).trans (Kept.of_grown HG6.out (fun k e => .inr e))
        · have := (((K6.out.set 2 (.slice va6 (p1.L.length + p1.W.length) vc6)).set 4 (.slice none 0 0)).set 5 (.bool false)).set 6 (.int .i64 0)
          rw [HPH.out, HPU.out, HPZ.out]
          exact this
        · rw [HLL.out]
          have R4d := R4.out.same (w' := w4.drew) (fun _ _ => rfl)
          refine RowR.join (w := w4.drew) R4d (vs := vs) (us := us) (fun i hi => ?_) HVL.out (fun i hi => ?_) HO6.out HG6.out HN6.out (fun g hg => .inl hg) (fun g h1 h2 => .inr ⟨by have : w4.heap.size ≤ g := h1; omega, h2⟩) (fun g hg => H4lt.out g hg)
          · obtain ⟨u, e, hr⟩ := HVV.out i hi
            exact ⟨u, e, hr.keep (fun _ _ _ _ _ => rfl)⟩
          · obtain ⟨u, e, hr⟩ := HVU.out i hi
            exact ⟨u, e, hr.keep (fun _ _ _ _ _ => rfl)⟩
end Go.Proofs.Ytlgimhhhlpmjcaa
