/- The document's tape: target, Step where it lays, marks, flushes. -/
import Derived.Test.YtlgimhhhlpmjcaaTapMa
import Derived.Test.YtlgimhhhlpmjcaaTapPw
set_option linter.unusedVariables false
set_option linter.unusedSimpArgs false
namespace Go.Proofs.Ytlgimhhhlpmjcaa
open Go.RowKit Go.Maps Go.WideMaps Go.Shelf

theorem own8_base {w : World} {base base' : Nat} {v : Value} {xs : Bs} (h : Own8 w base v xs) (hb : base' ≤ base) : Own8 w base' v xs := by
  refine ⟨h.1, ?_⟩
  rcases h.2 with h' | ⟨g, cap, cur, e, e2, e3⟩
  · exact .inl h'
  · exact .inr ⟨g, cap, cur, e, Nat.le_trans hb e2, e3⟩
theorem own8_keep {w w' : World} {base n c : Nat} {A : Option Addr} {xs : Bs} {v : Value} {j : Nat} (h : Own8 w base (.slice A n c) xs) (hg : w.grownBy w' v.ownBlock) (hv : v.ownBlock = some j) (hj : j < base) : RdU8 w' A n xs := by
  refine (h.rd).keep (fun b2 o2 e2 hl2 => hg.block b2 hl2 (fun e => ?_)) hg.size
  have h2 := h.lt b2 (by rw [e2]; rfl)
  rw [hv] at e
  cases e
  omega
theorem own8_keep2 {w w' : World} {o : Obj} {base n c : Nat} {A : Option Addr} {xs : Bs} {k k' : Nat} (h : Own8 w base (.slice A n c) xs) (hg : (w.alloc o).grownBy w' (Value.slice (some ⟨w.heap.size, 0, none⟩) k k').ownBlock) : RdU8 w' A n xs := by
  refine ((h.rd).below (balloc (Below.refl _ _) o)).keep (fun b2 o2 e2 hl2 => hg.block b2 hl2 (fun e => ?_)) hg.size
  have h2 := h.lt b2 (by rw [e2]; rfl)
  have e' : b2 = w.heap.size := Option.some.inj e
  omega
set_option maxRecDepth 100000 in
set_option maxHeartbeats 2000000 in
theorem target_old (r m ab bb cb : Nat) (F : Nat → Prop) (p : TD) (w : World) (H : RTapeIs w F r m ab bb cb p) (hf : p.fr = false) :
    Calls Try.prog 91 #[.pointer (some ⟨r, 0, none⟩)] w fun e w' => ∃ a c, e = .returned (.tuple #[.int .i64 (placeH p : Nat), .slice a (sizeB (newL p)) c, .int .i64 (placeU p : Nat)]) ∧ Own8 w' w.heap.size (.slice a (sizeB (newL p)) c) (framesB (newL p)) ∧ Below w.heap.size w w' := by
  obtain ⟨A, c, A', c', K, R, R'⟩ := H.blk
  have k1 := K.cell 1; have k2 := K.cell 2; have k3 := K.cell 3; have k4 := K.cell 4
  simp [RC] at k1 k2 k3 k4
  rw [hf] at k4
  have tl := K.lt
  have h1 := H.ok.h1
  have hab := allB_le H.small
  have hfw := H.ok.fitW
  have hfl := H.ok.fitL
  rw [if_neg (by rw [hf]; simp)] at hfw
  have hL : sizeB p.L ≤ 32704 := by omega
  have hW : sizeB p.W ≤ 32704 := by omega
  have HN := Lib.hid (show framesB (newL p) = framesB p.L ++ framesB p.W by rw [newL_frames, hf]; rfl)
  have HNS := Lib.hid (show sizeB (newL p) = sizeB p.L + sizeB p.W by unfold newL; rw [hf, sizeB_append]; rfl)
  have HPH := Lib.hid (show placeH p = p.h by unfold placeH; rw [hf]; rfl)
  have HPU := Lib.hid (show placeU p = sizeB p.L by unfold placeU; rw [hf]; rfl)
  have HR := Lib.hid R.rd
  have HR' := Lib.hid R'.rd
  have HFL := Lib.hid (framesB_len p.L)
  have HFW := Lib.hid (framesB_len p.W)
  have HTL := Lib.hid tl
  have q0 := Lib.hid (show ∀ W, Below w.heap.size w W → W.cell? ⟨r, 1, none⟩ = some (.int .i64 p.h) ∧ W.cell? ⟨r, 3, none⟩ = some (.slice A' p.W.length c') from fun W hW => ⟨(hW.cell (p := ⟨r, 1, none⟩) tl).trans k1, (hW.cell (p := ⟨r, 3, none⟩) tl).trans k3⟩)
  clear K R R' H hf hfw hab hfl
  go_enter Try.func91, Try.ntmps91
  go_wp2_with fail
  refine (rframes_any A _ c p.L w HR.out (by omega)).mono ?_
  rintro e w4 ⟨v4, rfl, O4, B4⟩
  obtain ⟨a4, c4, rfl⟩ := O4.form
  rw [HFL.out] at O4 ⊢
  have HB4 := Lib.hid B4
  have H4 := Lib.hid O4
  have z4 := B4.size
  have HR4 := Lib.hid (HR'.out.below B4)
  have hr4 : r < w4.heap.size := Nat.lt_of_lt_of_le tl z4
  clear O4 B4 k1 k2 k3 k4
  have q4 := Lib.hid (show ∀ W, Below w4.heap.size w4 W → W.cell? ⟨r, 1, none⟩ = some (.int .i64 p.h) ∧ W.cell? ⟨r, 3, none⟩ = some (.slice A' p.W.length c') from fun W hW => q0.out W (bthen HB4.out hW))
  go_wp2_with fail
  have X0 := Lib.hid (bdrew (Below.refl w4.heap.size w4))
  have XA := Lib.hid (bdrew (balloc (Below.refl w4.heap.size w4) (.cells #[] 5)))
  have EA : Hid (Own8 (w4.alloc (.cells #[] 5)).drew w4.heap.size (.slice (some ⟨w4.heap.size, 0, none⟩) 0 0) []) := Lib.hid (own8_below (own8_lit w4 [] 0 rfl (by omega)) (bdrew (Below.refl _ _)))
  have r1 := (q4.out _ X0.out).1; have r3 := (q4.out _ X0.out).2
  have s1 := (q4.out _ XA.out).1; have s3 := (q4.out _ XA.out).2
  go_region_held3 (fun W => W.cell? ⟨r, 1, none⟩ = some (.int .i64 p.h) ∧ W.cell? ⟨r, 3, none⟩ = some (.slice A' p.W.length c')) (first | exact ⟨r1, r3⟩ | exact ⟨s1, s3⟩ | exact ⟨(q4.out _ (balloc X6.out _)).1, (q4.out _ (balloc X6.out _)).2⟩ | go_keep)
    (first
      | (go_at_call 90; refine (rframes_any A' _ c' p.W _ (HR4.out.below X0.out) (by omega)).mono ?_
         rintro e w6 ⟨v6, rfl, O6, B6⟩; obtain ⟨a6, c6, rfl⟩ := O6.form; rw [HFW.out] at O6 ⊢
         have X6 := Lib.hid (bthen X0.out B6); have r1 := (q4.out _ X6.out).1; have r3 := (q4.out _ X6.out).2
         have HF6 := Lib.hid O6; clear O6 B6)
      | (go_at_call 90; refine (rframes_any A' _ c' p.W _ (HR4.out.below XA.out) (by omega)).mono ?_
         rintro e w6 ⟨v6, rfl, O6, B6⟩; obtain ⟨a6, c6, rfl⟩ := O6.form; rw [HFW.out] at O6 ⊢
         have X6 := Lib.hid (bthen XA.out B6); have r1 := (q4.out _ X6.out).1; have r3 := (q4.out _ X6.out).2
         have EA6 := Lib.hid (own8_below EA.out B6)
         have HF6 := Lib.hid O6; clear O6 B6)
      | (go_at_call 90; refine (rframes_any A' _ c' p.W _ (HR4.out.below X5.out) (by omega)).mono ?_
         rintro e w6 ⟨v6, rfl, O6, B6⟩; obtain ⟨a6, c6, rfl⟩ := O6.form; rw [HFW.out] at O6 ⊢
         have HO56 := Lib.hid (own8_below HO5.out B6)
         have X6 := Lib.hid (bthen X5.out B6); have r1 := (q4.out _ X6.out).1; have r3 := (q4.out _ X6.out).2
         have HF6 := Lib.hid O6.rdu; clear O6 B6 HO5 X5)
      | (refine step_app8 rfl _ _ rfl w4.heap.size _ [] rfl EA.out _ _ _ (framesB p.L) rfl (H4.out.rdu.below XA.out) (by simp; omega) XA.out.size ?_
         intro v5 w5 O5 G5; rw [List.nil_append] at O5; obtain ⟨a5, c5, rfl⟩ := O5.form; rw [HFL.out] at O5 ⊢
         have X5 := Lib.hid (XA.out.grown G5 XA.out.size (fun j hj => by cases hj; exact Nat.le_refl _)); have r1 := (q4.out _ X5.out).1; have r3 := (q4.out _ X5.out).2
         have HO5 := Lib.hid O5; clear O5 G5)
      | (refine step_app8 rfl _ _ rfl w4.heap.size _ [] rfl EA6.out _ _ _ (framesB p.L) rfl (H4.out.rdu.below X6.out) (by simp; omega) X6.out.size ?_
         intro v5 w5 O5 G5; rw [List.nil_append] at O5; obtain ⟨a5, c5, rfl⟩ := O5.form; rw [HFL.out] at O5 ⊢
         have HF6 := Lib.hid (own8_keep HF6.out G5 rfl (by show w4.heap.size < _; simp; try omega))
         have X6 := Lib.hid (X6.out.grown G5 X6.out.size (fun j hj => by cases hj; exact Nat.le_refl _)); have r1 := (q4.out _ X6.out).1; have r3 := (q4.out _ X6.out).2
         have HO56 := Lib.hid O5; clear O5 G5)
      | (refine step_app8 rfl _ _ rfl w4.heap.size _ [] rfl (Own8.lit w6 [] w4.heap.size w6.heap.size 0 rfl rfl X6.out.size (by omega)) _ _ _ (framesB p.L) rfl (H4.out.rdu.below (balloc X6.out _)) (by simp; omega) (balloc X6.out _).size ?_
         intro v5 w5 O5 G5; rw [List.nil_append] at O5; obtain ⟨a5, c5, rfl⟩ := O5.form; rw [HFL.out] at O5 ⊢
         have HF6 := Lib.hid (own8_keep2 HF6.out G5)
         have X6 := Lib.hid ((balloc X6.out _).grown G5 (balloc X6.out _).size (fun j hj => by cases hj; exact X6.out.size)); have r1 := (q4.out _ X6.out).1; have r3 := (q4.out _ X6.out).2
         have HO56 := Lib.hid O5; clear O5 G5)
      | (refine step_app8 rfl _ _ rfl w4.heap.size _ (framesB p.L) rfl HO56.out _ _ _ (framesB p.W) rfl HF6.out (by rw [HFL.out]; omega) X6.out.size ?_
         intro v8 w8 O8 G8
         have X8 := Lib.hid (X6.out.grown G8 X6.out.size (fun j hj => (HO56.out.lt j hj).1)); have r1 := (q4.out _ X8.out).1; have r3 := (q4.out _ X8.out).2
         rw [← HN.out] at O8
         obtain ⟨a8, c8, rfl⟩ := O8.form; rw [framesB_len] at O8 ⊢
         have HO8 := Lib.hid O8; clear O8 G8))
  all_goals
    go_wp2
    go_ret3
    refine ⟨a8, c8, ?_, own8_base (own8_below HO8.out (Below.refl _ _)) z4, bthen HB4.out X8.out⟩
    rw [HPU.out, HPH.out]
    first | rfl | (simp [IntKind.wrap_i64]; omega) | (simp only [IntKind.wrap_i64]; congr 1; congr 1; omega)
end Go.Proofs.Ytlgimhhhlpmjcaa
namespace Go.Proofs.Ytlgimhhhlpmjcaa

/-- The state of a tape's disk, where others may have written. -/
structure RSt (p : TD) : Prop where
  lens : Lens p.n p.sf p.df
  by' : BytesS p.sf p.df
  dn3 : p.dn ≤ 3
  old : p.dn = 0 → Cont p.n (curS p.sf p.df) p.h p.L
  new : 1 ≤ p.dn → Cont p.n (curS p.sf p.df) (placeH p) (newL p)
theorem RSt.step {p : TD} (h : p.Ok) (S : RSt p) : RSt (stepP p) := by
  unfold stepP
  cases he : emptyP p with
  | true => rw [if_pos rfl]; exact S
  | false =>
    rw [if_neg (by simp)]
    have hn0 : 0 < p.n := by have := h.n3; omega
    have hH := placeH_le h.h1
    have hNs := newL_size h
    have hi := incP_ok h S.dn3 he
    have hd3 := S.dn3
    have hcase : p.dn = 0 ∨ p.dn = 1 ∨ p.dn = 2 ∨ p.dn = 3 := by omega
    rcases hcase with hd | hd | hd | hd <;> rw [hd]
    · refine ⟨Lens.lay hi S.lens, BytesS.lay hi S.lens S.by', (by show p.dn + 1 ≤ 3; omega), fun hh => ?_, fun _ => ?_⟩
      · exfalso
        have hh : p.dn + 1 = 0 := hh
        omega
      · exact lay_new (p := incP p) hi S.lens (S.old hd)
    · refine ⟨S.lens.flush, S.by'.flush, (by show p.dn + 1 ≤ 3; omega), fun hh => ?_, fun _ => ?_⟩
      · exfalso
        have hh : p.dn + 1 = 0 := hh
        omega
      · exact cont_congr hH hNs (S.new (by omega)) (fun i hi => curS_flush rfl hi)
    · have hnew := S.new (by omega)
      have hcur : ∀ i, 1 ≤ i → curS p.sf (markP (incP p)).df i = curS p.sf p.df i := fun i h1 => by
        show curS p.sf (putL p.df 0 (superB (placeH p : Nat) (cntP p : Nat) (placeU p + sizeB p.W : Nat))) i = _
        rw [curS_put0, if_neg (by omega)]
      refine ⟨⟨S.lens.len, S.lens.each, fun i s e => ?_⟩, ⟨S.by'.1, fun i s e => ?_⟩, (by show p.dn + 1 ≤ 3; omega), fun hh => ?_, fun _ => ?_⟩
      · have e : putL p.df 0 (superB (placeH p : Nat) (cntP p : Nat) (placeU p + sizeB p.W : Nat)) i = some s := e
        unfold putL at e
        split at e
        · rename_i hi0
          cases e
          exact ⟨by omega, by show i < (p.n : Int); omega, superB_len _ _ _⟩
        · exact S.lens.sup i s e
      · have e : putL p.df 0 (superB (placeH p : Nat) (cntP p : Nat) (placeU p + sizeB p.W : Nat)) i = some s := e
        unfold putL at e
        split at e
        · cases e; exact okB_super _ _ _
        · exact S.by'.2 i s e
      · exfalso
        have hh : p.dn + 1 = 0 := hh
        omega
      · exact cont_high hH hNs hnew (fun i h1 _ => hcur i h1)
    · refine ⟨S.lens.flush, S.by'.flush, Nat.zero_le 3, fun _ => ?_, fun hh => ?_⟩
      · exact cont_congr hH hNs (S.new (by omega)) (fun i hi => curS_flush rfl hi)
      · exact absurd hh (by show ¬ 1 ≤ 0; omega)
theorem RSt.commitN : ∀ (m : Nat) (p : TD), p.Ok → RSt p → RSt (commitN m p) ∧ (commitN m p).Ok
  | 0, p, h, S => ⟨S, h⟩
  | m + 1, p, h, S => by
    unfold Go.Proofs.Ytlgimhhhlpmjcaa.commitN
    have h1 := stepP_ok h S.dn3
    have S1 := RSt.step h S
    split
    · exact ⟨S1, h1⟩
    · exact RSt.commitN m _ h1 S1
theorem RSt.commit {p : TD} (h : p.Ok) (S : RSt p) : RSt (commitP p) := (RSt.commitN _ p h S).1
theorem RSt.waits {p q : TD} (S : RSt p) (hd : p.dn = 0) (h1 : q.n = p.n) (h2 : q.sf = p.sf) (h3 : q.df = p.df) (h4 : q.h = p.h) (h5 : q.L = p.L) (h6 : q.dn = 0) : RSt q :=
  ⟨by rw [h1, h2, h3]; exact S.lens, by rw [h2, h3]; exact S.by', by omega, fun _ => by rw [h1, h2, h3, h4, h5]; exact S.old hd, fun hh => by omega⟩
theorem errA_dn {p : TD} {x : Bs} (h : errA p x = 0) : p.dn = 0 := by
  unfold errA at h
  split at h
  · omega
  · split at h
    · omega
    · rename_i h2
      rw [not_or] at h2
      omega
theorem errR_dn {p : TD} {M : List Bs} (h : errR p M = 0) : p.dn = 0 := by
  unfold errR at h
  split at h
  · omega
  · split at h
    · omega
    · omega
theorem RSt.app {p : TD} (S : RSt p) (x : Bs) : RSt (appP p x) := by
  unfold appP
  split
  · rename_i h
    exact S.waits (errA_dn h) rfl rfl rfl rfl rfl (show p.dn = 0 from errA_dn h)
  · exact S
theorem RSt.rep {p : TD} (S : RSt p) (M : List Bs) : RSt (repP p M) := by
  unfold repP
  split
  · rename_i h
    exact S.waits (errR_dn h) rfl rfl rfl rfl rfl (show p.dn = 0 from errR_dn h)
  · exact S
/-- What the code lays is what the document lays. -/
theorem RSt.layB {p : TD} (h : p.Ok) (S : RSt p) (hd : p.dn = 0) : layB p = (framesB (newL p)).drop (placeU p / 64 * 64) := by
  have hfl := h.fitL
  unfold Go.Proofs.Ytlgimhhhlpmjcaa.layB
  rw [newL_frames]
  cases hf : p.fr with
  | true =>
    have e2 : placeU p = 0 := by unfold placeU; rw [hf]; rfl
    rw [e2]
    rfl
  | false =>
    have e1 : placeH p = p.h := by unfold placeH; rw [hf]; rfl
    have e2 : placeU p = sizeB p.L := by unfold placeU; rw [hf]; rfl
    rw [e1, e2, half_held S.lens h.h1 (S.old hd) hfl, if_neg (by simp), List.drop_append_of_le_length (by rw [framesB_len]; exact Nat.div_mul_le_self _ _)]
theorem RSt.open {n : Nat} {sf : List Sec} {df : Int → Option Sec} {h : Nat} {L : List Bs} (H : Lens n sf df) (hb : BytesS sf df) (hn : 3 ≤ n) (e : openP n sf df = some (h, L)) : RSt ⟨n, sf, df, h, L, [], false, 0⟩ ∧ h ≤ 1 ∧ (∀ x ∈ L, rightB x = true ∧ okB x) ∧ sizeB L ≤ allB n := by
  have hs64 : (curS sf df 0).length = 64 := H.cur (by omega)
  have hok := hb.cur 0
  have hu0 := numB_nonneg (okB_take (okB_drop hok 5) 4)
  have hg0 : 0 ≤ (curS sf df 0).getD 0 0 := by
    rw [List.getD_eq_getElem?_getD, List.getElem?_eq_getElem (by omega : 0 < (curS sf df 0).length)]
    exact (hok _ (List.getElem_mem _)).1
  unfold openP at e
  generalize numB (((curS sf df 0).drop 5).take 4) = u at *
  generalize numB (((curS sf df 0).drop 1).take 4) = r at *
  generalize (curS sf df 0).getD 0 0 = g at *
  split at e
  · cases e
  · rename_i hg1
    split at e
    · split at e
      · cases e
      · rename_i hu
        split at e
        · cases e
        · rename_i L' hsp
          split at e
          · cases e
            obtain ⟨s1, s2⟩ := splitB_sound _ _ _ (okB_take (okB_half hb _) _) hsp
            have h1 : g.toNat ≤ 1 := by omega
            have hl := half_len H h1
            have hsz : sizeB L = u.toNat := by rw [← framesB_len, s1, List.length_take, hl]; omega
            refine ⟨⟨H, hb, Nat.zero_le 3, fun _ j hj => ?_, fun hh => absurd hh (by show ¬ 1 ≤ 0; omega)⟩, h1, s2, by omega⟩
            have hj : j < sizeB L := hj
            show atB n g.toNat (curS sf df) j = (framesB L)[j]?
            rw [s1, List.getElem?_take_of_lt (by omega), half_get H h1 (by omega)]
          · cases e
    · cases e
theorem Lens.wr {n : Nat} {sf : List Sec} {df : Int → Option Sec} (h : Lens n sf df) (i : Int) {s : Sec} (hs : s.length = 64) : Lens n sf (wrD n df i s) := by
  unfold wrD
  split
  · rename_i hi
    obtain ⟨k, rfl, hk⟩ := inD_true hi
    refine ⟨h.len, h.each, fun j x e => ?_⟩
    unfold putL at e
    split at e
    · rename_i hj
      cases e
      exact ⟨by omega, by omega, hs⟩
    · exact h.sup j x e
  · exact h
theorem BytesS.wr {n : Nat} {sf : List Sec} {df : Int → Option Sec} (h : BytesS sf df) (i : Int) {s : Sec} (hs : okB s) : BytesS sf (wrD n df i s) := by
  unfold wrD
  split
  · refine ⟨h.1, fun j x e => ?_⟩
    unfold putL at e
    split at e
    · cases e; exact hs
    · exact h.2 j x e
  · exact h
theorem RSt.init (n : Nat) (hn0 : 0 < n) : RSt ⟨n, List.replicate n zsec, fun _ => none, 0, [], [], false, 0⟩ :=
  have S := TSt.init n hn0
  ⟨S.lens, S.by', S.dn3, fun _ => (S.old (Nat.zero_le 2) _ (Mix.cur _)).2, fun hh => absurd hh (by show ¬ 1 ≤ 0; omega)⟩
end Go.Proofs.Ytlgimhhhlpmjcaa
namespace Go.Proofs.Ytlgimhhhlpmjcaa
open Go.RowKit Go.Maps Go.WideMaps Go.Shelf

theorem target_any (r m ab bb cb : Nat) (F : Nat → Prop) (p : TD) (w : World) (H : RTapeIs w F r m ab bb cb p) :
    Calls Try.prog 91 #[.pointer (some ⟨r, 0, none⟩)] w fun e w' => ∃ a c, e = .returned (.tuple #[.int .i64 (placeH p : Nat), .slice a (sizeB (newL p)) c, .int .i64 (placeU p : Nat)]) ∧ Own8 w' w.heap.size (.slice a (sizeB (newL p)) c) (framesB (newL p)) ∧ Below w.heap.size w w' := by
  cases hf : p.fr with
  | true => exact target_fr r m ab bb cb F p w H hf
  | false => exact target_old r m ab bb cb F p w H hf
/-- The document's tape, its own fields written, its lists the same. -/
theorem rtape_fld {w w' : World} {F : Nat → Prop} {r m ab bb cb : Nat} {p q : TD} (H : RTapeIs w F r m ab bb cb p) (K : Kept w w' (fun k => k = r))
    (hb : ∀ A c A' c', Blk w r (RC m p.h (.slice A p.L.length c) (.slice A' p.W.length c') p.fr p.dn) 111 → Blk w' r (RC m q.h (.slice A q.L.length c) (.slice A' q.W.length c') q.fr q.dn) 111)
    (hn : q.n = p.n) (hs : q.sf = p.sf) (hd : q.df = p.df) (hL : q.L = p.L) (hW : q.W = p.W) (hok : q.Ok) : RTapeIs w' F r m ab bb cb q := by
  obtain ⟨n1, n2, n3, n4⟩ := H.ns
  obtain ⟨A, c, A', c', b1, b2, b3⟩ := H.blk
  have hf : ∀ g, F g → g ≠ r → w'.heap[g]? = w.heap[g]? := fun g hg hgr => K.block g (H.lt g hg) hgr
  have hx : ∀ g, Lx F r ab bb cb g → g < w.heap.size → w'.heap[g]? = w.heap[g]? := fun g hg _ => hf g hg.1 hg.2.1
  refine ⟨fun k hk => Nat.lt_of_lt_of_le (H.lt k hk) K.size, ⟨A, c, A', c', hb A c A' c' b1, ?_, ?_⟩, ?_, H.fr', H.fm, H.fa, H.fb, H.fc, hok⟩
  · rw [hL]; exact b2.keep hx K.size (fun g hg _ => hg)
  · rw [hW]; exact b3.keep hx K.size (fun g hg _ => hg)
  · rw [hn, hs, hd]; exact H.ref.keep (hf m H.fm n1.symm) (hf ab H.fa n2.symm) (hf bb H.fb n3.symm) (hf cb H.fc n4.symm)
theorem rtape_inc {w : World} {F : Nat → Prop} {r m ab bb cb : Nat} {p : TD} (H : RTapeIs w F r m ab bb cb p) (h3 : p.dn ≤ 3) (he : emptyP p = false) : RTapeIs (w.setCell ⟨r, 5, none⟩ (.int .i64 ((p.dn : Int) + 1))) F r m ab bb cb (incP p) := by
  refine rtape_fld (q := incP p) H ((Kept.refl w (fun k => k = r)).set (p := ⟨r, 5, none⟩) rfl _) (fun A c A' c' hb => ?_) rfl rfl rfl rfl rfl (incP_ok H.ok h3 he)
  have := hb.set 5 (.int .i64 ((p.dn : Int) + 1))
  have e : ((p.dn + 1 : Nat) : Int) = (p.dn : Int) + 1 := by omega
  show Blk _ r (RC m p.h (.slice A p.L.length c) (.slice A' p.W.length c') p.fr (p.dn + 1)) _
  unfold RC
  rw [e]
  simpa [RC] using this
theorem Kept.cell {w w' : World} {S : Nat → Prop} (h : Kept w w' S) {p : Addr} (hlt : p.block < w.heap.size) (hn : ¬ S p.block) : w'.cell? p = w.cell? p := by unfold World.cell?; rw [h.block p.block hlt hn]
def RStepPost (w : World) (F : Nat → Prop) (r m ab bb cb : Nat) (p : TD) (e : Ending) (w' : World) : Prop := e = .returned (.bool (doneP p)) ∧ RTPost w F r m ab bb cb (stepP p) w'
theorem RTPost.of {w w' : World} {F : Nat → Prop} {r m ab bb cb : Nat} {p : TD} (k : Kept w w' F) (h : RTapeIs w' F r m ab bb cb p) : RTPost w F r m ab bb cb p w' := ⟨k, F, h, fun _ hk => .inl hk⟩
theorem flush_flush (n : Nat) (sf : List Sec) (df : Int → Option Sec) : flushS n (flushS n sf df) (fun _ => none) = flushS n sf df := flushS_none (flushS_len _ _ _)

theorem rstep_none (r m ab bb cb : Nat) (F : Nat → Prop) (p : TD) (w : World) (H : RTapeIs w F r m ab bb cb p) (he : emptyP p = true) :
    Calls Try.prog 74 #[.pointer (some ⟨r, 0, none⟩)] w (RStepPost w F r m ab bb cb p) := by
  obtain ⟨A, c, A', c', K, R, R'⟩ := H.blk
  have k3 := K.cell 3; have k4 := K.cell 4
  simp [RC] at k3 k4
  have hP : RStepPost w F r m ab bb cb p (.returned (.bool true)) w := ⟨by unfold doneP; rw [he]; rfl, by unfold stepP; rw [if_pos he]; exact RTPost.same H (Below.refl _ _)⟩
  have HP := Lib.hid hP; clear hP
  have h1 : p.fr = false := by unfold emptyP at he; cases hf : p.fr; rfl; rw [hf] at he; simp at he
  have h2 : p.W.length = 0 := by unfold emptyP at he; rw [h1] at he; simpa using he
  rw [h1] at k4
  rw [h2] at k3
  have tl := K.lt
  clear K R R' H he h1 h2
  go_enter Try.func74, Try.ntmps74
  go_wp2
  go_ret
  exact HP.out

set_option maxRecDepth 100000 in
set_option maxHeartbeats 2000000 in
theorem rstep_flush (r m ab bb cb : Nat) (F : Nat → Prop) (p : TD) (w : World) (H : RTapeIs w F r m ab bb cb p) (he : emptyP p = false) (hd : p.dn = 1) :
    Calls Try.prog 74 #[.pointer (some ⟨r, 0, none⟩)] w (RStepPost w F r m ab bb cb p) := by
  obtain ⟨A, c, A', c', K, R, R'⟩ := H.blk
  have HK := Lib.hid K
  have k3 := K.cell 3; have k4 := K.cell 4
  simp [RC] at k3 k4
  have tl := K.lt
  have hst : stepP p = flushP (incP p) := by unfold stepP; rw [if_neg (by rw [he]; simp), hd]; first | done | rfl
  have hdn : doneP p = false := by unfold doneP; rw [he, hd]; rfl
  have hcase : p.fr = true ∨ (p.fr = false ∧ 0 < p.W.length) := by
    unfold emptyP at he
    cases hf : p.fr with
    | true => exact .inl rfl
    | false => rw [hf] at he; exact .inr ⟨rfl, by have : p.W.length ≠ 0 := by simpa using he
                                                  omega⟩
  have HST := Lib.hid hst; have HDN := Lib.hid hdn; have HE := Lib.hid he; have HD := Lib.hid hd; have HH := Lib.hid H
  clear K R R' H he hst hdn hd
  go_enter Try.func74, Try.ntmps74
  rcases hcase with hf | ⟨hf, hw⟩
  case' inl => rw [hf] at k4
  case' inr =>
    rw [hf] at k4
    have hw0 : ¬ p.W.length = 0 := by omega
    have hw1 : decide (p.W.length = 0) = false := decide_eq_false hw0
    have hw2 : ¬ (p.W.length : Int) = 0 := by omega
  all_goals
    clear hf
    go_wp2_with fail
    refine (target_any r m ab bb cb F p w HH.out).mono ?_
    rintro e w1 ⟨a1, c1, rfl, O1, B1⟩
    have HB1 := Lib.hid B1
    have H1 := HH.out.below B1
    have K1 := HK.out.below B1
    have k5 := K1.cell 5; have f5 := K1.fr 5
    simp [RC] at k5
    rw [HD.out] at k5
    have tl1 := K1.lt
    have H2 := rtape_inc H1 (by rw [HD.out]; omega) HE.out
    rw [HD.out] at H2
    have HH2 := Lib.hid (show RTapeIs (w1.setCell ⟨r, 5, none⟩ (.int .i64 2)) F r m ab bb cb (incP p) from H2)
    obtain ⟨d1, d2, d3, hbD⟩ := HH2.out.ref.blk
    obtain ⟨nA, nc, nA', nc', nK, _⟩ := HH2.out.blk
    have n0 := nK.cell 0
    simp [RC] at n0
    clear O1 B1 H1 K1 H2 nK hbD k3 k4
    go_wp2_with fail
    refine (rflush_any m ab bb cb p.n _ _ _ _ HH2.out.ref).mono ?_
    rintro e w3 ⟨rfl, R3, K3⟩
    have HR3 := Lib.hid R3; have HK3 := Lib.hid K3
    clear R3 K3
    go_wp2
    go_ret
    refine ⟨by rw [HDN.out]; rfl, ?_⟩
    rw [HST.out]
    have hok := HH2.out.ok
    have hK : Kept (w1.setCell ⟨r, 5, none⟩ (.int .i64 2)) w3 (fun k => k = ab ∨ k = bb ∨ k = cb) := HK3.out.mono (fun k _ h => .inr h)
    have HF : RTapeIs w3 F r m ab bb cb (flushP (incP p)) := by
      refine rtape_disk (q := flushP (incP p)) HH2.out hK ?_ rfl rfl rfl rfl rfl ⟨hok.n3, hok.h1, hok.dn3, hok.rl, hok.rw, hok.fitL, hok.fitW, hok.act⟩
      show RefIs w3 m ab bb cb p.n (flushS p.n (flushS p.n p.sf p.df) (fun _ => none)) (flushS p.n p.sf p.df) (isDs p.n (fun _ => none))
      rw [flush_flush, isDs_none]
      exact HR3.out
    refine RTPost.of ?_ HF
    exact (((Kept.of_below HB1.out F).set (p := ⟨r, 5, none⟩) HH.out.fr' _).trans2 hK (fun k _ h => by rcases h with rfl | rfl | rfl; exact HH.out.fa; exact HH.out.fb; exact HH.out.fc))
end Go.Proofs.Ytlgimhhhlpmjcaa
namespace Go.Proofs.Ytlgimhhhlpmjcaa
open Go.RowKit Go.Maps Go.WideMaps Go.Shelf

set_option maxRecDepth 100000 in
set_option maxHeartbeats 2000000 in
theorem rstep_mark (r m ab bb cb : Nat) (F : Nat → Prop) (p : TD) (w : World) (H : RTapeIs w F r m ab bb cb p) (he : emptyP p = false) (hd : p.dn = 2) :
    Calls Try.prog 74 #[.pointer (some ⟨r, 0, none⟩)] w (RStepPost w F r m ab bb cb p) := by
  obtain ⟨A, c, A', c', K, R, R'⟩ := H.blk
  have HK := Lib.hid K
  have k3 := K.cell 3; have k4 := K.cell 4
  simp [RC] at k3 k4
  have tl := K.lt
  have hst : stepP p = markP (incP p) := by unfold stepP; rw [if_neg (by rw [he]; simp), hd]; first | done | rfl
  have hdn : doneP p = false := by unfold doneP; rw [he, hd]; rfl
  have hcase : p.fr = true ∨ (p.fr = false ∧ 0 < p.W.length) := by
    unfold emptyP at he
    cases hf : p.fr with
    | true => exact .inl rfl
    | false => rw [hf] at he; exact .inr ⟨rfl, by have : p.W.length ≠ 0 := by simpa using he
                                                  omega⟩
  have hab := allB_le H.small
  have hfl := H.ok.fitL; have hfw := H.ok.fitW
  have hwl : p.W.length ≤ 32704 := by have := sizeB_len p.W; split at hfw <;> omega
  have hll : p.L.length ≤ 32704 := by have := sizeB_len p.L; omega
  have hns : sizeB (newL p) ≤ 32704 := Nat.le_trans (newL_size H.ok) hab
  have hph : placeH p ≤ 1 := placeH_le H.ok.h1
  have hcp : cntP p ≤ 100000 := by unfold cntP; split <;> omega
  obtain ⟨q, hq⟩ : ∃ q, superB (placeH p : Nat) (cntP p : Nat) (sizeB (newL p) : Nat) = q := ⟨_, rfl⟩
  have hq64 : q.length = 64 := by rw [← hq]; exact superB_len _ _ _
  have hsup : ∀ (X : Int), X = (cntP p : Nat) → ∀ W, Calls Try.prog 68 #[.int .i64 (placeH p : Nat), .int .i64 X, .int .i64 (sizeB (newL p) : Nat)] W fun e w' => e = .returned (.agg (sc q).toArray) ∧ Below W.heap.size W w' := fun X hX W => by
    rw [hX, ← hq]
    exact rsuper_any (placeH p : Nat) (cntP p) (sizeB (newL p)) W (by omega) (by omega) (by omega) (by omega)
  have HQ := Lib.hid hq; have HQ64 := Lib.hid hq64; have HSUP := Lib.hid hsup
  have hn3 := H.ok.n3
  have HWR := Lib.hid (show wrD p.n p.df 0 q = putL p.df 0 (superB (placeH p : Nat) (cntP p : Nat) (placeU p + sizeB p.W : Nat)) by
    unfold wrD; rw [inD_of (by omega) (by omega), if_pos rfl, ← hq, newL_place])
  have HST := Lib.hid hst; have HDN := Lib.hid hdn; have HE := Lib.hid he; have HD := Lib.hid hd; have HH := Lib.hid H
  clear K R R' H he hst hdn hd hq hq64 hsup hab hfl hfw
  go_enter Try.func74, Try.ntmps74
  rcases hcase with hf | ⟨hf, hw⟩
  case' inl =>
    rw [hf] at k4
    have HC := Lib.hid (show ((p.W.length : Nat) : Int) = (cntP p : Nat) by unfold cntP; rw [hf]; simp)
  case' inr =>
    rw [hf] at k4
    have hw0 : ¬ p.W.length = 0 := by omega
    have hw1 : decide (p.W.length = 0) = false := decide_eq_false hw0
    have hw2 : ¬ (p.W.length : Int) = 0 := by omega
    have HC := Lib.hid (show ((p.W.length : Nat) : Int) + ((p.L.length : Nat) : Int) = (cntP p : Nat) by unfold cntP; rw [hf]; simp)
  all_goals
    have HF := Lib.hid hf
    clear hf
    go_wp2_with fail
    refine (target_any r m ab bb cb F p w HH.out).mono ?_
    rintro e w1 ⟨a1, c1, rfl, O1, B1⟩
    have HB1 := Lib.hid B1
    have H1 := HH.out.below B1
    have K1 := HK.out.below B1
    have k5 := K1.cell 5; have f5 := K1.fr 5
    simp [RC] at k5
    rw [HD.out] at k5
    have tl1 := K1.lt
    have H2 := rtape_inc H1 (by rw [HD.out]; omega) HE.out
    rw [HD.out] at H2
    have HH2 := Lib.hid (show RTapeIs (w1.setCell ⟨r, 5, none⟩ (.int .i64 3)) F r m ab bb cb (incP p) from H2)
    have K2 := Lib.hid (show Blk (w1.setCell ⟨r, 5, none⟩ (.int .i64 3)) r (RC m p.h (.slice A p.L.length c) (.slice A' p.W.length c') p.fr 3) 111 by
      have := K1.set 5 (.int .i64 3)
      simpa [RC] using this)
    have n0 := K2.out.cell 0; have n2 := K2.out.cell 2; have n3 := K2.out.cell 3; have n4 := K2.out.cell 4
    simp [RC] at n0 n2 n3 n4
    rw [HF.out] at n4
    have tl2 := K2.out.lt
    clear O1 B1 H1 K1 H2 k3 k4
    go_wp2_with fail
    have KW := Lib.hid ((Kept.of_below HB1.out F).set (p := ⟨r, 5, none⟩) HH.out.fr' (.int .i64 3))
    generalize w1.setCell ⟨r, 5, none⟩ (.int .i64 3) = w2 at *
    have X2 := Lib.hid (bdrew (Below.refl w2.heap.size w2))
    have r0 := (X2.out.cell (p := ⟨r, 0, none⟩) tl2).trans n0
    go_region_held3 (fun W => W.cell? ⟨r, 0, none⟩ = some (.pointer (some ⟨m, 0, none⟩))) (first | exact r0 | go_keep)
      (first
        | (go_at_call 68; refine (HSUP.out _ HC.out _).mono ?_; rintro e w4 ⟨rfl, B4⟩
           have X2 := Lib.hid (bthen X2.out B4); have r0 := (X2.out.cell (p := ⟨r, 0, none⟩) tl2).trans n0; clear B4)
        | (go_at_call 32; refine (rwrite_any m ab bb cb p.n p.sf p.df 0 q _ (HH2.out.below X2.out).ref HQ64.out).mono ?_; rintro e w5 ⟨rfl, R5, K5⟩
           have HR5 := Lib.hid R5; have HK5 := Lib.hid K5; have r0 := (K5.cell (p := ⟨r, 0, none⟩) (Nat.lt_of_lt_of_le tl2 X2.out.size) (by have := HH2.out.ns; rintro (h | h); exact this.2.1 h; exact this.2.2.2 h)).trans r0; clear R5 K5))
    all_goals
      go_wp2
      go_ret
      refine ⟨by rw [HDN.out]; rfl, ?_⟩
      rw [HST.out]
      have H4 := HH2.out.below X2.out
      have hok := H4.ok
      have hK := HK5.out.mono (S' := fun k => k = ab ∨ k = bb ∨ k = cb) (fun k _ h => by rcases h with h | h; exact .inl h; exact .inr (.inr h))
      have hR5 := HR5.out
      rw [HWR.out] at hR5
      refine RTPost.of ?_ (rtape_disk (q := markP (incP p)) H4 hK hR5 rfl rfl rfl rfl rfl ⟨hok.n3, hok.h1, hok.dn3, hok.rl, hok.rw, hok.fitL, hok.fitW, hok.act⟩)
      exact ((KW.out.then X2.out).trans2 hK (fun k _ h => by rcases h with rfl | rfl | rfl; exact HH.out.fa; exact HH.out.fb; exact HH.out.fc))
end Go.Proofs.Ytlgimhhhlpmjcaa
namespace Go.Proofs.Ytlgimhhhlpmjcaa
open Go.RowKit Go.Maps Go.WideMaps Go.Shelf

/-- So many sectors are laid. -/
def layK (p : TD) (xs : Bs) (k : Nat) : TD := { p with df := layL p.df (1 + placeH p * secs p.n + placeU p / 64) ((List.range k).map (chS xs)) }
theorem layK_succ (p : TD) (xs : Bs) (k : Nat) (h : 1 + placeH p * secs p.n + placeU p / 64 + k < p.n) : (layK p xs (k + 1)).df = wrD p.n (layK p xs k).df ((1 + placeH p * secs p.n + placeU p / 64 + k : Nat) : Int) (chS xs k) := by
  unfold wrD
  rw [inD_of (by omega) (by omega), if_pos rfl]
  show layL p.df _ ((List.range (k + 1)).map (chS xs)) = _
  rw [List.range_succ, List.map_append, List.map_singleton, layL_snoc, List.length_map, List.length_range]
  rfl
theorem layK_zero (p : TD) (xs : Bs) : layK p xs 0 = p := by
  unfold layK
  rw [List.range_zero, List.map_nil, layL_nil]
theorem layK_all (p : TD) (k : Nat) (h : k = ((layB p).length + 63) / 64) : layK p (layB p) k = layP p := by subst h; rfl
theorem chS_cut {xs fs : Bs} {at' k n : Nat} (hx : xs = fs.drop (64 * at')) (hn : n = chL xs.length k) : chS xs k = fillS ((fs.drop (64 * (at' + k))).take n) := by
  unfold chS
  rw [hn, hx, List.drop_drop]
  congr 3
  omega

set_option maxRecDepth 100000 in
set_option maxHeartbeats 4000000 in
theorem rstep_lay (r m ab bb cb : Nat) (F : Nat → Prop) (p : TD) (w : World) (H : RTapeIs w F r m ab bb cb p) (he : emptyP p = false) (hd : p.dn = 0) (hLB : layB p = (framesB (newL p)).drop (placeU p / 64 * 64)) :
    Calls Try.prog 74 #[.pointer (some ⟨r, 0, none⟩)] w (RStepPost w F r m ab bb cb p) := by
  obtain ⟨A, c, A', c', K, R, R'⟩ := H.blk
  have HK := Lib.hid K
  have k3 := K.cell 3; have k4 := K.cell 4
  simp [RC] at k3 k4
  have tl := K.lt
  have hst : stepP p = layP (incP p) := by unfold stepP; rw [if_neg (by rw [he]; simp), hd]; first | done | rfl
  have hdn : doneP p = false := by unfold doneP; rw [he, hd]; rfl
  have hcase : p.fr = true ∨ (p.fr = false ∧ 0 < p.W.length) := by
    unfold emptyP at he
    cases hf : p.fr with
    | true => exact .inl rfl
    | false => rw [hf] at he; exact .inr ⟨rfl, by have : p.W.length ≠ 0 := by simpa using he
                                                  omega⟩
  have hab := allB_le H.small
  have hns := newL_size H.ok
  have hph : placeH p ≤ 1 := placeH_le H.ok.h1
  have hn3 := H.ok.n3
  have hsm := H.small
  have hsn : secs p.n ≤ 511 := secs_le _ hsm
  obtain ⟨hU, hUW⟩ := place_le H.ok
  have hnp := newL_place p
  -- the numbers
  obtain ⟨N, hN⟩ : ∃ N, sizeB (newL p) = N := ⟨_, rfl⟩
  obtain ⟨q, hq⟩ : ∃ q, placeU p / 64 = q := ⟨_, rfl⟩
  obtain ⟨U, hUU⟩ : ∃ U, placeU p = U := ⟨_, rfl⟩
  obtain ⟨ph, hPH⟩ : ∃ ph, placeH p = ph := ⟨_, rfl⟩
  obtain ⟨sn, hSN⟩ : ∃ sn, secs p.n = sn := ⟨_, rfl⟩
  obtain ⟨fs, hfs⟩ : ∃ fs, framesB (newL p) = fs := ⟨_, rfl⟩
  have hfl : fs.length = N := by rw [← hfs, framesB_len, hN]
  have hNS : N ≤ 64 * sn := by rw [← hN, ← hSN]; unfold allB at hns; omega
  have hbase : ∀ k, 64 * (q + k) < N → 1 + ph * sn + q + k < p.n := fun k hk => by
    have := sec_lt (n := p.n) (h := ph) (i := q + k) (by omega) (by rw [hSN]; omega)
    rw [hSN] at this; omega
  rw [hq] at hLB
  rw [hfs] at hLB
  have hLl : (layB p).length = N - 64 * q := by rw [hLB, List.length_drop, hfl]; omega
  have hqN : 64 * q ≤ N := by omega
  have hpm : ph * sn ≤ 511 := by
    have : ph = 0 ∨ ph = 1 := by omega
    rcases this with h | h <;> rw [h] <;> omega
  have hU64 : (U : Int) / 64 = q := by rw [← hUU, ← hq]; omega
  have HLB := Lib.hid hLB; have HLL := Lib.hid hLl; have HBASE := Lib.hid hbase; have HFS := Lib.hid hfs; have HFL := Lib.hid hfl; have HNN := Lib.hid hN; have HPH := Lib.hid hPH; have HUU := Lib.hid hUU; have HSN := Lib.hid hSN; have HQ := Lib.hid hq
  have HST := Lib.hid hst; have HDN := Lib.hid hdn; have HE := Lib.hid he; have HD := Lib.hid hd; have HH := Lib.hid H
  have hN3 : N ≤ 32704 := by omega
  have hq5 : q ≤ 511 := by omega
  clear K R R' H he hst hdn hd hLB hLl hbase hfs hfl hns hnp hU hUW hab hN hq hUU hPH hSN hph hsn
  go_enter Try.func74, Try.ntmps74
  rcases hcase with hf | ⟨hf, hw⟩
  case' inl =>
    rw [hf] at k4
  case' inr =>
    rw [hf] at k4
    have hw0 : ¬ p.W.length = 0 := by omega
    have hw1 : decide (p.W.length = 0) = false := decide_eq_false hw0
    have hw2 : ¬ (p.W.length : Int) = 0 := by omega
  all_goals
    clear hf
    go_wp2_with fail
    refine (target_any r m ab bb cb F p w HH.out).mono ?_
    rintro e w1 ⟨a1, c1, rfl, O1, B1⟩
    rw [HFS.out, HNN.out] at O1
    rw [HNN.out, HPH.out, HUU.out]
    have HB1 := Lib.hid B1
    have H1 := HH.out.below B1
    have K1 := HK.out.below B1
    have k5 := K1.cell 5; have f5 := K1.fr 5
    simp [RC] at k5
    rw [HD.out] at k5
    have tl1 := K1.lt
    have H2 := rtape_inc H1 (by rw [HD.out]; omega) HE.out
    rw [HD.out] at H2
    have HH2 := Lib.hid (show RTapeIs (w1.setCell ⟨r, 5, none⟩ (.int .i64 1)) F r m ab bb cb (incP p) from H2)
    have RB := Lib.hid (O1.rdu.keep (w' := w1.setCell ⟨r, 5, none⟩ (.int .i64 1)) (fun b2 o2 e2 hl2 => Below.heap_setCell _ _ _ _ (fun e => by
      have h2 := (O1.lt b2 (by rw [e2]; rfl)).1
      have e' : b2 = r := e
      omega)) (by simp [World.setCell]))
    have HCAP := Lib.hid O1.cap
    have HLO := Lib.hid (fun (b2 : Nat) (o2 : Nat) (e2 : a1 = some ⟨b2, o2, none⟩) => (O1.lt b2 (by rw [e2]; rfl)).1)
    have KW := Lib.hid ((Kept.of_below HB1.out F).set (p := ⟨r, 5, none⟩) HH.out.fr' (.int .i64 1))
    clear O1 B1 H1 K1 H2 k3 k4
    go_wp2_with fail
    generalize w1.setCell ⟨r, 5, none⟩ (.int .i64 1) = w2 at *
    go_loopw [6] (fun i wr => ∃ k : Nat, k ≤ (N - 64 * q + 63) / 64 ∧ i = .int .i64 ((64 * (q + k) : Nat) : Int) ∧ Hid (RTapeIs wr F r m ab bb cb (layK (incP p) (layB p) k)) ∧ Hid (RdU8 wr a1 N fs) ∧ Hid (Kept w2 wr (fun k => k = ab ∨ k = bb ∨ k = cb))) (fun i _ => N + 64 - (intOf i).toNat)
    case atStart => exact ⟨0, Nat.zero_le _, by first | rfl | (simp; omega) | (congr 1; simp [IntKind.wrap_i64]; omega), Lib.hid (by rw [layK_zero]; exact HH2.out), RB, Lib.hid (Kept.refl _ _)⟩
    case round =>
      obtain ⟨k, hk, rfl, hR, hS, hK⟩ := hrel
      have HR := hR.out
      obtain ⟨nA, nc, nA', nc', nK, _⟩ := HR.blk
      have n0 := nK.cell 0
      simp [RC] at n0
      have tlr := nK.lt
      clear nK
      obtain ⟨t, ht⟩ : ∃ t, t = 64 * (q + k) := ⟨_, rfl⟩
      rw [← ht]
      by_cases hlt : t < N
      · have hb1 := HBASE.out k (by omega)
        obtain ⟨mm, hmm⟩ : ∃ mm : Nat, mm = ph * sn := ⟨_, rfl⟩
        have hm' : (ph : Int) * ((sn : Nat) : Int) = (mm : Nat) := by rw [hmm]; simp
        have HM' := Lib.hid hm'; have HMM := Lib.hid hmm
        have hdiv : (t : Int) / 64 = q + k := by omega
        obtain ⟨n, hn⟩ : ∃ n, n = chL (layB p).length k := ⟨_, rfl⟩
        have hn2 : n = if N - t < 64 then N - t else 64 := by rw [hn, chL, HLL.out]; split <;> split <;> omega
        have HCUT := Lib.hid (show fillS ((fs.drop t).take n) = chS (layB p) k by rw [ht]; exact (chS_cut (by rw [HLB.out, Nat.mul_comm]) hn).symm)
        obtain ⟨b1, o1, ea1, hbl, hcell⟩ := hS.out.at' (by omega)
        have hltI : (t : Int) < N := by omega
        obtain ⟨hc1, hc2⟩ := HCAP.out
        have HT := Lib.hid ht; have HN2 := Lib.hid hn2
        rw [← hmm] at hpm hb1
        clear hm' hmm hn hcell ht
        have hN0 : (0 : Int) ≤ (N : Nat) := by omega
        have HSECT := Lib.hid (show ∀ W, Below wr.heap.size wr W → Calls Try.prog 69 #[.pointer (some ⟨r, 0, none⟩)] W (fun e w' => e = .returned (.int .i64 (sn : Nat)) ∧ w' = W) from fun W hW => by rw [← HSN.out]; exact rsectors_any r m ab bb cb F (layK (incP p) (layB p) k) W (hR.out.below hW))
        clear hU64
        have HLK := Lib.hid (show (layK (incP p) (layB p) (k + 1)).df = wrD p.n (layK (incP p) (layB p) k).df (1 + (mm : Int) + ((q : Int) + k)) (chS (layB p) k) by
          have e1 : 1 + placeH p * secs p.n + placeU p / 64 + k = 1 + mm + (q + k) := by
            have e0 : placeH p * secs p.n = mm := by rw [HPH.out, HSN.out, HMM.out]
            rw [e0, HQ.out]
            exact Nat.add_assoc _ _ _
          have e3 : ((1 + mm + (q + k) : Nat) : Int) = 1 + (mm : Int) + ((q : Int) + k) := by omega
          have e2 := layK_succ (incP p) (layB p) k (by show 1 + placeH p * secs p.n + placeU p / 64 + k < p.n; rw [e1]; omega)
          rw [e2]
          show wrD p.n _ ((1 + placeH p * secs p.n + placeU p / 64 + k : Nat) : Int) _ = _
          rw [e1, e3])
        have X := Lib.hid (bdrew (Below.refl wr.heap.size wr))
        have r0 := n0
        subst ea1
        have HCU := Lib.hid (hS.out.cut t n (by rw [hn2]; split <;> omega))
        have ht0 : (0 : Int) ≤ (t : Nat) := by omega
        go_wp2_with fail
        have HW1 := Lib.hid (show IntKind.i64.wrap ((t : Int) + 64) = t + 64 by rw [IntKind.wrap_i64]; omega)
        have HW2 := Lib.hid (show IntKind.i64.wrap ((ph : Int) * ((sn : Nat) : Int)) = (mm : Nat) by rw [HM'.out, IntKind.wrap_i64]; omega)
        have HW3 := Lib.hid (show IntKind.i64.wrap (1 + (mm : Int)) = 1 + mm by rw [IntKind.wrap_i64]; omega)
        have HW5 := Lib.hid (show IntKind.i64.wrap ((q : Int) + k) = q + k by rw [IntKind.wrap_i64]; omega)
        have HW4 := Lib.hid (show IntKind.i64.wrap (1 + (mm : Int) + ((q : Int) + k)) = 1 + mm + (q + k) by rw [IntKind.wrap_i64]; omega)
        have hct : ¬ c1 = t := by omega
        have ht1 : (t : Int) ≤ (N : Nat) := by omega
        have ht2 : (N : Int) ≤ (c1 : Nat) := by omega
        have hmin : (N : Int) < t + 64 ∨ ¬ (N : Int) < t + 64 := by omega
        rcases hmin with hmin | hmin
        case' inl =>
          have hmn : min ((t : Int) + 64) (N : Int) = (N : Int) := by omega
          have HNB : Hid (N - t ≤ 1000) := Lib.hid (by omega)
          have hn3 : n = N - t := by have := HN2.out; rw [this]; split <;> omega
        case' inr =>
          have hmn : min ((t : Int) + 64) (N : Int) = (t : Int) + 64 := by omega
          have HNB : Hid (64 ≤ 1000) := Lib.hid (by omega)
          have hn3 : n = 64 := by have := HN2.out; rw [this]; split <;> omega
          have hn4 : (((t : Int) + 64).toNat - t) = 64 := by omega
          have ht3 : (t : Int) + 64 ≤ (N : Nat) := by omega
          have ht4 : (t : Int) + 64 ≤ (c1 : Nat) := by omega
          have ht5 : (t : Int) ≤ (t : Int) + 64 := by omega
        all_goals
          have hw1 := HW1.out; have hw2 := HW2.out; have hw3 := HW3.out
          have HN3 := Lib.hid hn3
          clear hn2 hn3
          go_region_held3 (fun W => W.cell? ⟨r, 0, none⟩ = some (.pointer (some ⟨m, 0, none⟩))) (first | exact r0 | go_keep)
            (first
              | (go_at_call 69; refine (HSECT.out _ X.out).mono ?_; rintro e w4 ⟨rfl, hw4⟩; rw [hw4]; clear hw4 w4)
              | (go_at_call 33
                 (first
                   | refine (rfill_two (some ⟨b1, o1 + t, none⟩) (N - t) (c1 - t) ((fs.drop t).take n) _ (by rw [← HN3.out]; exact HCU.out.below X.out) HNB.out).mono ?_
                   | refine (rfill_two (some ⟨b1, o1 + t, none⟩) 64 (c1 - t) ((fs.drop t).take n) _ (by rw [← HN3.out]; exact HCU.out.below X.out) HNB.out).mono ?_)
                 rintro e w4 ⟨rfl, B4⟩
                 rw [HCUT.out]
                 have X := Lib.hid (bthen X.out B4); have r0 := (X.out.cell (p := ⟨r, 0, none⟩) tlr).trans n0; clear B4)
              | (go_at_call 32; refine (rwrite_any m ab bb cb p.n p.sf (layK (incP p) (layB p) k).df _ (chS (layB p) k) _ (hR.out.below X.out).ref (chS_len _ _)).mono ?_
                 rintro e w5 ⟨rfl, R5, K5⟩
                 have HR5 := Lib.hid R5; have HK5 := Lib.hid K5; have r0 := (K5.cell (p := ⟨r, 0, none⟩) (Nat.lt_of_lt_of_le tlr X.out.size) (by have := hR.out.ns; rintro (h | h); exact this.2.1 h; exact this.2.2.2 h)).trans r0; clear R5 K5))
        all_goals
          clear hw1 hw2 hw3 hmn
          go_wp2
          go_roundw
          case rel =>
            have hT := HT.out
            have hR5 := HR5.out
            rw [HW5.out, HW4.out] at hR5
            have hok := hR.out.ok
            have hK5 := HK5.out.mono (S' := fun k => k = ab ∨ k = bb ∨ k = cb) (fun k _ h => by rcases h with h | h; exact .inl h; exact .inr (.inr h))
            have l1 := HLO.out b1 o1 rfl
            have l2 := HH.out.lt ab HH.out.fa; have l3 := HH.out.lt cb HH.out.fc
            refine ⟨k + 1, by omega, by congr 1; omega, Lib.hid ?_, Lib.hid ?_, Lib.hid ((hK.out.then X.out).trans2 hK5 (fun _ _ h => h))⟩
            · refine rtape_disk (q := layK (incP p) (layB p) (k + 1)) (hR.out.below X.out) hK5 ?_ rfl rfl rfl rfl rfl ⟨hok.n3, hok.h1, hok.dn3, hok.rl, hok.rw, hok.fitL, hok.fitW, hok.act⟩
              rw [HLK.out]
              exact hR5
            · refine (hS.out.below X.out).keep (fun b2 o2 e2 hl2 => HK5.out.block b2 hl2 (fun e => ?_)) HK5.out.size
              cases e2
              rcases e with e | e <;> omega
          case measure => simp [intOf]; omega
      · have hkk : k = (N - 64 * q + 63) / 64 := by omega
        have HKK := Lib.hid (layK_all (incP p) k (by rw [show (layB (incP p)).length = N - 64 * q from HLL.out]; exact hkk))
        have hltI : ¬ (t : Int) < N := by omega
        go_wp2
        go_ret
        refine ⟨by rw [HDN.out]; rfl, ?_⟩
        rw [HST.out]
        have hR2 : RTapeIs wr F r m ab bb cb (layP (incP p)) := by rw [← HKK.out]; exact hR.out
        exact RTPost.of (KW.out.trans2 hK.out (fun k _ h => by rcases h with rfl | rfl | rfl; exact HH.out.fa; exact HH.out.fb; exact HH.out.fc)) hR2
end Go.Proofs.Ytlgimhhhlpmjcaa
