/- The tape: Replace. -/
import Derived.Test.YtlgimhhhlpmjcaaTapRq
set_option linter.unusedVariables false
set_option linter.unusedSimpArgs false
namespace Go.Proofs.Ytlgimhhhlpmjcaa
open Go.RowKit Go.Maps Go.WideMaps Go.Shelf

theorem not_right (r : Bool) (A : Option Addr) (n c : Nat) (w : World) (hr : r = (decide (0 < n) && decide (n ≤ 300))) :
    Calls Try.prog 57 #[.slice A n c] w fun e w' => e = .returned (.bool (!r)) ∧ w' = w := by
  have HR := Lib.hid hr; clear hr
  go_enter Try.func57, Try.ntmps57
  go_wp2_with (go_at_call 53; refine (right_any2 _ _ _ _).mono ?_; rintro e w1 ⟨rfl, hw1⟩; rw [hw1, ← HR.out]; clear hw1 w1)
  go_ret
  exact ⟨rfl, rfl⟩
theorem all_take_succ (M : List Bs) (k : Nat) (h : k < M.length) : (M.take (k + 1)).all rightB = ((M.take k).all rightB && rightB M[k]) := by
  rw [List.take_succ_eq_append_getElem h, List.all_append]
  simp
theorem all_false_of {M : List Bs} {k : Nat} (h : k < M.length) (hr : rightB M[k] = false) : M.all rightB = false := by
  rw [← Bool.not_eq_true, List.all_eq_true]
  intro hh
  have := hh _ (List.getElem_mem h)
  rw [hr] at this
  cases this
def idxR (b : Bool) (v : Value) : Prop := (b = true ∧ v = .int .i64 (-1)) ∨ (b = false ∧ ∃ k : Nat, v = .int .i64 k)
set_option maxRecDepth 100000 in
theorem index_any (A : Option Addr) (n c : Nat) (M : List Bs) (w : World) (hM : RdBB w A n M) (hn : n ≤ 1000000) :
    Calls Try.prog 81 #[.slice A n c, .func (.func 57) #[] #[]] w fun e w' => (∃ v, e = .returned v ∧ idxR (M.all rightB) v) ∧ w' = w := by
  have hl := hM.len
  have HM := Lib.hid hM; clear hM
  go_enter Try.func81, Try.ntmps81
  go_wp2
  go_loop [8] (fun i => ∃ k : Nat, k ≤ n ∧ i = .int .i64 k ∧ Hid ((M.take k).all rightB = true)) (fun i => n - (intOf i).toNat)
  case atStart => exact ⟨0, Nat.zero_le _, rfl, Lib.hid rfl⟩
  case round =>
    obtain ⟨k, hk, rfl, hA⟩ := hrel
    by_cases hlt : k < n
    · obtain ⟨b, off, rfl, hb, hc⟩ := HM.out.at' (by omega)
      have hkM : k < M.length := by omega
      obtain ⟨A', c', hck, hrd⟩ := hc k hkM
      have hr : rightB M[k] = (decide (0 < M[k].length) && decide (M[k].length ≤ 300)) := rfl
      have HR := Lib.hid hr; clear hr hc hb hrd
      have HA' := Lib.hid (all_take_succ M k hkM)
      have HF := Lib.hid (fun hr : rightB M[k] = false => all_false_of hkM hr)
      generalize M[k].length = m at *
      generalize rightB M[k] = r at *
      clear hkM
      have hltI : (k : Int) < n := by omega
      cases r with
      | true =>
        go_wp2_with (go_at_call 57; refine (not_right _ _ _ _ _ HR.out).mono ?_; rintro e w1 ⟨rfl, hw1⟩; rw [hw1]; clear hw1 w1)
        go_round
        case rel => exact ⟨k + 1, by omega, by go_num, Lib.hid (by rw [HA'.out, hA.out]; rfl)⟩
        case measure => simp [intOf]; omega
      | false =>
        go_wp2_with (go_at_call 57; refine (not_right _ _ _ _ _ HR.out).mono ?_; rintro e w1 ⟨rfl, hw1⟩; rw [hw1]; clear hw1 w1)
        go_ret
        exact ⟨⟨_, rfl, .inr ⟨by first | exact HF.out rfl | exact HF.out trivial, k, rfl⟩⟩, rfl⟩
    · have : k = n := by omega
      subst this
      have hA' := hA.out
      rw [List.take_of_length_le (by omega)] at hA'
      have HA := Lib.hid hA'; clear hA' hA
      go_wp2
      go_ret
      exact ⟨⟨_, rfl, .inl ⟨HA.out, rfl⟩⟩, rfl⟩
set_option maxRecDepth 100000 in
theorem contains_any (A : Option Addr) (n c : Nat) (M : List Bs) (w : World) (hM : RdBB w A n M) (hn : n ≤ 1000000) :
    Calls Try.prog 56 #[.slice A n c, .func (.func 57) #[] #[]] w fun e w' => e = .returned (.bool (!(M.all rightB))) ∧ w' = w := by
  have HI := Lib.hid (index_any A n c M w hM hn); clear hM
  generalize M.all rightB = b at *
  go_enter Try.func56, Try.ntmps56
  go_wp2_with fail
  refine HI.out.mono ?_
  rintro e w1 ⟨⟨v, rfl, hv⟩, hw1⟩
  rw [hw1]
  clear hw1 w1
  unfold idxR at hv
  rcases hv with ⟨rfl, rfl⟩ | ⟨rfl, k, rfl⟩
  · clear HI
    go_wp2
    go_ret
    exact ⟨rfl, rfl⟩
  · clear HI
    have hk : (0 : Int) ≤ k := by omega
    go_wp2
    go_ret
    exact ⟨rfl, rfl⟩

/-- What Replace tells, and leaves. -/
def errR (p : TD) (M : List Bs) : Int := if M.all rightB = false then 1 else if 0 < p.dn then 131 else if allB p.n < sizeB M then 61 else 0
def repP (p : TD) (M : List Bs) : TD := if errR p M = 0 then { p with W := M, fr := true } else p
def RplPost (w : World) (F : Nat → Prop) (t d sb mb : Nat) (p : TD) (M : List Bs) (e : Ending) (w' : World) : Prop := e = .returned (.int .i64 (errR p M)) ∧ TPost w F t d sb mb (repP p M) w'

theorem tape_fresh {w : World} {F : Nat → Prop} {t d sb mb : Nat} {p : TD} (H : TapeIs w F t d sb mb p) : TapeIs ((w.setCell ⟨t, 4, none⟩ (.slice none 0 0)).setCell ⟨t, 5, none⟩ (.bool true)) F t d sb mb { p with W := [], fr := true } := by
  obtain ⟨h1, ⟨cv, wv, b1, b2, b3, b4⟩, hD, h4, h5, h6, h7, h8⟩ := H
  obtain ⟨dt1, dt2, dt3⟩ := hD.ne_blk b1 (by decide) (by decide)
  have hne : ∀ g, g ≠ t → ((w.setCell ⟨t, 4, none⟩ (.slice none 0 0)).setCell ⟨t, 5, none⟩ (.bool true)).heap[g]? = w.heap[g]? := fun g hg =>
    (Below.heap_setCell _ _ _ _ (by exact hg)).trans (Below.heap_setCell _ _ _ _ (by exact hg))
  have hu8 : ∀ g cs fr, F g → w.heap[g]? = some (.cells cs 5 fr) → ((w.setCell ⟨t, 4, none⟩ (.slice none 0 0)).setCell ⟨t, 5, none⟩ (.bool true)).heap[g]? = w.heap[g]? := fun g cs fr _ hb => hne g (fun e => by
    subst e
    rw [show w.heap[g]? = _ from b1] at hb; simp at hb)
  refine ⟨fun k hk => by simpa [World.setCell] using h1 k hk, ⟨cv, .slice none 0 0, (b1.set 4 _).set 5 _, b2.keep (fun g hg => hne g (b2.ne_blk hg b1 (by decide))) hu8, RowR.nil _ _, fun g _ h => by cases h⟩, hD.keep (hne _ dt1.symm) (hne _ dt2.symm) (hne _ dt3.symm), h4, h5, h6, h7, ⟨h8.n3, h8.h1, h8.dn3, h8.rl, (fun x hx => by cases hx), h8.fitL, (by show (if true = true then 0 else sizeB p.L) + sizeB [] ≤ allB p.n; simp [sizeB]), fun _ => .inl rfl⟩⟩

set_option maxRecDepth 100000 in
set_option maxHeartbeats 4000000 in
theorem replace_any (t d sb mb : Nat) (F : Nat → Prop) (p : TD) (A : Option Addr) (n c : Nat) (M : List Bs) (w0 w : World) (H : TapeIs w F t d sb mb p) (hM : RdBB w0 A n M) (oM : ∀ x ∈ M, okB x) (hs : sizeB M ≤ 1000000)
    (hB0 : Below w0.heap.size w0 w) (hF : ∀ k, F k → w0.heap.size ≤ k) :
    Calls Try.prog 25 #[.pointer (some ⟨t, 0, none⟩), .slice A n c] w (RplPost w F t d sb mb p M) := by
  have hl := hM.len
  obtain ⟨Ac, cc, A', c', K, _⟩ := H.open
  have k6 := K.cell 6; have f4 := K.fr 4; have f5 := K.fr 5; have c4 := K.cell 4; have c5 := K.cell 5
  simp [TC] at k6 c4 c5
  have tl := K.lt
  have hn3 := H.ok.n3
  have hab := allB_le H.small
  have hsl := sizeB_len M
  have hn5 : n ≤ 500000 := by omega
  have HH := Lib.hid H; have HM := Lib.hid hM; have HO := Lib.hid oM; have HB0 := Lib.hid hB0; have HF := Lib.hid hF; have HS := Lib.hid hs; have HL := Lib.hid hl
  have HTD := Lib.hid H.td
  clear K H hM oM hB0 hF hs hl hsl
  cases hr : M.all rightB with
  | false =>
    have hP : RplPost w F t d sb mb p M (.returned (.int .i64 1)) w := by
      unfold RplPost repP
      rw [show errR p M = 1 by unfold errR; rw [if_pos hr]]
      exact ⟨rfl, by rw [if_neg (by omega)]; exact TPost.same HH.out (Below.refl _ _)⟩
    have HP := Lib.hid hP; have HRR := Lib.hid hr; clear hP hr
    go_enter Try.func25, Try.ntmps25
    go_wp2_with (go_at_call 56; refine (contains_any A n c M _ (HM.out.below HB0.out) (by omega)).mono ?_; rintro e w1 ⟨rfl, hw1⟩; rw [hw1, HRR.out]; clear hw1 w1)
    go_ret
    exact HP.out
  | true =>
    have HRR := Lib.hid hr; clear hr
    by_cases hdn : 0 < p.dn
    · have hP : RplPost w F t d sb mb p M (.returned (.int .i64 131)) w := by
        unfold RplPost repP
        rw [show errR p M = 131 by unfold errR; rw [if_neg (by rw [HRR.out]; simp), if_pos hdn]]
        exact ⟨rfl, by rw [if_neg (by omega)]; exact TPost.same HH.out (Below.refl _ _)⟩
      have HP := Lib.hid hP; clear hP
      go_enter Try.func25, Try.ntmps25
      go_wp2_with (go_at_call 56; refine (contains_any A n c M _ (HM.out.below HB0.out) (by omega)).mono ?_; rintro e w1 ⟨rfl, hw1⟩; rw [hw1, HRR.out]; clear hw1 w1)
      go_ret
      exact HP.out
    · have hdn0 : p.dn = 0 := by omega
      by_cases hsz : allB p.n < sizeB M
      · have hP : RplPost w F t d sb mb p M (.returned (.int .i64 61)) w := by
          unfold RplPost repP
          rw [show errR p M = 61 by unfold errR; rw [if_neg (by rw [HRR.out]; simp), if_neg hdn, if_pos hsz]]
          exact ⟨rfl, by rw [if_neg (by omega)]; exact TPost.same HH.out (Below.refl _ _)⟩
        have HP := Lib.hid hP; clear hP
        rw [hdn0] at k6
        clear hdn hdn0
        generalize hvz : sizeB M = z at *
        have HVZ := Lib.hid hvz; clear hvz
        generalize hva : allB p.n = a at *
        have HVA := Lib.hid hva; clear hva
        go_enter Try.func25, Try.ntmps25
        go_wp2_with (first
          | (go_at_call 56; refine (contains_any A n c M _ (HM.out.below HB0.out) (by omega)).mono ?_; rintro e w1 ⟨rfl, hw1⟩; rw [hw1, HRR.out]; clear hw1 w1)
          | (go_at_call 55; refine (size_any _ _ _ _ _ (HM.out.below HB0.out) (by rw [HVZ.out]; exact HS.out)).mono ?_; rintro e w1 ⟨rfl, hw1⟩; rw [hw1, HVZ.out]; clear hw1 w1)
          | (go_at_call 50; refine (all_any t d sb mb p.n p.sf p.df _ HTD.out (by omega)).mono ?_; rintro e w1 ⟨rfl, hw1⟩; rw [hw1, HVA.out]; clear hw1 w1))
        go_ret
        exact HP.out
      · have hE : errR p M = 0 := by unfold errR; rw [if_neg (by rw [HRR.out]; simp), if_neg hdn, if_neg hsz]
        have HE := Lib.hid hE; have HSZ := Lib.hid hsz; have HDN := Lib.hid hdn0
        rw [hdn0] at k6
        clear hdn hdn0 hE
        generalize hvz : sizeB M = z at *
        have HVZ := Lib.hid hvz; clear hvz
        generalize hva : allB p.n = a at *
        have HVA := Lib.hid hva; clear hva
        go_enter Try.func25, Try.ntmps25
        go_wp2_with (first
          | (go_at_call 56; refine (contains_any A n c M _ (HM.out.below HB0.out) (by omega)).mono ?_; rintro e w1 ⟨rfl, hw1⟩; rw [hw1, HRR.out]; clear hw1 w1)
          | (go_at_call 55; refine (size_any _ _ _ _ _ (HM.out.below HB0.out) (by rw [HVZ.out]; exact HS.out)).mono ?_; rintro e w1 ⟨rfl, hw1⟩; rw [hw1, HVZ.out]; clear hw1 w1)
          | (go_at_call 50; refine (all_any t d sb mb p.n p.sf p.df _ HTD.out (by omega)).mono ?_; rintro e w1 ⟨rfl, hw1⟩; rw [hw1, HVA.out]; clear hw1 w1))
        have HT1 := Lib.hid (tape_fresh HH.out)
        have HK1 := Lib.hid ((((Kept.refl w F).set (p := ⟨t, 4, none⟩) HH.out.ft (.slice none 0 0))).set (p := ⟨t, 5, none⟩) HH.out.ft (.bool true))
        generalize (w.setCell ⟨t, 4, none⟩ (.slice none 0 0)).setCell ⟨t, 5, none⟩ (.bool true) = w1 at *
        clear k6 f4 f5 c4 c5 tl hsz
        go_loopw [34] (fun i wr => ∃ (k : Nat) (G : Nat → Prop), k ≤ n ∧ i = .int .i64 k ∧ Hid (TapeIs wr G t d sb mb { p with W := M.take k, fr := true }) ∧ Hid (Kept w wr F) ∧ Hid (∀ k, G k → F k ∨ w.heap.size ≤ k)) (fun i _ => n - (intOf i).toNat)
        case atStart => exact ⟨0, F, Nat.zero_le _, rfl, HT1, HK1, Lib.hid (fun k h => .inl h)⟩
        case round =>
          obtain ⟨k, G, hk, rfl, hT, hK, hG⟩ := hrel
          clear HT1 HK1
          by_cases hlt : k < n
          · obtain ⟨b, off, rfl, hb, hc⟩ := HM.out.at' (by omega)
            have hkM : k < M.length := by rw [HL.out]; exact hlt
            obtain ⟨A2, c2, hck, hrd⟩ := hc k hkM
            have HX := Lib.hid (HO.out _ (List.getElem_mem hkM))
            have hrx : rightB M[k] = true := List.all_eq_true.1 HRR.out _ (List.getElem_mem hkM)
            have hsz1 := sizeB_take_le M (k + 1)
            rw [sizeB_take_succ M k hkM] at hsz1
            have HTK := Lib.hid (List.take_succ_eq_append_getElem hkM)
            generalize hx : M[k] = x at *
            clear hx hkM hc
            obtain ⟨m, hm⟩ : ∃ m, m = x.length := ⟨_, rfl⟩
            rw [← hm] at hck hrd hsz1
            have hm3 : 0 < m ∧ m ≤ 300 := by
              rw [hm]; simpa [rightB] using hrx
            have hm0 := hm3.1
            have hm30 := hm3.2
            have HM' := Lib.hid hm
            have HBr := Lib.hid (HB0.out.trans (hK.out.below (B := w0.heap.size) HB0.out.size HF.out))
            have q1 := (HBr.out.cell (p := ⟨b, off + k, none⟩) hb).trans hck
            have HRd := Lib.hid (hrd.below HBr.out)
            have hA2 : A2 = none → c2 = 0 := fun e => by
              obtain ⟨b', o', e', _⟩ := hrd.at' hm0
              rw [e'] at e; cases e
            have HA2 := Lib.hid hA2
            have HRX := Lib.hid hrx; have HS1 := Lib.hid hsz1
            have HBL := Lib.hid hb
            clear hm hm3 hrx hsz1 hck hrd hA2 hb
            obtain ⟨q, hq⟩ : ∃ q, q = ({ p with W := M.take k, fr := true } : TD) := ⟨_, rfl⟩
            rw [← hq] at hT
            have hqk : q.W.length = k := by
              rw [hq, List.length_take, Nat.min_eq_left]
              have := HL.out; omega
            have HQ := Lib.hid hq; clear hq
            obtain ⟨Bc, bc, B', c', K, R, R', hdis⟩ := hT.out.open
            rw [hqk] at K R' hdis
            have k4 := K.cell 4; have f4 := K.fr 4
            simp [TC] at k4
            have tl := K.lt
            have HK := Lib.hid K; have HR := Lib.hid R; have HR' := Lib.hid R'; have HDIS := Lib.hid hdis; have HQK := Lib.hid hqk
            clear K R R' hdis hqk
            have hlt2 : (k : Int) < n := by omega
            go_wp2_with fail
            have X2 := Lib.hid (bdrew (Below.refl wr.heap.size wr))
            have hcl : ∀ W, Below wr.heap.size wr W → Calls Try.prog 54 #[.slice A2 m c2] W fun e w' => ∃ v, e = .returned v ∧ Own8 w' W.heap.size v x ∧ Below wr.heap.size wr w' ∧ W.heap.size ≤ w'.heap.size := fun W hW =>
              (clone_any A2 m c2 x W (HRd.out.below hW) (by omega) HA2.out).mono fun e w' h => by
                obtain ⟨v, e1, e2, e3⟩ := h
                exact ⟨v, e1, e2, bthen hW e3, e3.size⟩
            have HCL := Lib.hid hcl; clear hcl
            obtain ⟨⟨vs, Ow, Vw⟩, Fw⟩ := HR'.out
            have hvl : vs.length = q.W.length := by have := Ow.1; omega
            have HOW := Lib.hid Ow; have HVW := Lib.hid Vw; have HVL := Lib.hid hvl
            rw [HQK.out] at HOW
            clear Ow Vw Fw hvl
            go_region_law (first
              | (go_simp; go_at_call 54; refine (HCL.out _ ?_).mono ?_; (exact X2.out); rintro e w3 ⟨v3, rfl, O3, B3, Z3⟩; obtain ⟨a3, c3, rfl⟩ := O3.form; rw [← HM'.out] at O3 ⊢
                 have r0 := (B3.cell (p := ⟨t, 4, none⟩) tl).trans k4
                 have B5 := balloc B3 (.cells #[.slice a3 m c3] 31)
                 have O5 := Lib.hid (ownsRow_below HOW.out B5); have K5 := Lib.hid (HK.out.below B5); have HB5 := Lib.hid B5; have r5 := K5.out.cell 4; simp only [TC, List.getElem?_toArray, List.getElem?_cons_zero, List.getElem?_cons_succ] at r5
                 have HO3 := Lib.hid O3; have z3 := B3.size; clear O3 B3 Z3 B5)
              | (refine step_app2 rfl _ _ 22 rfl 0 31 (.slice none 0 0) 24 bbInfo Try.underlying22 rfl (.slice B' k c') k vs rfl O5.out ⟨w3.heap.size, 0, none⟩ 1 1 [.slice a3 m c3] rfl rfl ?_ ?_ ?_ ?_ ?_ ?_ ?_
                 (intro i u hu; match i, hu with | 0, hu => (simp at hu; subst hu; exact (Blk.newAt w3 #[.slice a3 m c3] 31 w3.heap.size rfl).cell 0))
                 (intro u hu; simp at hu; subst hu; rfl)
                 (omega)
                 (unfold maxLen; omega)
                 (omega)
                 (omega)
                 intro v6 w6 O6 G6 N6
                 obtain ⟨va6, vc6, rfl⟩ := row_form O6
                 have K6 := Lib.hid (K5.out.grown G6 (fun e => (HR'.out.below' HB5.out).ne_blk e.symm K5.out (by decide) rfl))
                 have k46 := K6.out.cell 4; have f46 := K6.out.fr 4; simp [TC] at k46; have tl6 := K6.out.lt
                 have HO6 := Lib.hid O6; have HG6 := Lib.hid G6; have HN6 := Lib.hid N6; clear O6 G6 N6))
            all_goals
              clear r5
              go_wp2
              have hok1 := hT.out.ok
              have hnew : TD.Ok { q with W := q.W ++ [x] } := by
                refine ⟨hok1.n3, hok1.h1, hok1.dn3, hok1.rl, fun y hy => ?_, hok1.fitL, ?_, fun _ => .inl (by rw [HQ.out])⟩
                · rcases List.mem_append.1 hy with hy | hy
                  · exact hok1.rw y hy
                  · rw [List.mem_singleton.1 hy]; exact ⟨HRX.out, HX.out⟩
                · show (if q.fr = true then 0 else sizeB q.L) + sizeB (q.W ++ [x]) ≤ allB q.n
                  rw [if_pos (by rw [HQ.out]), sizeB_append, sizeB_one, ← HM'.out]
                  have h1 := HS1.out
                  have h2 := HSZ.out
                  have h3 := HVZ.out
                  have h4 := HVA.out
                  have e1 : q.W = M.take k := by rw [HQ.out]
                  have e2 : q.n = p.n := by rw [HQ.out]
                  rw [e1, e2]
                  omega
              have hT2 : TPost wr G t d sb mb { q with W := q.W ++ [x] } (w6.setCell ⟨t, 4, none⟩ (.slice va6 (k + 1) vc6)) := by
                refine tape_app hT.out HK.out HR.out HR'.out HDIS.out HB5.out ?_ HVW.out HVL.out (by rw [HQK.out]; exact HO6.out) HG6.out HN6.out hnew
                exact (RecIs.of HO3.out (by rw [← HM'.out]; exact hm0) (fun g h1 h2 => ⟨by have : wr.drew.heap.size ≤ g := h1; simpa using this, by simp; omega⟩) : RecIs w3 (fun k => wr.heap.size ≤ k ∧ k < (w3.alloc (.cells #[.slice a3 m c3] 31)).heap.size) (.slice a3 m c3) x).keep (fun g cs fr hg hb => Below.heap_alloc _ _ _ (Array.getElem?_eq_some_iff.1 hb).1)
              have hq2 : ({ q with W := q.W ++ [x] } : TD) = { p with W := M.take (k + 1), fr := true } := by rw [HQ.out, HTK.out]
              rw [hq2] at hT2
              obtain ⟨g1, G2, g2, g3⟩ := hT2
              have HG1 := Lib.hid g1; have HG2 := Lib.hid g2; have HG3 := Lib.hid g3
              clear g1 g2 g3 hq2 hnew hok1
              go_roundw
              case rel => exact ⟨k + 1, G2, by omega, by go_num, HG2, Lib.hid (hK.out.trans2 HG1.out (fun i hi h => (hG.out i h).resolve_right (by omega))), Lib.hid (fun k hk => by
                rcases HG3.out k hk with e | e
                · exact hG.out k e
                · exact .inr (by have := hK.out.size; omega))⟩
              case measure => simp [intOf]; omega
          · have : k = n := by omega
            subst this
            go_wp2
            go_ret
            unfold RplPost repP
            rw [HE.out, if_pos rfl]
            have hT' := hT.out
            rw [List.take_of_length_le (by have := HL.out; omega)] at hT'
            exact ⟨rfl, hK.out, G, hT', hG.out⟩
end Go.Proofs.Ytlgimhhhlpmjcaa
