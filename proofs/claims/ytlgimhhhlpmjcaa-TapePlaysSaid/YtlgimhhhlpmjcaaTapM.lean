/- The tape: Append. -/
import Derived.Test.YtlgimhhhlpmjcaaTapL
import Derived.Deep.RegionLaw
set_option linter.unusedVariables false
set_option linter.unusedSimpArgs false
namespace Go.Proofs.Ytlgimhhhlpmjcaa
open Go.RowKit Go.Maps Go.WideMaps Go.Shelf

/-- A tape behind a call: p'; of what was there the tape's own has changed at most. -/
def TPost (w : World) (F : Nat → Prop) (t d sb mb : Nat) (p' : TD) (w' : World) : Prop :=
  Kept w w' F ∧ ∃ F', TapeIs w' F' t d sb mb p' ∧ ∀ k, F' k → F k ∨ w.heap.size ≤ k
theorem TPost.same {w w' : World} {F : Nat → Prop} {t d sb mb : Nat} {p : TD} (h : TapeIs w F t d sb mb p) (hb : Below w.heap.size w w') : TPost w F t d sb mb p w' :=
  ⟨Kept.of_below hb _, F, h.below hb, fun k hk => .inl hk⟩
theorem TPost.behind {w w1 w' : World} {F : Nat → Prop} {t d sb mb : Nat} {p' : TD} (hb : Below w.heap.size w w1) (h : TPost w1 F t d sb mb p' w') : TPost w F t d sb mb p' w' := by
  obtain ⟨h1, F', h2, h3⟩ := h
  exact ⟨Kept.behind hb h1, F', h2, fun k hk => (h3 k hk).imp id fun h => Nat.le_trans hb.size h⟩
theorem TPost.then {w w1 w' : World} {F : Nat → Prop} {t d sb mb : Nat} {p' : TD} (h : TPost w F t d sb mb p' w1) (hb : Below w1.heap.size w1 w') : TPost w F t d sb mb p' w' := by
  obtain ⟨h1, F', h2, h3⟩ := h
  exact ⟨h1.then hb, F', h2.below hb, h3⟩

theorem RowR.keptS {w w' : World} {F S : Nat → Prop} {v : Value} {L : List Bs} (h : RowR w F v L) (K : Kept w w' S) (hlt : ∀ k, F k → k < w.heap.size) (h1 : ∀ g, v.ownBlock = some g → ¬ S g)
    (h2 : ∀ g cs fr, w.heap[g]? = some (.cells cs 5 fr) → ¬ S g) : RowR w' F v L :=
  h.keep (fun g hg => K.block g (h.lt hg) (h1 g hg)) (fun g cs fr hF hb => K.block g (hlt g hF) (h2 g cs fr hb))
theorem RowR.below' {w w' : World} {F : Nat → Prop} {v : Value} {L : List Bs} (h : RowR w F v L) (hb : Below w.heap.size w w') : RowR w' F v L := by
  obtain ⟨⟨vs, h3, h4⟩, h5⟩ := h
  refine ⟨⟨vs, ownsRow_below h3 hb, fun i hi => ?_⟩, h5⟩
  obtain ⟨u, e, hr⟩ := h4 i hi
  exact ⟨u, e, hr.keep fun g cs fr _ hb' => hb.block g (Array.getElem?_eq_some_iff.1 hb').1⟩
theorem RowR.ne_blk {w : World} {F : Nat → Prop} {v : Value} {L : List Bs} (h : RowR w F v L) {g g' t : Nat} {cs : Array Value} (hg : v.ownBlock = some g) (hb : Blk w g' cs t) (ht : t ≠ 31) : g ≠ g' := by
  rintro rfl
  obtain ⟨cs', h'⟩ := h.blk hg
  rw [show w.heap[g]? = _ from hb] at h'
  injection h' with h'
  injection h' with _ e
  exact ht e
theorem blk_ne {w : World} {g g' t t' : Nat} {cs cs' : Array Value} (h : Blk w g cs t) (h' : Blk w g' cs' t') (ht : t ≠ t') : g ≠ g' := by
  rintro rfl
  have h1 : w.heap[g]? = some (.cells cs t (0, 0)) := h
  have h2 : w.heap[g]? = some (.cells cs' t' (0, 0)) := h'
  rw [h1] at h2
  simp at h2
  exact ht h2.2
theorem DiskIs.ne_blk {w : World} {d sb mb n : Nat} {sf : List Sec} {df : Int → Option Sec} (h : DiskIs w d sb mb n sf df) {g t : Nat} {cs : Array Value} (hb : Blk w g cs t) (h1 : t ≠ 87) (h2 : t ≠ 55) : g ≠ d ∧ g ≠ sb ∧ g ≠ mb := by
  obtain ⟨cap, hd⟩ := h.blk
  obtain ⟨⟨cur, hs⟩, _⟩ := h.safe
  exact ⟨Blk.ne_of hb hd h1, Blk.ne_of hb hs h2, h.map.ne hb⟩
where
  Blk.ne_of {w : World} {g g' t t' : Nat} {cs cs' : Array Value} (h : Blk w g cs t) (h' : Blk w g' cs' t') (ht : t ≠ t') : g ≠ g' := blk_ne h h' ht
theorem row_isBlk {w : World} {F : Nat → Prop} {v : Value} {L : List Bs} (h : RowR w F v L) {g : Nat} (hg : v.ownBlock = some g) : ∃ cs, Blk w g cs 31 := h.blk hg

theorem tape_app {w w5 w6 : World} {F : Nat → Prop} {t d sb mb : Nat} {p : TD} {cv wv v6 u : Value} {x : Bs} {vs : List Value} {uz : Nat} (H : TapeIs w F t d sb mb p)
    (K : Blk w t (TC d p.h cv uz wv p.fr p.dn) 89) (R : RowR w F cv p.L) (R' : RowR w F wv p.W) (hd : ∀ g, cv.ownBlock = some g → wv.ownBlock ≠ some g)
    (B5 : Below w.heap.size w w5) (U : RecIs w5 (fun k => w.heap.size ≤ k ∧ k < w5.heap.size) u x) (hvs : ∀ i (h : i < p.W.length), ∃ u, vs[i]? = some u ∧ RecIs w F u p.W[i]) (hvl : vs.length = p.W.length)
    (O6 : w6.ownsRow 0 31 1 v6 (p.W.length + 1) (vs ++ [u])) (G6 : w5.grownBy w6 wv.ownBlock) (N6 : NewOr w5 wv v6) (hok : TD.Ok { p with W := p.W ++ [x] }) (huz : uz = sizeB p.L := by rfl) :
    TPost w F t d sb mb { p with W := p.W ++ [x] } (w6.setCell ⟨t, 4, none⟩ v6) := by
  subst huz
  have z5 := B5.size
  have z6 := G6.size
  have h2 : ∀ g cs fr, w.heap[g]? = some (.cells cs 5 fr) → ¬ (g = t ∨ wv.ownBlock = some g) := by
    rintro g cs fr hb (rfl | hw)
    · rw [show w.heap[g]? = _ from K] at hb; simp at hb
    · obtain ⟨cs', hb'⟩ := R'.blk hw
      rw [hb'] at hb; simp at hb
  have K65 : Kept w w6 (fun k => k = t ∨ wv.ownBlock = some k) := (Kept.of_below B5 _).trans (Kept.of_grown G6 (fun k e => .inr e))
  have K7 : Kept w (w6.setCell ⟨t, 4, none⟩ v6) (fun k => k = t ∨ wv.ownBlock = some k) := K65.set (p := ⟨t, 4, none⟩) (.inl rfl) v6
  have Kt6 : Blk w6 t (TC d p.h cv (sizeB p.L) wv p.fr p.dn) 89 := (K.below B5).grown G6 (fun e => R'.ne_blk e.symm K (by decide) rfl)
  have hz7 : (w6.setCell ⟨t, 4, none⟩ v6).heap.size = w6.heap.size := by simp [World.setCell]
  obtain ⟨dt1, dt2, dt3⟩ := H.disk.ne_blk K (by decide) (by decide)
  have hrow : ∀ g, wv.ownBlock = some g → g ≠ d ∧ g ≠ sb ∧ g ≠ mb := fun g hg => by
    obtain ⟨cs, hb⟩ := row_isBlk R' hg
    exact H.disk.ne_blk hb (by decide) (by decide)
  have R5 : RowR w5 (fun k => F k ∨ (w.heap.size ≤ k ∧ k < w5.heap.size)) wv p.W := (R'.below' B5).mono (fun k hk => .inl hk)
  have S6 : RowR w6 (fun k => F k ∨ (w.heap.size ≤ k ∧ k < w6.heap.size)) v6 (p.W ++ [x]) := R5.snoc
    (fun i hi => by
      obtain ⟨u', e, hr⟩ := hvs i hi
      exact ⟨u', e, (hr.keep fun g cs fr _ hb => B5.block g (Array.getElem?_eq_some_iff.1 hb).1).mono fun k hk => .inl hk⟩)
    hvl (U.mono fun k hk => .inr hk) O6 G6 N6 (fun g hg => hg.imp id fun h => ⟨h.1, by omega⟩) (fun g h1 h2 => .inr ⟨by omega, h2⟩)
    (fun g hg => by rcases hg with hg | hg; have := H.lt g hg; omega; exact hg.2)
  refine ⟨K7.mono (fun k _ hk => ?_), fun k => F k ∨ (w.heap.size ≤ k ∧ k < w6.heap.size), ⟨fun k hk => ?_, ⟨cv, v6, Kt6.set 4 v6, (R.keptS K7 H.lt (fun g hg hS => ?_) h2).mono (fun k hk => .inl hk), ?_, fun g hg hg6 => ?_⟩, ?_, .inl H.ft, .inl H.fd, .inl H.fs, .inl H.fm, hok⟩, fun k hk => hk.imp id fun h => h.1⟩
  · rcases hk with rfl | hk
    · exact H.ft
    · exact R'.foot k hk
  · rw [hz7]
    rcases hk with hk | hk
    · have := H.lt k hk; omega
    · exact hk.2
  · rcases hS with rfl | hS
    · exact R.ne_blk hg K (by decide) rfl
    · exact hd g hg hS
  · refine S6.keep (fun g hg => Below.heap_setCell _ _ _ _ (fun e => ?_)) (fun g cs fr _ hb => Below.heap_setCell _ _ _ _ (fun e => ?_))
    · exact S6.ne_blk hg Kt6 (by decide) e
    · have e' : g = t := e
      subst e'
      rw [show w6.heap[g]? = _ from Kt6] at hb; simp at hb
  · rcases N6 g hg6 with e | e
    · exact hd g hg e
    · have := R.lt hg; omega
  · exact H.disk.keep (K7.block d (H.lt d H.fd) (fun hS => by rcases hS with e | e; exact dt1 e.symm; exact (hrow d e).1 rfl)) (K7.block sb (H.lt sb H.fs) (fun hS => by rcases hS with e | e; exact dt2 e.symm; exact (hrow sb e).2.1 rfl)) (K7.block mb (H.lt mb H.fm) (fun hS => by rcases hS with e | e; exact dt3 e.symm; exact (hrow mb e).2.2 rfl))
/-- What Append tells. -/
def errA (p : TD) (xs : Bs) : Int := if rightB xs = false then 1 else if 0 < p.dn ∨ p.fr = true then 131 else if roomP p < 2 + (xs.length : Int) then 61 else 0
def appP (p : TD) (xs : Bs) : TD := if errA p xs = 0 then { p with W := p.W ++ [xs] } else p
theorem append_nil (A : Option Addr) (n c : Nat) (w : World) : Calls Try.prog 17 #[.pointer none, .slice A n c] w fun e w' => e = .returned (.int .i64 1) ∧ w' = w := by
  go_enter Try.func17, Try.ntmps17
  go_wp2
  go_ret
  exact ⟨rfl, rfl⟩
def AppPost (w : World) (F : Nat → Prop) (t d sb mb : Nat) (p : TD) (xs : Bs) (e : Ending) (w' : World) : Prop := e = .returned (.int .i64 (errA p xs)) ∧ TPost w F t d sb mb (appP p xs) w'

set_option maxRecDepth 100000 in
set_option maxHeartbeats 2000000 in
theorem append_any (t d sb mb : Nat) (F : Nat → Prop) (p : TD) (A : Option Addr) (n c : Nat) (xs : Bs) (w : World) (H : TapeIs w F t d sb mb p) (hx : RdU8 w A n xs) (hb : okB xs) (hn : n ≤ 140737488355328) (hA : A = none → c = 0) :
    Calls Try.prog 17 #[.pointer (some ⟨t, 0, none⟩), .slice A n c] w (AppPost w F t d sb mb p xs) := by
  have hl := hx.len
  have hrd : rightB xs = (decide (0 < n) && decide (n ≤ 300)) := by unfold rightB; rw [hl]
  obtain ⟨Ac, cc, A', c', K, R, R', hdis⟩ := H.open
  have k4 := K.cell 4; have k5 := K.cell 5; have k6 := K.cell 6; have f4 := K.fr 4
  simp [TC] at k4 k5 k6
  have tl := K.lt
  have HH := Lib.hid H; have HK := Lib.hid K; have HR := Lib.hid R; have HR' := Lib.hid R'; have HDIS := Lib.hid hdis; have HX := Lib.hid hx; have HOB := Lib.hid hb; have HL := Lib.hid hl
  have hd3 := H.ok.dn3
  have hwl := sizeB_len p.W
  have hfw := H.ok.fitW
  have hab := allB_le H.small
  have hWl : p.W.length ≤ 32704 := by split at hfw <;> omega
  clear H K R R' hdis hx hb hl hwl hfw hab
  cases hr : rightB xs with
  | false =>
    have hE : errA p xs = 1 := by unfold errA; rw [if_pos hr]
    have hP : AppPost w F t d sb mb p xs (.returned (.int .i64 1)) w := by
      unfold AppPost appP
      rw [hE]
      exact ⟨rfl, by rw [if_neg (by omega)]; exact TPost.same HH.out (Below.refl _ _)⟩
    have HP := Lib.hid hP; clear hP hE
    rw [hr] at hrd
    have HRR := Lib.hid hrd; clear hrd hr
    go_enter Try.func17, Try.ntmps17
    go_wp2_with (go_at_call 53; refine (right_any _ _ _ _ hn).mono ?_; rintro e w1 ⟨rfl, rfl⟩; rw [← HRR.out])
    go_ret
    exact HP.out
  | true =>
    rw [hr] at hrd
    obtain ⟨hn0, hn3⟩ : 0 < n ∧ n ≤ 300 := by simpa using hrd.symm
    have HRR := Lib.hid hrd; clear hrd
    by_cases hst : 0 < p.dn ∨ p.fr = true
    · have hE : errA p xs = 131 := by unfold errA; rw [if_neg (by rw [hr]; simp), if_pos hst]
      have hP : AppPost w F t d sb mb p xs (.returned (.int .i64 131)) w := by
        unfold AppPost appP
        rw [hE]
        exact ⟨rfl, by rw [if_neg (by omega)]; exact TPost.same HH.out (Below.refl _ _)⟩
      have HP := Lib.hid hP; clear hP hE hr
      go_enter Try.func17, Try.ntmps17
      by_cases hdn : 0 < p.dn
      · have hd0 : decide (0 < p.dn) = true := decide_eq_true (by omega)
        clear hst
        go_wp2_with (go_at_call 53; refine (right_any _ _ _ _ hn).mono ?_; rintro e w1 ⟨rfl, rfl⟩; rw [← HRR.out])
        go_ret
        exact HP.out
      · have hd0 : decide (0 < p.dn) = false := decide_eq_false (by omega)
        have hfr : p.fr = true := by rcases hst with h | h; exact absurd h hdn; exact h
        rw [hfr] at k5
        clear hst hdn
        go_wp2_with (go_at_call 53; refine (right_any _ _ _ _ hn).mono ?_; rintro e w1 ⟨rfl, rfl⟩; rw [← HRR.out])
        go_ret
        exact HP.out
    · rw [not_or] at hst
      obtain ⟨hdn, hfr⟩ := hst
      have hfr : p.fr = false := by simpa using hfr
      have hd0 : decide (0 < p.dn) = false := decide_eq_false (by omega)
      by_cases hroom : roomP p < 2 + (xs.length : Int)
      · have hE : errA p xs = 61 := by unfold errA; rw [if_neg (by rw [hr]; simp), if_neg (by rw [hfr]; simp; omega), if_pos hroom]
        rw [HL.out] at hroom
        have hP : ∀ w1, Below w.heap.size w w1 → AppPost w F t d sb mb p xs (.returned (.int .i64 61)) w1 := by
          intro w1 hb1
          unfold AppPost appP
          rw [hE]
          exact ⟨rfl, by rw [if_neg (by omega)]; exact TPost.same HH.out hb1⟩
        have HP := Lib.hid hP; clear hP hE hr
        rw [hfr] at k5
        go_enter Try.func17, Try.ntmps17
        go_wp2_with (first
          | (go_at_call 53; refine (right_any _ _ _ _ hn).mono ?_; rintro e w1 ⟨rfl, rfl⟩; rw [← HRR.out])
          | (go_at_call 23; refine (room_any t d sb mb F p _ HH.out).mono ?_; rintro e w2 ⟨rfl, B2⟩; have HB2 := Lib.hid B2; clear B2))
        go_ret
        exact HP.out _ HB2.out
      · have hE : errA p xs = 0 := by unfold errA; rw [if_neg (by rw [hr]; simp), if_neg (by rw [hfr]; simp; omega), if_neg hroom]
        have hrl : 2 + (n : Int) ≤ roomP p := by rw [HL.out] at hroom; omega
        have HE := Lib.hid hE; have HFR := Lib.hid hfr; have HR0 := Lib.hid hr; have hdn0 := Lib.hid hdn
        clear hroom hE hr hdn
        rw [hfr] at k5
        clear hfr
        go_enter Try.func17, Try.ntmps17
        go_wp2_with (first
          | (go_at_call 53; refine (right_any _ _ _ _ hn).mono ?_; rintro e w1 ⟨rfl, rfl⟩; rw [← HRR.out])
          | (go_at_call 23; refine (room_any t d sb mb F p _ HH.out).mono ?_; rintro e w2 ⟨rfl, B2⟩
             have HB2 := Lib.hid B2; have k42 := (B2.cell (p := ⟨t, 4, none⟩) tl).trans k4; have tl2 := Nat.lt_of_lt_of_le tl B2.size; have z2 := B2.size; clear B2))
        have X2 := Lib.hid (bdrew (Below.refl w2.heap.size w2))
        have hcl : ∀ W, Below w2.heap.size w2 W → Calls Try.prog 54 #[.slice A n c] W fun e w' => ∃ v, e = .returned v ∧ Own8 w' W.heap.size v xs ∧ Below w2.heap.size w2 w' ∧ W.heap.size ≤ w'.heap.size := fun W hW =>
          (clone_any A n c xs W (HX.out.below (bthen HB2.out hW)) (by omega) hA).mono fun e w' h => by
            obtain ⟨v, e1, e2, e3⟩ := h
            exact ⟨v, e1, e2, bthen hW e3, e3.size⟩
        have HCL := Lib.hid hcl; clear hcl
        obtain ⟨⟨vs, Ow, Vw⟩, Fw⟩ := HR'.out
        have hvl : vs.length = p.W.length := by have := Ow.1; omega
        have HOW := Lib.hid Ow; have HVW := Lib.hid Vw; have HVL := Lib.hid hvl
        clear Ow Vw Fw hvl
        go_region_law (first
            | (go_simp; go_at_call 54; refine (HCL.out _ ?_).mono ?_; (exact X2.out); rintro e w3 ⟨v3, rfl, O3, B3, Z3⟩; obtain ⟨a3, c3, rfl⟩ := O3.form; rw [HL.out] at O3 ⊢
               have r0 := (B3.cell (p := ⟨t, 4, none⟩) tl2).trans k42
               have B5 := balloc (bthen HB2.out B3) (.cells #[.slice a3 n c3] 31)
               have O5 := Lib.hid (ownsRow_below HOW.out B5); have K5 := Lib.hid (HK.out.below B5); have HB5 := Lib.hid B5; have r5 := K5.out.cell 4; simp only [TC, List.getElem?_toArray, List.getElem?_cons_zero, List.getElem?_cons_succ] at r5
               have HO3 := Lib.hid O3; have z3 := B3.size; clear O3 B3 Z3 B5)
            | (refine step_app2 rfl _ _ 22 rfl 0 31 (.slice none 0 0) 24 bbInfo Try.underlying22 rfl (.slice A' p.W.length c') p.W.length vs rfl O5.out ⟨w3.heap.size, 0, none⟩ 1 1 [.slice a3 n c3] rfl rfl ?_ ?_ ?_ ?_ ?_ ?_ ?_
               (intro i u hu; match i, hu with | 0, hu => (simp at hu; subst hu; exact (Blk.newAt w3 #[.slice a3 n c3] 31 w3.heap.size rfl).cell 0))
               (intro u hu; simp at hu; subst hu; rfl)
               (omega)
               (unfold maxLen; omega)
               (omega)
               (omega)
               intro v6 w6 O6 G6 N6
               obtain ⟨va6, vc6, rfl⟩ := row_form O6
               have K6 := Lib.hid (K5.out.grown G6 (fun e => (HR'.out.below' HB5.out).ne_blk e.symm K5.out (by decide) rfl))
               have k46 := K6.out.cell 4; have f46 := K6.out.fr 4; simp [TC] at k46; have tl6 := K6.out.lt
               have HO6 := Lib.hid O6; have HG6 := Lib.hid G6; have HN6 := Lib.hid N6; clear O6 G6 N6))
        all_goals
          clear r5
          go_wp2
          go_ret
          unfold AppPost appP
          rw [HE.out, if_pos rfl]
          refine ⟨rfl, ?_⟩
          have hok1 := HH.out.ok
          have hfw := hok1.fitW
          rw [if_neg (by rw [HFR.out]; simp)] at hfw
          have hnew : TD.Ok { p with W := p.W ++ [xs] } := by
            refine ⟨hok1.n3, hok1.h1, hok1.dn3, hok1.rl, fun x hx => ?_, hok1.fitL, ?_, fun h => absurd h hdn0.out⟩
            · rcases List.mem_append.1 hx with hx | hx
              · exact hok1.rw x hx
              · rw [List.mem_singleton.1 hx]; exact ⟨HR0.out, HOB.out⟩
            · show (if p.fr = true then 0 else sizeB p.L) + sizeB (p.W ++ [xs]) ≤ allB p.n
              rw [if_neg (by rw [HFR.out]; simp), sizeB_append, sizeB_one, HL.out]
              unfold roomP at hrl
              rw [if_neg (by rw [HFR.out]; simp)] at hrl
              omega
          refine tape_app HH.out HK.out HR.out HR'.out HDIS.out HB5.out ?_ HVW.out HVL.out HO6.out HG6.out HN6.out hnew
          exact (RecIs.of HO3.out (by rw [HL.out]; exact hn0) (fun g h1 h2 => ⟨by have := HB2.out.size; have : w2.heap.size ≤ g := h1; omega, by simp; omega⟩) : RecIs w3 (fun k => w1.heap.size ≤ k ∧ k < (w3.alloc (.cells #[.slice a3 n c3] 31)).heap.size) (.slice a3 n c3) xs).keep (fun g cs fr hg hb => Below.heap_alloc _ _ _ (Array.getElem?_eq_some_iff.1 hb).1)
end Go.Proofs.Ytlgimhhhlpmjcaa
