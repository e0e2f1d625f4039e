/- The tape: each step keeps what a disk holds (no walk). -/
import Derived.Test.YtlgimhhhlpmjcaaTapPl
import Derived.Test.YtlgimhhhlpmjcaaTapRpl
set_option linter.unusedVariables false
set_option linter.unusedSimpArgs false
namespace Go.Proofs.Ytlgimhhhlpmjcaa

theorem okB_half {n : Nat} {sf : List Sec} {df : Int → Option Sec} (h : BytesS sf df) (k : Nat) : okB (halfB n sf df k) := fun x hx => by
  unfold halfB halfTo at hx
  obtain ⟨i, _, hi⟩ := List.mem_flatMap.1 hx
  exact h.cur _ x hi
theorem okB_layB {p : TD} (h : p.Ok) (hb : BytesS p.sf p.df) : okB (layB p) := by
  unfold layB
  exact okB_append (okB_drop (okB_take (okB_half hb _) _) _) (okB_frames fun x hx => (h.rw x hx).2)
theorem lay_some {p : TD} (h : p.Ok) (hl : Lens p.n p.sf p.df) {i : Int} {s : Sec} (e : (layP p).df i = some s) : p.df i = some s ∨ (0 ≤ i ∧ i < (p.n : Int) ∧ ∃ k, s = chS (layB p) k) := by
  have e' : layL p.df (1 + placeH p * secs p.n + placeU p / 64) ((List.range (layM p)).map (chS (layB p))) i = some s := e
  unfold layL at e'
  rw [List.length_map, List.length_range] at e'
  split at e'
  · rename_i hi
    right
    have hm := lay_fits h hl
    have hs := placeH_le h.h1
    have h2 : 1 + placeH p * secs p.n + placeU p / 64 + layM p ≤ p.n := by
      have hn3 := h.n3
      have hsn : 2 * secs p.n ≤ p.n - 1 := by unfold secs; omega
      have : placeH p = 0 ∨ placeH p = 1 := by omega
      rcases this with hh | hh <;> rw [hh] <;> omega
    refine ⟨by omega, by omega, ?_⟩
    rw [List.getElem?_map] at e'
    obtain ⟨k, _, hk⟩ := Option.map_eq_some_iff.1 e'
    exact ⟨k, hk.symm⟩
  · exact .inl e'
theorem Lens.lay {p : TD} (h : p.Ok) (hl : Lens p.n p.sf p.df) : Lens p.n p.sf (layP p).df :=
  ⟨hl.len, hl.each, fun i s e => by
    rcases lay_some h hl e with e | ⟨h1, h2, k, rfl⟩
    · exact hl.sup i s e
    · exact ⟨h1, h2, chS_len _ _⟩⟩
theorem BytesS.lay {p : TD} (h : p.Ok) (hl : Lens p.n p.sf p.df) (hb : BytesS p.sf p.df) : BytesS p.sf (layP p).df :=
  ⟨hb.1, fun i s e => by
    rcases lay_some h hl e with e | ⟨h1, h2, k, rfl⟩
    · exact hb.2 i s e
    · exact okB_fill (okB_take (okB_drop (okB_layB h hb) _) _)⟩
theorem incP_ok {p : TD} (h : p.Ok) (h3 : p.dn ≤ 3) (he : emptyP p = false) : (incP p).Ok := by
  refine ⟨h.n3, h.h1, by show p.dn + 1 ≤ 4; omega, h.rl, h.rw, h.fitL, h.fitW, fun _ => ?_⟩
  show p.fr = true ∨ p.W ≠ []
  unfold emptyP at he
  cases hf : p.fr with
  | true => exact .inl rfl
  | false =>
    right
    intro hw
    rw [hf, hw] at he
    simp at he
theorem stepP_ok {p : TD} (h : p.Ok) (h3 : p.dn ≤ 3) : (stepP p).Ok := by
  unfold stepP
  cases he : emptyP p with
  | true => rw [if_pos rfl]; exact h
  | false =>
    rw [if_neg (by simp)]
    have hi := incP_ok h h3 he
    split
    · exact ⟨hi.n3, hi.h1, hi.dn3, hi.rl, hi.rw, hi.fitL, hi.fitW, hi.act⟩
    · exact ⟨hi.n3, hi.h1, hi.dn3, hi.rl, hi.rw, hi.fitL, hi.fitW, hi.act⟩
    · exact ⟨hi.n3, hi.h1, hi.dn3, hi.rl, hi.rw, hi.fitL, hi.fitW, hi.act⟩
    · refine endP_ok (p := flushP (incP p)) ?_
      exact ⟨hi.n3, hi.h1, hi.dn3, hi.rl, hi.rw, hi.fitL, hi.fitW, hi.act⟩
/-- A mixed disk holds what both hold. -/
theorem held_mix {p : TD} {C : Nat → Sec} {n h : Nat} {L : List Bs} {A B : Nat → Sec} (h1 : h ≤ 1) (hn : 0 < n) (hf : sizeB L ≤ allB n) (hA : Held n A h L) (h0 : B 0 = A 0) (hB : ∀ j, j < sizeB L → atB n h B j = atB n h A j)
    (hm : ∀ i, i < n → C i = A i ∨ C i = B i) : Held n C h L := by
  refine ⟨?_, fun j hj => ?_⟩
  · rcases hm 0 hn with e | e
    · rw [e]; exact hA.1
    · rw [e, h0]; exact hA.1
  · rw [← hA.2 j hj]
    have hi := hm (1 + h * secs n + j / 64) (sec_lt h1 (by unfold allB at hf; omega))
    unfold atB
    rcases hi with e | e
    · rw [e]
    · rw [e]; exact hB j hj
theorem cont_high {n h : Nat} {C C' : Nat → Sec} {L : List Bs} (h1 : h ≤ 1) (hf : sizeB L ≤ allB n) (hc : Cont n C h L) (e : ∀ i, 1 ≤ i → i < n → C' i = C i) : Cont n C' h L := fun j hj => by
  rw [← hc j hj]
  unfold atB
  rw [e _ (by omega) (sec_lt h1 (by unfold allB at hf; omega))]
theorem curS_put0 (sf : List Sec) (df : Int → Option Sec) (s : Sec) (i : Nat) : curS sf (putL df 0 s) i = if i = 0 then s else curS sf df i := by
  unfold curS putL
  by_cases h : i = 0
  · subst h; rfl
  · rw [if_neg (by omega), if_neg h]

set_option maxHeartbeats 1000000 in
theorem TSt.step {p : TD} (h : p.Ok) (S : TSt p) : TSt (stepP p) := by
  unfold stepP
  cases he : emptyP p with
  | true => rw [if_pos rfl]; exact S
  | false =>
    rw [if_neg (by simp)]
    have hn0 : 0 < p.n := by have := h.n3; omega
    have hH := placeH_le h.h1
    have hNs := newL_size h
    have hi := incP_ok h S.dn3 he
    have hd3 := S.dn3
    have hcase : p.dn = 0 ∨ p.dn = 1 ∨ p.dn = 2 ∨ p.dn = 3 := by omega
    rcases hcase with hd | hd | hd | hd <;> rw [hd]
    · -- the lay
      have hdf := S.clean (.inl hd)
      have hold := S.old (by omega) _ (Mix.cur p)
      have hsafe : ∀ i, curS p.sf (fun _ => none) i = curS p.sf p.df i := fun i => by rw [hdf]
      refine ⟨Lens.lay hi S.lens, BytesS.lay hi S.lens S.by', (by show p.dn + 1 ≤ 3; omega), fun hh => ?_, fun _ C hC => ?_, fun _ => ?_, fun hh => ?_, fun hh => ?_⟩
      · exfalso
        have hh : p.dn + 1 = 0 ∨ p.dn + 1 = 2 := hh
        omega
      · refine held_mix (p := p) h.h1 hn0 h.fitL hold (B := curS p.sf (layP (incP p)).df) (lay_zero (incP p)) (fun j hj => lay_old (p := incP p) hi S.lens hj) (fun i hi => ?_)
        rcases hC i hi with e | e
        · exact .inr e
        · exact .inl (e.trans (hsafe i))
      · exact lay_new (p := incP p) hi S.lens hold.2
      · exfalso
        have hh : p.dn + 1 = 3 := hh
        omega
      · exfalso
        have hh : p.dn + 1 = 3 := hh
        omega
    · -- the flush
      refine ⟨S.lens.flush, S.by'.flush, (by show p.dn + 1 ≤ 3; omega), fun _ => rfl, fun _ C hC => ?_, fun _ => ?_, fun hh => ?_, fun hh => ?_⟩
      · refine S.old (by omega) C fun i hi => ?_
        rcases hC i hi with e | e
        · exact .inl (e.trans (curS_flush rfl hi))
        · exact .inl (e.trans (curS_flush rfl hi))
      · exact cont_congr hH hNs (S.new (by omega)) (fun i hi => curS_flush rfl hi)
      · exfalso
        have hh : p.dn + 1 = 3 := hh
        omega
      · exfalso
        have hh : p.dn + 1 = 3 := hh
        omega
    · -- the mark
      have hdf := S.clean (.inr hd)
      have hold := S.old (by omega) _ (Mix.cur p)
      have hnew := S.new (by omega)
      have hcnt : ((cntP p : Nat) : Int) = ((newL p).length : Nat) := by
        unfold cntP newL
        cases p.fr <;> simp; omega
      have hszz : ((placeU p + sizeB p.W : Nat) : Int) = (sizeB (newL p) : Nat) := by rw [newL_place]
      have hcur : ∀ i, curS p.sf (markP (incP p)).df i = if i = 0 then superB (placeH p : Nat) ((newL p).length : Nat) (sizeB (newL p) : Nat) else curS p.sf p.df i := fun i => by
        show curS p.sf (putL p.df 0 (superB (placeH p : Nat) (cntP p : Nat) (placeU p + sizeB p.W : Nat))) i = _
        rw [curS_put0, hcnt, hszz]
      have hsafe : ∀ i, curS p.sf (fun _ => none) i = curS p.sf p.df i := fun i => by rw [hdf]
      refine ⟨⟨S.lens.len, S.lens.each, fun i s e => ?_⟩, ⟨S.by'.1, fun i s e => ?_⟩, (by show p.dn + 1 ≤ 3; omega), fun hh => ?_, fun hh => ?_, fun _ => ?_, fun _ C hC => ?_, fun _ => ?_⟩
      · have e : putL p.df 0 (superB (placeH p : Nat) (cntP p : Nat) (placeU p + sizeB p.W : Nat)) i = some s := e
        unfold putL at e
        split at e
        · rename_i hi0
          cases e
          exact ⟨by omega, by show i < (p.n : Int); omega, superB_len _ _ _⟩
        · exact S.lens.sup i s e
      · have e : putL p.df 0 (superB (placeH p : Nat) (cntP p : Nat) (placeU p + sizeB p.W : Nat)) i = some s := e
        unfold putL at e
        split at e
        · cases e; exact okB_super _ _ _
        · exact S.by'.2 i s e
      · exfalso
        have hh : p.dn + 1 = 0 ∨ p.dn + 1 = 2 := hh
        omega
      · exfalso
        have hh : p.dn + 1 ≤ 2 := hh
        omega
      · exact cont_high hH hNs hnew (fun i h1 _ => by show curS p.sf (markP (incP p)).df i = _; rw [hcur, if_neg (by omega)])
      · have hhigh : ∀ i, 1 ≤ i → i < p.n → C i = curS p.sf p.df i := fun i h1 h2 => by
          rcases hC i h2 with e | e
          · refine e.trans ?_
            show curS p.sf (markP (incP p)).df i = _
            rw [hcur, if_neg (by omega)]
          · exact e.trans (hsafe i)
        rcases hC 0 hn0 with e | e
        · right
          refine ⟨?_, cont_high hH hNs hnew hhigh⟩
          refine e.trans ?_
          show curS p.sf (markP (incP p)).df 0 = _
          rw [hcur, if_pos rfl]
          rfl
        · left
          exact ⟨e.trans ((hsafe 0).trans hold.1), cont_high h.h1 h.fitL hold.2 hhigh⟩
      · refine ⟨?_, cont_high hH hNs hnew (fun i h1 _ => by show curS p.sf (markP (incP p)).df i = _; rw [hcur, if_neg (by omega)])⟩
        show curS p.sf (markP (incP p)).df 0 = _
        rw [hcur, if_pos rfl]
        rfl
    · -- the end
      have hsup := S.sup hd
      refine ⟨S.lens.flush, S.by'.flush, Nat.zero_le 3, fun _ => rfl, fun _ C hC => ?_, fun hh => ?_, fun hh => ?_, fun hh => ?_⟩
      · refine held_congr hH hn0 hNs hsup fun i hi => ?_
        rcases hC i hi with e | e
        · exact e.trans (curS_flush rfl hi)
        · exact e.trans (curS_flush rfl hi)
      · exact absurd hh (by show ¬ 1 ≤ 0; omega)
      · exact absurd hh (by show ¬ 0 = 3; omega)
      · exact absurd hh (by show ¬ 0 = 3; omega)

theorem TSt.commitN : ∀ (m : Nat) (p : TD), p.Ok → TSt p → TSt (commitN m p) ∧ (commitN m p).Ok
  | 0, p, h, S => ⟨S, h⟩
  | m + 1, p, h, S => by
    unfold Go.Proofs.Ytlgimhhhlpmjcaa.commitN
    have h1 := stepP_ok h S.dn3
    have S1 := TSt.step h S
    split
    · exact ⟨S1, h1⟩
    · exact TSt.commitN m _ h1 S1
theorem TSt.commit {p : TD} (h : p.Ok) (S : TSt p) : TSt (commitP p) := (TSt.commitN _ p h S).1
theorem commitP_ok {p : TD} (h : p.Ok) (S : TSt p) : (commitP p).Ok := (TSt.commitN _ p h S).2
/-- Only what waits is another. -/
theorem TSt.waits {p q : TD} (S : TSt p) (hd : p.dn = 0) (h1 : q.n = p.n) (h2 : q.sf = p.sf) (h3 : q.df = p.df) (h4 : q.h = p.h) (h5 : q.L = p.L) (h6 : q.dn = 0) : TSt q := by
  refine ⟨by rw [h1, h2, h3]; exact S.lens, by rw [h2, h3]; exact S.by', by omega, fun _ => by rw [h3]; exact S.clean (.inl hd), fun _ C hC => ?_, fun hh => by omega, fun hh => by omega, fun hh => by omega⟩
  rw [h1, h4, h5]
  exact S.old (by omega) C (Mix.same h1 h2 h3 hC)
theorem TSt.app {p : TD} (S : TSt p) (hd : p.dn = 0) (x : Bs) : TSt (appP p x) := by
  unfold appP
  split
  · exact S.waits hd rfl rfl rfl rfl rfl hd
  · exact S
theorem TSt.rep {p : TD} (S : TSt p) (hd : p.dn = 0) (M : List Bs) : TSt (repP p M) := by
  unfold repP
  split
  · exact S.waits hd rfl rfl rfl rfl rfl hd
  · exact S
/-- Opened again, a disk behind whole commits has the same records. -/
theorem TSt.open {p : TD} (h : p.Ok) (S : TSt p) (hn : p.n ≤ 1024) (hd : p.dn ≤ 2) : openP p.n p.sf p.df = some (p.h, p.L) :=
  openP_held S.lens h.h1 hn (S.old hd _ (Mix.cur p)) h.fitL (fun x hx => (h.rl x hx).1)
theorem TSt.init (n : Nat) (hn0 : 0 < n) : TSt ⟨n, List.replicate n zsec, fun _ => none, 0, [], [], false, 0⟩ := by
  have hc : ∀ C, Mix ⟨n, List.replicate n zsec, fun _ => none, 0, [], [], false, 0⟩ C → 0 < n → C 0 = zsec := fun C hC hn => by
    rcases hC 0 hn with e | e
    · rw [e]; exact cur_zs n 0
    · rw [e]; exact cur_zs n 0
  refine ⟨⟨by simp, fun x hx => by rw [(List.mem_replicate.1 hx).2]; rfl, fun i s e => by cases e⟩, zs_bytes n, Nat.zero_le _, fun _ => rfl, fun _ C hC => ⟨?_, fun j hj => by simp [sizeB] at hj⟩, fun hh => ?_, fun hh => ?_, fun hh => ?_⟩
  · rw [hc C hC hn0]
    show zsec = superB 0 0 0
    decide +kernel
  · exact absurd hh (by show ¬ 1 ≤ 0; omega)
  · exact absurd hh (by show ¬ 0 = 3; omega)
  · exact absurd hh (by show ¬ 0 = 3; omega)
end Go.Proofs.Ytlgimhhhlpmjcaa
