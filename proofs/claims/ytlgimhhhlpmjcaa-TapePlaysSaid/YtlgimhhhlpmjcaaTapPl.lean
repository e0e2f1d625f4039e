/- The tape: what a disk holds, step by step (no walk). -/
import Derived.Test.YtlgimhhhlpmjcaaTapRec
set_option linter.unusedVariables false
set_option linter.unusedSimpArgs false
namespace Go.Proofs.Ytlgimhhhlpmjcaa

/-- A byte of a half. -/
def atB (n h : Nat) (C : Nat → Sec) (j : Nat) : Option Int := (C (1 + h * secs n + j / 64))[j % 64]?
def Cont (n : Nat) (C : Nat → Sec) (h : Nat) (L : List Bs) : Prop := ∀ j, j < sizeB L → atB n h C j = (framesB L)[j]?
/-- A disk that holds a tape's records. -/
def Held (n : Nat) (C : Nat → Sec) (h : Nat) (L : List Bs) : Prop := C 0 = superB h L.length (sizeB L) ∧ Cont n C h L
structure Lens (n : Nat) (sf : List Sec) (df : Int → Option Sec) : Prop where
  len : sf.length = n
  each : ∀ x ∈ sf, x.length = 64
  sup : ∀ i s, df i = some s → 0 ≤ i ∧ i < (n : Int) ∧ s.length = 64
theorem Lens.cur {n : Nat} {sf : List Sec} {df : Int → Option Sec} (h : Lens n sf df) {i : Nat} (hi : i < n) : (curS sf df i).length = 64 := curS_len h.len h.each h.sup hi
theorem Lens.safe {n : Nat} {sf : List Sec} {df : Int → Option Sec} (h : Lens n sf df) : Lens n sf (fun _ => none) := ⟨h.len, h.each, fun i s e => by cases e⟩

theorem flat_get (f : Nat → Sec) (m : Nat) (hf : ∀ i, i < m → (f i).length = 64) (j : Nat) (hj : j < 64 * m) : ((List.range m).flatMap f)[j]? = (f (j / 64))[j % 64]? := by
  induction m with
  | zero => omega
  | succ m ih =>
    have hlen : ((List.range m).flatMap f).length = 64 * m := by
      clear ih hj
      induction m with
      | zero => rfl
      | succ m ih =>
        rw [List.range_succ, List.flatMap_append, List.length_append, ih (fun i hi => hf i (by omega))]
        simp [hf m (by omega)]; omega
    rw [List.range_succ, List.flatMap_append]
    by_cases h : j < 64 * m
    · rw [List.getElem?_append_left (by omega)]
      exact ih (fun i hi => hf i (by omega)) h
    · rw [List.getElem?_append_right (by omega), hlen]
      have e1 : j / 64 = m := by omega
      have e2 : j - 64 * m = j % 64 := by omega
      rw [e1, e2]
      simp
theorem flat_len (f : Nat → Sec) (m : Nat) (hf : ∀ i, i < m → (f i).length = 64) : ((List.range m).flatMap f).length = 64 * m := by
  induction m with
  | zero => rfl
  | succ m ih =>
    rw [List.range_succ, List.flatMap_append, List.length_append, ih (fun i hi => hf i (by omega))]
    simp [hf m (by omega)]; omega
theorem sec_lt {n h i : Nat} (h1 : h ≤ 1) (hi : i < secs n) : 1 + h * secs n + i < n := by
  have hs : 2 * secs n ≤ n - 1 := by unfold secs; omega
  have : h = 0 ∨ h = 1 := by omega
  rcases this with rfl | rfl <;> omega
theorem half_get {n : Nat} {sf : List Sec} {df : Int → Option Sec} (H : Lens n sf df) {h : Nat} (h1 : h ≤ 1) {j : Nat} (hj : j < allB n) : (halfB n sf df h)[j]? = atB n h (curS sf df) j := by
  unfold halfB halfTo atB
  have hj' : j < 64 * secs n := by unfold allB at hj; omega
  exact flat_get (fun i => curS sf df (1 + h * secs n + i)) (secs n) (fun i hi => H.cur (sec_lt h1 hi)) j hj'
theorem half_len {n : Nat} {sf : List Sec} {df : Int → Option Sec} (H : Lens n sf df) {h : Nat} (h1 : h ≤ 1) : (halfB n sf df h).length = allB n := by
  unfold halfB halfTo allB
  rw [flat_len _ _ (fun i hi => H.cur (sec_lt h1 hi))]
  omega
theorem half_held {n : Nat} {sf : List Sec} {df : Int → Option Sec} (H : Lens n sf df) {h : Nat} (h1 : h ≤ 1) {L : List Bs} (hc : Cont n (curS sf df) h L) (hf : sizeB L ≤ allB n) : (halfB n sf df h).take (sizeB L) = framesB L := by
  apply List.ext_getElem?
  intro j
  by_cases hj : j < sizeB L
  · rw [List.getElem?_take_of_lt hj, half_get H h1 (by omega), hc j hj]
  · rw [List.getElem?_eq_none (by simp; omega), List.getElem?_eq_none (by rw [framesB_len]; omega)]

theorem super_get (h r u : Int) : (superB h r u).getD 0 0 = h % 256 := rfl
theorem super_drop1 (h r u : Int) : ((superB h r u).drop 1).take 4 = long4 r := rfl
theorem super_drop5 (h r u : Int) : ((superB h r u).drop 5).take 4 = long4 u := rfl
theorem num_long {n : Int} (h0 : 0 ≤ n) (h1 : n < 4294967296) : numB (long4 n) = n := by
  simp only [numB, long4, List.foldl]
  omega
theorem superB_len (h r u : Int) : (superB h r u).length = 64 := fillS_len _
theorem okB_fill {b : Bs} (h : okB b) : okB (fillS b) := okB_append (okB_take h _) (okB_replicate _)
theorem okB_super (h r u : Int) : okB (superB h r u) := okB_fill (okB_cons (by omega) (by omega) (okB_append (okB_long4 _) (okB_long4 _)))

/-- Opened again, a disk tells what it holds. -/
theorem openP_held {n : Nat} {sf : List Sec} {df : Int → Option Sec} (H : Lens n sf df) {h : Nat} (h1 : h ≤ 1) {L : List Bs} (hn : n ≤ 1024) (hL : Held n (curS sf df) h L) (hf : sizeB L ≤ allB n) (hr : ∀ x ∈ L, rightB x = true) : openP n sf df = some (h, L) := by
  have hab : allB n ≤ 32704 := allB_le hn
  have hll := sizeB_len L
  unfold openP
  rw [hL.1]
  rw [super_get, super_drop1, super_drop5, num_long (by omega) (by omega), num_long (by omega) (by omega)]
  have e1 : (h : Int) % 256 = h := by omega
  rw [e1, if_neg (by omega), if_pos rfl, if_neg (by omega)]
  rw [Int.toNat_natCast, Int.toNat_natCast, half_held H h1 hL.2 hf, splitB_frames L _ hr (Nat.le_refl _)]
  simp

/-- The state of a tape's disk, at any of its steps. -/
def newL (p : TD) : List Bs := (if p.fr then [] else p.L) ++ p.W
def Mix (p : TD) (C : Nat → Sec) : Prop := ∀ i, i < p.n → C i = curS p.sf p.df i ∨ C i = curS p.sf (fun _ => none) i
structure TSt (p : TD) : Prop where
  lens : Lens p.n p.sf p.df
  by' : BytesS p.sf p.df
  dn3 : p.dn ≤ 3
  clean : p.dn = 0 ∨ p.dn = 2 → p.df = fun _ => none
  old : p.dn ≤ 2 → ∀ C, Mix p C → Held p.n C p.h p.L
  new : 1 ≤ p.dn → Cont p.n (curS p.sf p.df) (placeH p) (newL p)
  either : p.dn = 3 → ∀ C, Mix p C → Held p.n C p.h p.L ∨ Held p.n C (placeH p) (newL p)
  sup : p.dn = 3 → Held p.n (curS p.sf p.df) (placeH p) (newL p)
theorem Mix.cur (p : TD) : Mix p (curS p.sf p.df) := fun i _ => .inl rfl
theorem cont_congr {n h : Nat} {C C' : Nat → Sec} {L : List Bs} (h1 : h ≤ 1) (hf : sizeB L ≤ allB n) (hc : Cont n C h L) (e : ∀ i, i < n → C' i = C i) : Cont n C' h L := fun j hj => by
  rw [← hc j hj]
  unfold atB
  rw [e _ (sec_lt h1 (by unfold allB at hf; omega))]
theorem held_congr {n h : Nat} {C C' : Nat → Sec} {L : List Bs} (h1 : h ≤ 1) (hn : 0 < n) (hf : sizeB L ≤ allB n) (hc : Held n C h L) (e : ∀ i, i < n → C' i = C i) : Held n C' h L :=
  ⟨by rw [e 0 hn]; exact hc.1, cont_congr h1 hf hc.2 e⟩
theorem placeH_le {p : TD} (h : p.h ≤ 1) : placeH p ≤ 1 := by unfold placeH; split <;> omega
theorem newL_size {p : TD} (h : p.Ok) : sizeB (newL p) ≤ allB p.n := by
  have hfw := h.fitW
  unfold newL
  rw [sizeB_append]
  cases hf : p.fr <;> simp [hf, sizeB_nil] at hfw ⊢ <;> omega
theorem newL_place (p : TD) : sizeB (newL p) = placeU p + sizeB p.W := by
  unfold newL placeU
  rw [sizeB_append]
  cases p.fr <;> simp [sizeB_nil]

theorem curS_flush {n : Nat} {sf : List Sec} {df df' : Int → Option Sec} (hd : df' = fun _ => none) {i : Nat} (hi : i < n) : curS (flushS n sf df) df' i = curS sf df i := by
  subst hd
  rw [curS_none]
  unfold flushS
  rw [List.getD_eq_getElem?_getD, List.getElem?_map, List.getElem?_range hi]
  rfl
theorem Lens.flush {n : Nat} {sf : List Sec} {df : Int → Option Sec} (h : Lens n sf df) : Lens n (flushS n sf df) (fun _ => none) :=
  ⟨flushS_len _ _ _, fun x hx => by
    unfold flushS at hx
    obtain ⟨i, hi, rfl⟩ := List.mem_map.1 hx
    exact h.cur (by simpa using hi), fun i s e => by cases e⟩
theorem BytesS.flush {n : Nat} {sf : List Sec} {df : Int → Option Sec} (h : BytesS sf df) : BytesS (flushS n sf df) (fun _ => none) :=
  ⟨fun x hx => by
    unfold flushS at hx
    obtain ⟨i, hi, rfl⟩ := List.mem_map.1 hx
    exact h.cur i, fun i s e => by cases e⟩
theorem curS_lay (sf : List Sec) (df : Int → Option Sec) (pos : Nat) (l : List Sec) (i : Nat) : curS sf (layL df pos l) i = if pos ≤ i ∧ i < pos + l.length then l.getD (i - pos) [] else curS sf df i := by
  unfold curS layL
  by_cases h : pos ≤ i ∧ i < pos + l.length
  · rw [if_pos h, if_pos (by omega)]
    have e : ((i : Int) - pos).toNat = i - pos := by omega
    rw [e, List.getElem?_eq_getElem (by omega)]
    simp [List.getD_eq_getElem?_getD, show i - pos < l.length by omega]
  · rw [if_neg h, if_neg (by omega)]
theorem chL_eq (N k : Nat) : chL N k = min (N - 64 * k) 64 := by unfold chL; split <;> omega
theorem chS_get (xs : Bs) (k r : Nat) (hr : r < 64) : (chS xs k)[r]? = if 64 * k + r < xs.length then xs[64 * k + r]? else some 0 := by
  have hl : ((xs.drop (64 * k)).take (chL xs.length k)).length = chL xs.length k := by
    rw [List.length_take, List.length_drop, chL_eq]; omega
  unfold chS fillS
  rw [List.take_of_length_le (by rw [hl, chL_eq]; omega), hl]
  by_cases h : 64 * k + r < xs.length
  · rw [if_pos h, List.getElem?_append_left (by rw [hl, chL_eq]; omega), List.getElem?_take_of_lt (by rw [chL_eq]; omega), List.getElem?_drop]
  · rw [if_neg h, List.getElem?_append_right (by rw [hl, chL_eq]; omega), hl, List.getElem?_replicate, if_pos (by rw [chL_eq]; omega)]
theorem chS_len (xs : Bs) (k : Nat) : (chS xs k).length = 64 := fillS_len _
theorem Mix.same {p q : TD} (hn : q.n = p.n) (hs : q.sf = p.sf) (hd : q.df = p.df) {C : Nat → Sec} (h : Mix q C) : Mix p C := fun i hi => by
  have := h i (by rw [hn]; exact hi)
  rwa [hs, hd] at this

theorem layB_len {p : TD} (hl : Lens p.n p.sf p.df) (h1 : p.h ≤ 1) (hU : placeU p ≤ allB p.n) : (layB p).length = placeU p - placeU p / 64 * 64 + sizeB p.W := by
  unfold layB
  rw [List.length_append, List.length_drop, List.length_take, half_len hl (placeH_le h1), framesB_len, Nat.min_eq_left hU]
theorem layB_get {p : TD} (hl : Lens p.n p.sf p.df) (h1 : p.h ≤ 1) (hU : placeU p ≤ allB p.n) {j : Nat} (hj : placeU p / 64 * 64 ≤ j) (hjU : j < placeU p) :
    (layB p)[j - placeU p / 64 * 64]? = atB p.n (placeH p) (curS p.sf p.df) j := by
  unfold layB
  rw [List.getElem?_append_left (by rw [List.length_drop, List.length_take, half_len hl (placeH_le h1), Nat.min_eq_left hU]; omega), List.getElem?_drop, Nat.add_sub_cancel' hj, List.getElem?_take_of_lt hjU, half_get hl (placeH_le h1) (by omega)]
theorem layB_get2 {p : TD} (hl : Lens p.n p.sf p.df) (h1 : p.h ≤ 1) (hU : placeU p ≤ allB p.n) {j : Nat} (hjU : placeU p ≤ j) :
    (layB p)[j - placeU p / 64 * 64]? = (framesB p.W)[j - placeU p]? := by
  have hle : placeU p / 64 * 64 ≤ placeU p := Nat.div_mul_le_self _ _
  unfold layB
  have hlen : (((halfB p.n p.sf p.df (placeH p)).take (placeU p)).drop (placeU p / 64 * 64)).length = placeU p - placeU p / 64 * 64 := by
    rw [List.length_drop, List.length_take, half_len hl (placeH_le h1), Nat.min_eq_left hU]
  rw [List.getElem?_append_right (by omega), hlen]
  congr 1
  omega
/-- How many sectors are laid. -/
def layM (p : TD) : Nat := ((layB p).length + 63) / 64
theorem lay_cur (p : TD) (i : Nat) : curS p.sf (layP p).df i = if 1 + placeH p * secs p.n + placeU p / 64 ≤ i ∧ i < 1 + placeH p * secs p.n + placeU p / 64 + layM p then chS (layB p) (i - (1 + placeH p * secs p.n + placeU p / 64)) else curS p.sf p.df i := by
  show curS p.sf (layL p.df (1 + placeH p * secs p.n + placeU p / 64) ((List.range (layM p)).map (chS (layB p)))) i = _
  rw [curS_lay, List.length_map, List.length_range]
  split
  · rename_i h
    rw [List.getD_eq_getElem?_getD, List.getElem?_map, List.getElem?_range (by omega)]
    rfl
  · rfl
theorem place_le {p : TD} (h : p.Ok) : placeU p ≤ allB p.n ∧ placeU p + sizeB p.W ≤ allB p.n := by
  have h1 := h.fitL; have h2 := h.fitW
  unfold placeU
  cases hf : p.fr <;> simp [hf] at h2 ⊢ <;> omega
theorem lay_fits {p : TD} (h : p.Ok) (hl : Lens p.n p.sf p.df) : placeU p / 64 + layM p ≤ secs p.n := by
  obtain ⟨h1, h2⟩ := place_le h
  unfold layM
  rw [layB_len hl h.h1 h1]
  unfold allB at h2
  omega
theorem lay_zero (p : TD) : curS p.sf (layP p).df 0 = curS p.sf p.df 0 := by
  rw [lay_cur, if_neg (by omega)]
/-- A byte behind the lay. -/
theorem lay_get {p : TD} (h : p.Ok) (hl : Lens p.n p.sf p.df) {j : Nat} (hj : j < placeU p + sizeB p.W) :
    atB p.n (placeH p) (curS p.sf (layP p).df) j = if j < placeU p then atB p.n (placeH p) (curS p.sf p.df) j else (framesB p.W)[j - placeU p]? := by
  obtain ⟨h1, h2⟩ := place_le h
  have hlen := layB_len hl h.h1 h1
  by_cases hq : j / 64 < placeU p / 64
  · rw [if_pos (by omega)]
    unfold atB
    rw [lay_cur, if_neg (by omega)]
  · have hlt : j - placeU p / 64 * 64 < (layB p).length := by rw [hlen]; omega
    have hm : j / 64 - placeU p / 64 < layM p := by unfold layM; omega
    have e : atB p.n (placeH p) (curS p.sf (layP p).df) j = (layB p)[j - placeU p / 64 * 64]? := by
      unfold atB
      rw [lay_cur, if_pos (by omega), show 1 + placeH p * secs p.n + j / 64 - (1 + placeH p * secs p.n + placeU p / 64) = j / 64 - placeU p / 64 by omega, chS_get _ _ _ (by omega)]
      have e2 : 64 * (j / 64 - placeU p / 64) + j % 64 = j - placeU p / 64 * 64 := by omega
      rw [e2, if_pos hlt]
    rw [e]
    by_cases hU : j < placeU p
    · rw [if_pos hU, layB_get hl h.h1 h1 (by omega) hU]
    · rw [if_neg hU, layB_get2 hl h.h1 h1 (by omega)]
theorem newL_frames (p : TD) : framesB (newL p) = framesB (if p.fr then [] else p.L) ++ framesB p.W := by unfold newL; rw [framesB_append]
theorem oldL_len (p : TD) : (framesB (if p.fr then [] else p.L)).length = placeU p := by
  rw [framesB_len]
  unfold placeU
  cases p.fr <;> simp [sizeB_nil]
theorem lay_new {p : TD} (h : p.Ok) (hl : Lens p.n p.sf p.df) (hc : Cont p.n (curS p.sf p.df) p.h p.L) : Cont p.n (curS p.sf (layP p).df) (placeH p) (newL p) := by
  intro j hj
  rw [newL_place] at hj
  rw [lay_get h hl hj, newL_frames]
  by_cases hU : j < placeU p
  · rw [if_pos hU, List.getElem?_append_left (by rw [oldL_len]; exact hU)]
    have hf : p.fr = false := by
      cases hf : p.fr with
      | false => rfl
      | true => unfold placeU at hU; rw [hf] at hU; simp at hU
    have e1 : placeH p = p.h := by unfold placeH; rw [hf]; rfl
    have e2 : placeU p = sizeB p.L := by unfold placeU; rw [hf]; rfl
    rw [e1, hc j (by omega), hf]
    rfl
  · rw [if_neg hU, List.getElem?_append_right (by rw [oldL_len]; omega), oldL_len]
/-- The lay leaves the committed ones' bytes. -/
theorem lay_old {p : TD} (h : p.Ok) (hl : Lens p.n p.sf p.df) {j : Nat} (hj : j < sizeB p.L) : atB p.n p.h (curS p.sf (layP p).df) j = atB p.n p.h (curS p.sf p.df) j := by
  have hfl := h.fitL
  cases hf : p.fr with
  | false =>
    have e1 : placeH p = p.h := by unfold placeH; rw [hf]; rfl
    have e2 : placeU p = sizeB p.L := by unfold placeU; rw [hf]; rfl
    have := lay_get h hl (j := j) (by omega)
    rw [if_pos (by omega), e1] at this
    exact this
  | true =>
    have e1 : placeH p = 1 - p.h := by unfold placeH; rw [hf]; rfl
    have e2 : placeU p = 0 := by unfold placeU; rw [hf]; rfl
    have hm := lay_fits h hl
    unfold atB
    rw [lay_cur, if_neg]
    rw [e1, e2]
    rw [e2] at hm
    have h1 := h.h1
    unfold allB at hfl
    have : p.h = 0 ∨ p.h = 1 := by omega
    rcases this with hh | hh <;> rw [hh] <;> omega
end Go.Proofs.Ytlgimhhhlpmjcaa
