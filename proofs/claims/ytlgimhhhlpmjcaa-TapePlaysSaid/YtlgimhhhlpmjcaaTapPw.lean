/- The tape: what a crash leaves behind any number of steps (no walk). -/
import Derived.Test.YtlgimhhhlpmjcaaTapPs
set_option linter.unusedVariables false
set_option linter.unusedSimpArgs false
namespace Go.Proofs.Ytlgimhhhlpmjcaa

/-- The state behind k steps. -/
structure Ran (p q : TD) (k : Nat) : Prop where
  st : TSt q
  ok : q.Ok
  n : q.n = p.n
  how : (emptyP p = true ∧ q = p) ∨ (emptyP p = false ∧ k ≤ 3 ∧ q.dn = k ∧ q.L = p.L ∧ q.W = p.W ∧ q.fr = p.fr) ∨ (emptyP p = false ∧ 4 ≤ k ∧ q.dn = 0 ∧ q.L = newL p ∧ emptyP q = true)
theorem Ran.init {p : TD} (h : p.Ok) (S : TSt p) (hd : p.dn = 0) : Ran p p 0 := by
  refine ⟨S, h, rfl, ?_⟩
  cases he : emptyP p with
  | true => exact .inl ⟨rfl, rfl⟩
  | false => exact .inr (.inl ⟨rfl, by omega, hd, rfl, rfl, rfl⟩)
theorem stepP_n (p : TD) : (stepP p).n = p.n := by
  unfold stepP
  split
  · rfl
  · split <;> rfl
theorem empty_same {p q : TD} (h1 : q.W = p.W) (h2 : q.fr = p.fr) : emptyP q = emptyP p := by unfold emptyP; rw [h1, h2]
theorem newL_same {p q : TD} (h0 : q.L = p.L) (h1 : q.W = p.W) (h2 : q.fr = p.fr) : newL q = newL p := by unfold newL; rw [h0, h1, h2]
theorem Ran.step {p q : TD} {k : Nat} (h : Ran p q k) : Ran p (stepP q) (k + 1) := by
  refine ⟨TSt.step h.ok h.st, stepP_ok h.ok h.st.dn3, (stepP_n q).trans h.n, ?_⟩
  rcases h.how with ⟨he, rfl⟩ | ⟨he, hk, hd, hL, hW, hf⟩ | ⟨he, hk, hd, hL, hq⟩
  · left
    exact ⟨he, by unfold stepP; rw [if_pos he]⟩
  · right
    have heq : emptyP q = false := by rw [empty_same hW hf]; exact he
    have hs : stepP q = match q.dn with
      | 0 => layP (incP q)
      | 1 => flushP (incP q)
      | 2 => markP (incP q)
      | _ => endP (flushP (incP q)) := by
      unfold stepP
      rw [if_neg (by rw [heq]; simp)]
      rfl
    have hc : q.dn = 0 ∨ q.dn = 1 ∨ q.dn = 2 ∨ q.dn = 3 := by omega
    rcases hc with h0 | h0 | h0 | h0 <;> rw [h0] at hs <;> rw [hs]
    · left; exact ⟨he, by omega, by show q.dn + 1 = k + 1; omega, hL, hW, hf⟩
    · left; exact ⟨he, by omega, by show q.dn + 1 = k + 1; omega, hL, hW, hf⟩
    · left; exact ⟨he, by omega, by show q.dn + 1 = k + 1; omega, hL, hW, hf⟩
    · right
      refine ⟨he, by omega, rfl, ?_, rfl⟩
      show newL q = newL p
      exact newL_same hL hW hf
  · right; right
    have hs : stepP q = q := by unfold stepP; rw [if_pos hq]
    rw [hs]
    exact ⟨he, by omega, hd, hL, hq⟩

theorem crash_cur {n : Nat} {sf : List Sec} {df : Int → Option Sec} {keep : List Bool} {i : Nat} (hi : i < n) : curS (crashS n sf df keep) (fun _ => none) i = curS sf df i ∨ curS (crashS n sf df keep) (fun _ => none) i = curS sf (fun _ => none) i := by
  rw [curS_none]
  unfold crashS
  rw [List.getD_eq_getElem?_getD, List.getElem?_map, List.getElem?_range hi]
  show crashAt sf df keep i = _ ∨ crashAt sf df keep i = _
  unfold crashAt
  split
  · exact .inl rfl
  · exact .inr rfl
theorem crash_lens {n : Nat} {sf : List Sec} {df : Int → Option Sec} (h : Lens n sf df) (keep : List Bool) : Lens n (crashS n sf df keep) (fun _ => none) :=
  ⟨crashS_len _ _ _ _, fun x hx => by
    unfold crashS at hx
    obtain ⟨i, hi, rfl⟩ := List.mem_map.1 hx
    have hi : i < n := by simpa using hi
    unfold crashAt
    split
    · exact h.cur hi
    · exact (h.safe).cur hi, fun i s e => by cases e⟩
theorem crash_bytes {n : Nat} {sf : List Sec} {df : Int → Option Sec} (h : BytesS sf df) (keep : List Bool) : BytesS (crashS n sf df keep) (fun _ => none) :=
  ⟨fun x hx => by
    unfold crashS at hx
    obtain ⟨i, hi, rfl⟩ := List.mem_map.1 hx
    unfold crashAt
    split
    · exact h.cur i
    · exact (show BytesS sf (fun _ => none) from ⟨h.1, fun i s e => by cases e⟩).cur i, fun i s e => by cases e⟩
theorem crash_twice {n : Nat} {sf : List Sec} (h : sf.length = n) (keep : List Bool) : crashS n sf (fun _ => none) keep = sf := by
  apply List.ext_getElem
  · rw [crashS_len, h]
  · intro i h1 h2
    simp [crashS, crashAt, isD, List.getD_eq_getElem?_getD, h2]

theorem crash_open {q : TD} (hk : q.Ok) (S : TSt q) (hn : q.n ≤ 1024) (keep : List Bool) :
    ∃ h' L', openP q.n (crashS q.n q.sf q.df keep) (fun _ => none) = some (h', L') ∧ (q.dn ≤ 2 → L' = q.L) ∧ (L' = q.L ∨ (q.dn = 3 ∧ L' = newL q)) := by
  have hm : Mix q (curS (crashS q.n q.sf q.df keep) (fun _ => none)) := fun i hi => crash_cur hi
  have hl := crash_lens S.lens keep
  by_cases hd : q.dn ≤ 2
  · exact ⟨q.h, q.L, openP_held hl hk.h1 hn (S.old hd _ hm) hk.fitL (fun x hx => (hk.rl x hx).1), fun _ => rfl, .inl rfl⟩
  · have hd3 : q.dn = 3 := by have := S.dn3; omega
    rcases S.either hd3 _ hm with hh | hh
    · exact ⟨q.h, q.L, openP_held hl hk.h1 hn hh hk.fitL (fun x hx => (hk.rl x hx).1), fun _ => rfl, .inl rfl⟩
    · refine ⟨placeH q, newL q, openP_held hl (placeH_le hk.h1) hn hh (newL_size hk) (fun x hx => ?_), fun h => absurd h hd, .inr ⟨hd3, rfl⟩⟩
      unfold newL at hx
      rcases List.mem_append.1 hx with hx | hx
      · cases hf : q.fr <;> simp [hf] at hx
        exact (hk.rl x hx).1
      · exact (hk.rw x hx).1
/-- ALL OR NOTHING. -/
theorem Ran.crash {p q : TD} {k : Nat} (h : Ran p q k) (hd : p.dn = 0) (hn : p.n ≤ 1024) (keep : List Bool) :
    ∃ h' L', openP p.n (crashS p.n q.sf q.df keep) (fun _ => none) = some (h', L') ∧ (L' = newL p ∨ L' = p.L) ∧ (3 ≤ k ∨ L' = p.L) ∧ (k < 4 ∨ L' = newL p) := by
  obtain ⟨h', L', h1, h2, h3⟩ := crash_open h.ok h.st (by rw [h.n]; exact hn) keep
  rw [h.n] at h1
  refine ⟨h', L', h1, ?_⟩
  rcases h.how with ⟨he, rfl⟩ | ⟨he, hk, hq, hL, hW, hf⟩ | ⟨he, hk, hq, hL, hqe⟩
  · have e := h2 (by omega)
    have hN : newL q = q.L := by
      unfold emptyP at he
      simp at he
      unfold newL
      rw [he.1, he.2]
      simp
    rw [hN]
    exact ⟨.inr e, .inr e, .inr e⟩
  · have hN := newL_same hL hW hf
    by_cases h3' : k ≤ 2
    · have e := h2 (by omega)
      rw [hL] at e
      exact ⟨.inr e, .inr e, .inl (by omega)⟩
    · rcases h3 with e | ⟨_, e⟩
      · rw [hL] at e
        exact ⟨.inr e, .inr e, .inl (by omega)⟩
      · rw [hN] at e
        exact ⟨.inl e, .inl (by omega), .inl (by omega)⟩
  · have e := h2 (by omega)
    rw [hL] at e
    exact ⟨.inl e, .inl (by omega), .inr e⟩
end Go.Proofs.Ytlgimhhhlpmjcaa
