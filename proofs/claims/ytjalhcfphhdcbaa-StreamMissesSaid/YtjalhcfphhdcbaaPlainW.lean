/- The plain law of walks: by pointers as one by one. -/
import Derived.Test.YtjalhcfphhdcbaaStrO
import Derived.Test.YtjalhcfphhdcbaaStrE
set_option linter.unusedVariables false
set_option linter.unusedSimpArgs false
namespace Go.Proofs.Ytjalhcfphhdcbaa
open Go.RowKit

/-- The last two made below an index: told by what is made. -/
def prev (m : Nat → Bool) : Nat → Int × Int
  | 0 => (NN, NN)
  | i + 1 => if m i = true then ((i : Int), (prev m i).1) else prev m i
theorem prev_succ (m : Nat → Bool) (i : Nat) : prev m (i + 1) = if m i = true then ((i : Int), (prev m i).1) else prev m i := rfl
theorem prev_first (m : Nat → Bool) : ∀ i, ((prev m i).1 = NN ∧ (∀ j, j < i → m j = false)) ∨ ∃ a : Nat, (prev m i).1 = (a : Int) ∧ a < i ∧ m a = true ∧ (∀ j, a < j → j < i → m j = false) ∧ (prev m i).2 = (prev m a).1
  | 0 => .inl ⟨rfl, fun j hj => by omega⟩
  | i + 1 => by
    rw [prev_succ]
    by_cases h : m i = true
    · rw [if_pos h]
      exact .inr ⟨i, rfl, by omega, h, fun j h1 h2 => by omega, rfl⟩
    · rw [if_neg h]
      have h' : m i = false := by simpa using h
      rcases prev_first m i with ⟨h1, h2⟩ | ⟨a, h1, h2, h3, h4, h5⟩
      · exact .inl ⟨h1, fun j hj => by rcases Nat.lt_succ_iff_lt_or_eq.1 hj with hj | rfl; exact h2 j hj; exact h'⟩
      · exact .inr ⟨a, h1, by omega, h3, fun j g1 g2 => by rcases Nat.lt_succ_iff_lt_or_eq.1 g2 with hj | rfl; exact h4 j g1 hj; exact h', h5⟩

/-- A view that is built, as a stream sees it: 'd': of the stream; 'm': made with it. -/
structure Fits (s : Int) (vs : List Sl) (m d : Nat → Bool) : Prop where
  dm : ∀ i, d i = true → m i = true
  st : ∀ i (h : i < vs.length), missE vs[i].st = 0
  is : ∀ i (h : i < vs.length), (ofS s vs[i]).2 = d i
  ba : ∀ i (h : i < vs.length), d i = true → (ofS s vs[i]).1 = prev m i
  small : vs.length ≤ 1000

/-- The stream's addresses from one on. -/
def FF (d : Nat → Bool) (n f lo : Nat) : List Nat := (List.range' lo (n - lo)).filter fun i => decide (f ≤ i) && d i
theorem FF_step (d : Nat → Bool) (n f lo : Nat) (h : lo < n) : FF d n f lo = if (decide (f ≤ lo) && d lo) = true then lo :: FF d n f (lo + 1) else FF d n f (lo + 1) := by
  unfold FF
  rw [show n - lo = (n - (lo + 1)) + 1 by omega, List.range'_succ, List.filter_cons]
theorem FF_end (d : Nat → Bool) (n f : Nat) : FF d n f n = [] := by unfold FF; simp
theorem FF_skip (d : Nat → Bool) (n f a lo : Nat) (h1 : a ≤ lo) (h2 : lo ≤ n) (h3 : ∀ j, a ≤ j → j < lo → f ≤ j → d j = false) : FF d n f a = FF d n f lo := by
  obtain ⟨k, rfl⟩ : ∃ k, lo = a + k := ⟨lo - a, by omega⟩
  clear h1
  induction k generalizing a with
  | zero => rfl
  | succ k ih =>
    rw [FF_step d n f a (by omega), if_neg]
    · rw [show a + (k + 1) = (a + 1) + k by omega]
      exact ih (a + 1) (by omega) fun j g1 g2 g3 => h3 j (by omega) (by omega) g3
    · intro h
      simp at h
      rw [h3 a (Nat.le_refl _) (by omega) h.1] at h
      simp at h

theorem lin_fits {s : Int} {vs : List Sl} {m d : Nat → Bool} (h : Fits s vs m d) (f : Nat) : ∀ j, j ≤ vs.length → linP s vs (vs.length - j) = (FF d vs.length 0 (vs.length - j), 0)
  | 0, _ => by rw [Nat.sub_zero, linP_end s vs _ (Nat.le_refl _), FF_end]
  | j + 1, hj => by
    have hk : vs.length - (j + 1) < vs.length := by omega
    rw [linP_step s vs _ hk, if_pos (h.st _ hk), h.is _ hk, show vs.length - (j + 1) + 1 = vs.length - j by omega, lin_fits h f j (by omega), FF_step d _ 0 _ hk, show vs.length - (j + 1) + 1 = vs.length - j by omega]
    unfold cont
    rw [if_pos rfl]
    cases d (vs.length - (j + 1)) <;> simp
theorem FF_from (d : Nat → Bool) (n f lo : Nat) (h : f ≤ lo) : FF d n f lo = FF d n 0 lo := by
  unfold FF
  apply List.filter_congr
  intro x hx
  have := (List.mem_range'_1.1 hx).1
  simp
  omega
/-- One by one. -/
theorem linP_fits {s : Int} {vs : List Sl} {m d : Nat → Bool} (h : Fits s vs m d) (f : Nat) : linP s vs f = (FF d vs.length f f, 0) := by
  by_cases hf : f ≤ vs.length
  · have := lin_fits h f (vs.length - f) (by omega)
    rw [show vs.length - (vs.length - f) = f by omega] at this
    rw [this, FF_from d _ f f (Nat.le_refl _)]
  · rw [linP_end s vs f (by omega)]
    unfold FF
    rw [show vs.length - f = 0 by omega]
    rfl

/-- The search below. -/
theorem srch_fits {s : Int} {vs : List Sl} {m d : Nat → Bool} (h : Fits s vs m d) (f : Nat) : ∀ a, a ≤ vs.length → (srch s f vs a = (0, NN) ∧ ∀ j, f ≤ j → j < a → d j = false) ∨ ∃ j : Nat, srch s f vs a = (0, (j : Int)) ∧ f ≤ j ∧ j < a ∧ d j = true ∧ ∀ i, j < i → i < a → d i = false
  | 0, _ => .inl ⟨rfl, fun j _ hj => by omega⟩
  | a + 1, ha => by
    have hgd : vs.getD a default = vs[a] := by simp [List.getD_eq_getElem?_getD, show a < vs.length by omega]
    unfold srch
    rw [hgd]
    by_cases hf : (f : Int) < (a : Int) + 1
    · rw [if_pos hf, if_pos (h.st a (by omega)), h.is a (by omega)]
      cases hd : d a with
      | true =>
        rw [if_pos rfl]
        exact .inr ⟨a, rfl, by omega, by omega, hd, fun i g1 g2 => by omega⟩
      | false =>
        rw [if_neg (by simp)]
        rcases srch_fits h f a (by omega) with ⟨h1, h2⟩ | ⟨j, h1, h2, h3, h4, h5⟩
        · exact .inl ⟨h1, fun j g1 g2 => by rcases Nat.lt_succ_iff_lt_or_eq.1 g2 with hj | rfl; exact h2 j g1 hj; exact hd⟩
        · exact .inr ⟨j, h1, h2, by omega, h4, fun i g1 g2 => by rcases Nat.lt_succ_iff_lt_or_eq.1 g2 with hj | rfl; exact h5 i g1 hj; exact hd⟩
    · rw [if_neg hf]
      exact .inl ⟨rfl, fun j g1 g2 => by omega⟩

/-- What holds at each step of a walk. -/
structure WInv (m d : Nat → Bool) (n f : Nat) (p : PS) (acc : List Nat) (k lo : Nat) : Prop where
  le : lo ≤ n
  ac : acc = (FF d n f lo).reverse
  cnt : k + lo ≤ n
  at' : (p.p0 = NN ∧ ∀ j, f ≤ j → j < lo → d j = false) ∨ ∃ a : Nat, p.p0 = (a : Int) ∧ a < lo ∧ (∀ j, a < j → j < lo → f ≤ j → d j = false) ∧ (p.kn = true → m a = true ∧ p.p1 = (prev m a).1)
  all : (∀ i, m i = true → d i = true) → p.kn = true ∧ acc.length = k

theorem nat_ne_NN {a n : Nat} (h : a < n) (hn : n ≤ 1000) : ¬ ((a : Int) = NN) := by unfold NN; omega

theorem walk_fits {s : Int} {vs : List Sl} {m d : Nat → Bool} (h : Fits s vs m d) (f : Nat) : ∀ (q : Nat) (p : PS) (acc : List Nat) (k lo : Nat), WInv m d vs.length f p acc k lo → lo + 2 ≤ q →
    ∃ k', walkF s f vs q p acc k = (0, (FF d vs.length f 0).reverse, k') ∧ k' ≤ vs.length ∧ ((∀ i, m i = true → d i = true) → (FF d vs.length f 0).length = k')
  | 0, _, _, _, _, _, hq => by omega
  | q + 1, p, acc, k, lo, I, hq => by
    obtain ⟨p0, p1, kn⟩ := p
    have hdone : (∀ j, f ≤ j → j < lo → d j = false) → ∃ k', (0, acc, k) = ((0 : Int), (FF d vs.length f 0).reverse, k') ∧ k' ≤ vs.length ∧ ((∀ i, m i = true → d i = true) → (FF d vs.length f 0).length = k') := fun hj => by
      have e := FF_skip d vs.length f 0 lo (Nat.zero_le _) I.le fun j _ g2 g3 => hj j g3 g2
      refine ⟨k, by rw [e, I.ac], by have := I.cnt; omega, fun ha => ?_⟩
      rw [e, ← (I.all ha).2, I.ac, List.length_reverse]
    unfold walkF
    dsimp only
    rcases I.at' with ⟨h1, h2⟩ | ⟨a, h1, h2, h3, h4⟩
    · dsimp only at h1
      rw [if_pos (Or.inl h1)]
      exact hdone h2
    · dsimp only at h1 h4
      subst h1
      by_cases hf : (a : Int) < f
      · rw [if_pos (Or.inr hf)]
        exact hdone fun j g1 g2 => h3 j (by omega) g2 g1
      · have hlo := I.le
        have han : a < vs.length := by omega
        rw [if_neg (by rintro (e | e); exact nat_ne_NN han h.small e; exact hf e)]
        have hfa : f ≤ a := by omega
        have hcnt := I.cnt
        have hsp := stepP_at s f vs a p1 kn han
        rw [if_pos (h.st a han), h.is a han] at hsp
        have hskip : FF d vs.length f (a + 1) = FF d vs.length f lo := FF_skip d _ f _ _ (by omega) hlo fun j g1 g2 g3 => h3 j (by omega) g2 g3
        have hFF := FF_step d vs.length f a han
        cases hd : d a with
        | true =>
          rw [if_pos hd, h.ba a han hd] at hsp
          rw [hd, decide_eq_true hfa, if_pos (show (true && true) = true from rfl), hskip] at hFF
          rcases prev_first m a with ⟨g1, g2⟩ | ⟨b, g1, g2, g3, g4, g5⟩
          · rw [if_pos (Or.inl g1)] at hsp
            rw [hsp]
            dsimp only
            rw [if_pos rfl]
            refine walk_fits h f q _ _ _ a ⟨by omega, ?_, by omega, .inl ⟨g1, fun j _ gj => ?_⟩, fun ha => ⟨rfl, ?_⟩⟩ (by omega)
            · rw [hFF, Int.toNat_natCast]; unfold addIf; rw [if_pos rfl, I.ac, List.reverse_cons]
            · by_cases hdj : d j = true
              · have := h.dm j hdj; rw [g2 j gj] at this; simp at this
              · simpa using hdj
            · unfold addIf; rw [if_pos rfl, List.length_append, (I.all ha).2]; rfl
          · have hba : (prev m a).1 = NN ∨ (prev m a).1 < (a : Int) := .inr (by rw [g1]; omega)
            rw [if_pos hba] at hsp
            rw [hsp]
            dsimp only
            rw [if_pos rfl]
            refine walk_fits h f q _ _ _ a ⟨by omega, ?_, by omega, .inr ⟨b, g1, g2, fun j q1 q2 _ => ?_, fun _ => ⟨g3, g5⟩⟩, fun ha => ⟨rfl, ?_⟩⟩ (by omega)
            · rw [hFF, Int.toNat_natCast]; unfold addIf; rw [if_pos rfl, I.ac, List.reverse_cons]
            · by_cases hdj : d j = true
              · have := h.dm j hdj; rw [g4 j q1 q2] at this; simp at this
              · simpa using hdj
            · unfold addIf; rw [if_pos rfl, List.length_append, (I.all ha).2]; rfl
        | false =>
          rw [hd, if_neg (by simp)] at hsp
          rw [hd, Bool.and_false, if_neg (by simp), hskip] at hFF
          have hnall : ¬ (∀ i, m i = true → d i = true) := fun ha => by
            have hk := (I.all ha).1
            dsimp only at hk
            have := ha a (h4 hk).1
            rw [hd] at this
            simp at this
          cases kn with
          | true =>
            obtain ⟨hma, hp1⟩ := h4 rfl
            rw [if_pos rfl, hp1] at hsp
            rcases prev_first m a with ⟨g1, g2⟩ | ⟨b, g1, g2, g3, g4, g5⟩
            · rw [if_pos (Or.inl g1)] at hsp
              rw [hp1, hsp]
              dsimp only
              rw [if_pos rfl]
              refine walk_fits h f q _ _ _ a ⟨by omega, ?_, by omega, .inl ⟨g1, fun j _ gj => ?_⟩, fun ha => absurd ha hnall⟩ (by omega)
              · unfold addIf; rw [if_neg (by simp), hFF, I.ac]
              · by_cases hdj : d j = true
                · have := h.dm j hdj; rw [g2 j gj] at this; simp at this
                · simpa using hdj
            · have hba : (prev m a).1 = NN ∨ (prev m a).1 < (a : Int) := .inr (by rw [g1]; omega)
              rw [if_pos hba] at hsp
              rw [hp1, hsp]
              dsimp only
              rw [if_pos rfl]
              refine walk_fits h f q _ _ _ a ⟨by omega, ?_, by omega, .inr ⟨b, g1, g2, fun j q1 q2 _ => ?_, fun e => by simp at e⟩, fun ha => absurd ha hnall⟩ (by omega)
              · unfold addIf; rw [if_neg (by simp), hFF, I.ac]
              · by_cases hdj : d j = true
                · have := h.dm j hdj; rw [g4 j q1 q2] at this; simp at this
                · simpa using hdj
          | false =>
            rw [if_neg (by simp)] at hsp
            rcases srch_fits h f a (by omega) with ⟨g1, g2⟩ | ⟨b, g1, g2, g3, g4, g5⟩
            · rw [g1] at hsp
              rw [hsp]
              dsimp only
              rw [if_pos rfl]
              refine walk_fits h f q _ _ _ a ⟨by omega, ?_, by omega, .inl ⟨rfl, g2⟩, fun ha => absurd ha hnall⟩ (by omega)
              unfold addIf; rw [if_neg (by simp), hFF, I.ac]
            · rw [g1] at hsp
              rw [hsp]
              dsimp only
              rw [if_pos rfl]
              refine walk_fits h f q _ _ _ a ⟨by omega, ?_, by omega, .inr ⟨b, rfl, g3, fun j q1 q2 _ => g5 j q1 q2, fun e => by simp at e⟩, fun ha => absurd ha hnall⟩ (by omega)
              unfold addIf; rw [if_neg (by simp), hFF, I.ac]

/-- By pointers: from a stream's last two. -/
theorem walkP_fits {s : Int} {vs : List Sl} {m d : Nat → Bool} (h : Fits s vs m d) (f : Nat) :
    (walkP s f vs (prev m vs.length).1 (prev m vs.length).2).1 = 0 ∧ (walkP s f vs (prev m vs.length).1 (prev m vs.length).2).2.1 = FF d vs.length f 0 ∧
      (walkP s f vs (prev m vs.length).1 (prev m vs.length).2).2.2 ≤ vs.length ∧ ((∀ i, m i = true → d i = true) → (FF d vs.length f 0).length = (walkP s f vs (prev m vs.length).1 (prev m vs.length).2).2.2) := by
  have I : WInv m d vs.length f ⟨(prev m vs.length).1, (prev m vs.length).2, true⟩ [] 0 vs.length := by
    refine ⟨Nat.le_refl _, by rw [FF_end]; rfl, by omega, ?_, fun _ => ⟨rfl, rfl⟩⟩
    rcases prev_first m vs.length with ⟨g1, g2⟩ | ⟨b, g1, g2, g3, g4, g5⟩
    · exact .inl ⟨g1, fun j _ gj => by
        by_cases hdj : d j = true
        · have := h.dm j hdj; rw [g2 j gj] at this; simp at this
        · simpa using hdj⟩
    · exact .inr ⟨b, g1, g2, fun j q1 q2 _ => by
        by_cases hdj : d j = true
        · have := h.dm j hdj; rw [g4 j q1 q2] at this; simp at this
        · simpa using hdj, fun _ => ⟨g3, g5⟩⟩
  obtain ⟨k', h1, h2, h3⟩ := walk_fits h f (vs.length + 2) _ _ _ _ I (Nat.le_refl _)
  unfold walkP
  rw [h1]
  exact ⟨rfl, by simp, h2, h3⟩
theorem FF_all (d : Nat → Bool) (n f : Nat) : FF d n f 0 = FF d n f f := by
  by_cases h : f ≤ n
  · exact FF_skip d n f 0 f (Nat.zero_le _) h fun j _ g2 g3 => by omega
  · have e := FF_skip d n f 0 n (Nat.zero_le _) (Nat.le_refl _) fun j _ g2 g3 => by omega
    rw [e, FF_end]
    unfold FF
    rw [show n - f = 0 by omega]
    rfl
end Go.Proofs.Ytjalhcfphhdcbaa
