/- The tape: what a part of a row of bytes is appended to. -/
import Derived.Test.YtlgimhhhlpmjcaaTapP
set_option linter.unusedVariables false
set_option linter.unusedSimpArgs false
namespace Go.Proofs.Ytlgimhhhlpmjcaa
open Go.RowKit Go.Maps Go.WideMaps Go.Shelf

/-- A part of a row that a call made, to its end. -/
def Sub8 (w : World) (base : Nat) (v : Value) (xs : Bs) : Prop :=
  (v = .slice none 0 0 ∧ xs = []) ∨ ∃ g off c cur, v = .slice (some ⟨g, off, none⟩) xs.length c ∧ base ≤ g ∧ w.heap[g]? = some (.cells cur 5 (0, 0)) ∧ xs.length ≤ c ∧ c ≤ maxLen ∧ off + c ≤ cur.size ∧ ∀ i (h : i < xs.length), cur[off + i]? = some (.int .u8 xs[i])
theorem Own8.sub {w : World} {base : Nat} {A : Option Addr} {n c : Nat} {xs : Bs} (h : Own8 w base (.slice A n c) xs) (k : Nat) (hk : k ≤ n) : Sub8 w base (.slice (if c = k then A else A.map fun x => x.add k) (n - k) (c - k)) (xs.drop k) := by
  have hn : n = xs.length := by
    rcases h.2 with ⟨e, h0⟩ | ⟨g, cap, cur, e, _⟩
    · cases e; omega
    · cases e; rfl
  rcases h.2 with ⟨e, h0⟩ | ⟨g, cap, cur, e, e1, e2, e3, e4, e5, e6⟩
  · left
    cases e
    have hx : xs = [] := List.eq_nil_of_length_eq_zero (by omega)
    have hk0 : k = 0 := by omega
    subst hx; subst hk0
    simp
  · right
    cases e
    have hcell : ∀ i (h : i < xs.length), cur[i]? = some (.int .u8 xs[i]) := fun i hi => by
      have h7 : (cur.toList.take (xs.length * 1))[i]? = some (.int .u8 xs[i]) := by rw [e6]; simp [sc, hi]
      rw [List.getElem?_take] at h7
      split at h7
      · simpa using h7
      · cases h7
    clear hn
    by_cases hc : c = k
    · refine ⟨g, 0, 0, cur, ?_, e1, e2, by simp; omega, by unfold maxLen; omega, by omega, fun i hi => ?_⟩
      · rw [if_pos hc]; simp; omega
      · simp at hi; omega
    · refine ⟨g, k, c - k, cur, ?_, e1, e2, by simp; omega, by omega, by omega, fun i hi => ?_⟩
      · rw [if_neg hc]; simp [add_none]
      · rw [hcell (k + i) (by simp at hi; omega)]; simp
theorem run_app_sub {w : World} {base : Nat} {v : Value} {xs ys : Bs} (h : Sub8 w base v xs) (A : Option Addr) (m c : Nat) (hy : RdU8 w A m ys) (hx : xs.length + m ≤ 1000000) (ty : TypeId) :
    ∃ A' n' c' w', (Builtin.append_ #[31, 31] ty #[v, .slice A m c]).run Try.prog w = .ok (.slice A' n' c') w' ∧ RdU8 w' A' n' (xs ++ ys) ∧ w.grownBy w' v.ownBlock ∧ n' ≤ c' ∧ c' ≤ maxLen := by
  obtain ⟨i, hi, hzz⟩ := Option.map_eq_some_iff.1 u8Info
  simp only [Prod.mk.injEq] at hzz
  obtain ⟨hz, hsize, hby⟩ := hzz
  have ht := Try.underlying31
  have hyl := hy.len
  by_cases hm : m = 0
  · subst hm
    have hys : ys = [] := List.eq_nil_of_length_eq_zero hyl
    subst hys
    have hsrc : Src Try.prog i.size 31 (.slice A 0 c) 0 [] w := by
      cases A with
      | none => exact Src.ofNil w ht c
      | some ad => exact Src.ofSlice w ht ad 0 c [] (by simp) (fun j u h => by simp at h) (fun u h => by cases h)
    rcases h with ⟨rfl, rfl⟩ | ⟨g, off, cc, cur, rfl, e1, e2, e3, e4, e5, e6⟩
    · exact ⟨none, 0, 0, w, run_append_nothing w _ _ ty _ i ht hi none 0 0 (Nat.le_refl _) _ hsrc, RdU8.nil _ _, grownBy_refl _ _, Nat.le_refl _, by unfold maxLen; omega⟩
    · refine ⟨some ⟨g, off, none⟩, xs.length, cc, w, run_append_nothing w _ _ ty _ i ht hi _ _ _ e3 _ hsrc, ?_, grownBy_refl _ _, e3, e4⟩
      rw [List.append_nil]
      refine ⟨rfl, fun _ => ⟨g, off, rfl, (Array.getElem?_eq_some_iff.1 e2).1, fun j hj => ?_⟩⟩
      rw [← e6 j hj]; simp [World.cell?, e2]
  · obtain ⟨ad, rfl, hcell⟩ := hy.lt_max (by omega)
    have hsrc : Src Try.prog i.size 31 (.slice (some ad) m c) m (sc ys) w := Src.ofSlice w ht ad m c (sc ys) (by rw [hsize, sc_len]; omega) hcell (sc_one ys)
    -- a new row
    have newrow : ∀ (base' : Option Addr) (sl cp : Nat), sl = xs.length → cp < sl + m → cp ≤ maxLen → ((Builtin.firstCells i.size sl (.slice base' sl cp)).run Try.prog w.drew = .ok (sc xs).toArray w.drew) →
        ∃ A' n' c' w', (Builtin.append_ #[31, 31] ty #[.slice base' sl cp, .slice (some ad) m c]).run Try.prog w = .ok (.slice A' n' c') w' ∧ RdU8 w' A' n' (xs ++ ys) ∧ w.grownBy w' (Value.slice base' sl cp).ownBlock ∧ n' ≤ c' ∧ c' ≤ maxLen := by
      intro base' sl cp hsl hcp hcm hold
      subst hsl
      have hr := run_append_grow_src (P := Try.prog) w _ _ ty _ i _ ht hi hz base' xs.length cp (sc xs) hold _ m (sc ys) hsrc hcp (by omega) (growslice_fits hcp (by rw [hby]; omega))
      have g1 := grownCap_ge w (xs.length + m) cp 5
      have g2 := grownCap_le_maxLen w (xs.length + m) cp 5 (by unfold maxLen; omega)
      refine ⟨_, _, _, _, hr, ⟨by simp; omega, fun _ => ⟨w.heap.size, 0, rfl, by simp, fun j hj => ?_⟩⟩, ⟨rfl, rfl, rfl, by simp, fun k hk _ => heap_alloc_old w.drew _ hk⟩, g1, g2⟩
      have hb : (w.drew.alloc (.cells ((sc xs ++ sc ys).toArray ++ Builtin.zeroCells (Value.int IntKind.u8 0).cells (grownCap w (xs.length + m) cp 5 - (xs.length + m))) 5)).heap[w.heap.size]? = some _ := heap_alloc_new w.drew _
      have hj' : j < (sc xs ++ sc ys).length := by simpa [sc] using hj
      simp only [World.cell?, hb, Nat.zero_add]
      have : ((sc xs ++ sc ys).toArray ++ Builtin.zeroCells (Value.int IntKind.u8 0).cells (grownCap w (xs.length + m) cp 5 - (xs.length + m)))[j]? = some (.int .u8 (xs ++ ys)[j]) := by
        rw [Array.getElem?_append_left (by simpa using hj')]
        rw [← sc_append]
        have h9 : (sc (xs ++ ys))[j]? = some (.int .u8 (xs ++ ys)[j]) := by simp only [sc, List.getElem?_map, List.getElem?_eq_getElem hj, Option.map_some]
        simpa using h9
      simpa using this
    rcases h with ⟨rfl, rfl⟩ | ⟨g, off, cc, cur, rfl, e1, e2, e3, e4, e5, e6⟩
    · exact newrow none 0 0 rfl (by omega) (by unfold maxLen; omega) (run_firstCells_none w.drew i.size 0 0 0)
    · have hlt := (Array.getElem?_eq_some_iff.1 e2).1
      by_cases hroom : xs.length + m ≤ cc
      · have hth : ∀ j, j < (sc ys).length → (w.cell? ⟨g, off + xs.length * i.size + j, none⟩).isSome = true := fun j hj => by
          rw [sc_len] at hj
          rw [hsize]
          simp [World.cell?, e2]; omega
        have hr := run_append_room_src (P := Try.prog) w _ _ ty _ i ht hi g off xs.length cc _ m (sc ys) hsrc hroom hth (fun j hj => by simp [World.frozen?, e2])
        refine ⟨_, _, _, _, hr, ⟨by simp; omega, fun _ => ⟨g, off, rfl, by rw [size_setCells]; exact hlt, fun j hj => ?_⟩⟩, grownBy_cells' w g _ _, by omega, e4⟩
        rw [hsize, Nat.mul_one]
        by_cases hjx : j < xs.length
        · rw [World.cell?_setCells_out g (sc ys) (off + xs.length) w ⟨g, off + j, none⟩ (fun _ _ => .inl (by show off + j < off + xs.length; omega)), List.getElem_append_left hjx, ← e6 j hjx]
          simp [World.cell?, e2]
        · have hj2 : j - xs.length < (sc ys).length := by rw [sc_len]; simp at hj; omega
          have := World.cell?_setCells_in g (sc ys) (off + xs.length) w (fun k hk => by have := hth k hk; rwa [hsize, Nat.mul_one] at this) (j - xs.length) hj2
          rw [show off + xs.length + (j - xs.length) = off + j by omega] at this
          rw [this, List.getElem_append_right (by omega)]
          simp [sc]
      · refine newrow (some ⟨g, off, none⟩) xs.length cc rfl (by omega) e4 ?_
        refine run_firstCells_some w.drew i.size xs.length ⟨g, off, none⟩ xs.length cc (sc xs) (by rw [hsize, sc_len]; omega) (fun j u hj => ?_)
        unfold sc at hj
        rw [List.getElem?_map] at hj
        obtain ⟨x, hx, rfl⟩ := Option.map_eq_some_iff.1 hj
        obtain ⟨hl, rfl⟩ := List.getElem?_eq_some_iff.1 hx
        rw [add_none]
        show w.cell? ⟨g, off + j, none⟩ = _
        rw [show w.cell? ⟨g, off + j, none⟩ = cur[off + j]? by simp [World.cell?, e2], e6 j hl]
where
  grownBy_cells' (w : World) (b o : Nat) (vs : List Value) : w.grownBy (w.setCells b o vs) (some b) :=
    ⟨(rest_setCells b vs o w).1, (rest_setCells b vs o w).2.1, (rest_setCells b vs o w).2.2, by rw [size_setCells]; exact Nat.le_refl _, fun k hk hne => heap_setCells_other b vs o w k (fun e => hne (by rw [e]))⟩

theorem step_app_sub {ops : Array Oper} {o : Oper} {a : Act} {w : World} {K : Act → World → Prop} {Q : Exit → Act → World → Prop} {E : Prop} (hgd : o.guard = none) (s x : Operand)
    (ho : o.op = .call { callee := .builtin .append, args := #[s, x], argTypes := #[31, 31] })
    {base : Nat} {v : Value} {xs ys : Bs} (hs : a.eval s = v) (h : Sub8 w base v xs) (A : Option Addr) (m c : Nat) (hx : a.eval x = .slice A m c) (hy : RdU8 w A m ys) (hb : xs.length + m ≤ 1000000)
    (hK : ∀ A' n' c' w', RdU8 w' A' n' (xs ++ ys) → w.grownBy w' v.ownBlock → n' ≤ c' → c' ≤ maxLen → K (a.put o.dst (.slice A' n' c')) w') : if Region.wanted o (yielded ops a.tmps) = true then Oper.wp Try.prog o a w K Q else E := by
  rw [if_pos (by simp [Region.wanted, hgd])]
  obtain ⟨A', n', c', w', hr, h2, h3, h4, h5⟩ := run_app_sub h A m c hy hb o.type
  unfold Oper.wp execOp
  simp only [ho, resolve, invoke, builtin, Sem.run_bind, Sem.run_pure, Result.andThen_ok, List.map_toArray, List.map_cons, List.map_nil, hs, hx, hr]
  exact hK A' n' c' w' h2 h3 h4 h5
end Go.Proofs.Ytlgimhhhlpmjcaa
