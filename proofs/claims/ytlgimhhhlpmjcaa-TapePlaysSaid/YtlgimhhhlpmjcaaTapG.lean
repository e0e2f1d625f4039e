/- The tape: rows of records. -/
import Derived.Test.YtlgimhhhlpmjcaaTapF
import Derived.Deep.AppendSrc
set_option linter.unusedVariables false
set_option linter.unusedSimpArgs false
namespace Go.Proofs.Ytlgimhhhlpmjcaa
open Go.RowKit Go.Maps Go.WideMaps Go.Shelf

/-- A new block, or the one that was there. -/
def NewOr (w : World) (v v' : Value) : Prop := ∀ g, v'.ownBlock = some g → v.ownBlock = some g ∨ w.heap.size ≤ g
theorem run_app2 {P : Program} {w : World} {base e n : Nat} {v : Value} {xs : List Value} (t ty : TypeId) (ht : P.underlying t = some (.slice e)) (z : Value) (bytes : Nat) (hinfo : (P.info? e).map (fun i => (i.zero, i.size, i.bytes)) = some (some z, 1, bytes)) (hzs : z.cells.size = 1)
    (h : w.ownsRow base e 1 v n xs) (a : Addr) (m c : Nat) (news : List Value) (hl : news.length = m) (hnews : ∀ j u, news[j]? = some u → w.cell? (a.add j) = some u) (h1 : ∀ u ∈ news, u.oneCell' = true)
    (hm : 0 < m) (h63 : n + m ≤ maxLen) (hbytes : (n + m) * bytes ≤ 140737488355328) (hbase : base ≤ w.heap.size) :
    ∃ v' w', (Builtin.append_ #[t, t] ty #[v, .slice (some a) m c]).run P w = .ok v' w' ∧ w'.ownsRow base e 1 v' (n + m) (xs ++ news) ∧ w.grownBy w' v.ownBlock ∧ NewOr w v v' := by
  obtain ⟨i, hi, hzz⟩ := Option.map_eq_some_iff.1 hinfo
  simp only [Prod.mk.injEq] at hzz
  obtain ⟨hz, hsize, hby⟩ := hzz
  obtain ⟨v', w', hrun, ho, hg, _⟩ := run_append_own (P := P) (w := w) base t ty e i z 1 bytes ht hi hz hsize hby hzs (by omega) v n xs h a m c news (by omega) hnews h1 h63 hbytes hbase
  refine ⟨v', w', hrun, ho, hg, fun g' hg' => ?_⟩
  subst hby
  rcases h.2 with ⟨rfl, rfl⟩ | ⟨g, cap, cur, rfl, hgb, hblk, hnc, hcm, hcur, htk⟩
  · have hr := run_append_nil (P := P) w t ty e i z ht hi hz a m c news (by rw [hsize]; omega) hnews (by omega) (by unfold maxLen at h63; omega) (by simp only [Nat.zero_add] at hbytes; omega)
    rw [hrun] at hr
    injection hr with e1 e2
    rw [e1] at hg'
    simp [Value.ownBlock] at hg'
    exact .inr (by omega)
  · by_cases hroom : n + m ≤ cap
    · have hr := run_append_room (P := P) w t ty e i ht hi g n cap cur hblk a m c news (by rw [hsize]; omega) hnews h1 hroom (by rw [hsize]; omega)
      rw [hrun] at hr
      injection hr with e1 e2
      rw [e1] at hg'
      exact .inl hg'
    · have holds : ∀ j u, xs[j]? = some u → w.cell? ((⟨g, 0, none⟩ : Addr).add j) = some u := h.cells (g := g) rfl
      have hr := run_append_grow (P := P) w t ty e i z ht hi hz ⟨g, 0, none⟩ n cap xs (by rw [hsize]; exact h.1) holds a m c news (by rw [hsize]; omega) hnews (by omega) (by unfold maxLen at h63; omega) (growslice_fits (by omega) hbytes)
      rw [hrun] at hr
      injection hr with e1 e2
      rw [e1] at hg'
      simp [Value.ownBlock] at hg'
      exact .inr (by omega)

section
variable {P : Program} {ops : Array Oper} {o : Oper} {a : Act} {w : World} {K : Act → World → Prop} {Q : Exit → Act → World → Prop} {E : Prop}
theorem step_app2 (hgd : o.guard = none) (s x : Operand) (t : TypeId)
    (ho : o.op = .call { callee := .builtin .append, args := #[s, x], argTypes := #[t, t] })
    (base : Nat) (e : TypeId) (z : Value) (bytes : Nat) (hinfo : (P.info? e).map (fun i => (i.zero, i.size, i.bytes)) = some (some z, 1, bytes)) (ht : P.underlying t = some (.slice e))
    (hzs : z.cells.size = 1)
    (v : Value) (n : Nat) (xs : List Value) (hs : a.eval s = v) (hown : w.ownsRow base e 1 v n xs)
    (ad : Addr) (m c : Nat) (news : List Value) (hx : a.eval x = .slice (some ad) m c) (hl : news.length = m) (hnews : ∀ j u, news[j]? = some u → w.cell? (ad.add j) = some u) (h1 : ∀ u ∈ news, u.oneCell' = true)
    (hm : 0 < m) (h63 : n + m ≤ maxLen) (hbytes : (n + m) * bytes ≤ 140737488355328) (hbase : base ≤ w.heap.size)
    (h : ∀ v' w', w'.ownsRow base e 1 v' (n + m) (xs ++ news) → w.grownBy w' v.ownBlock → NewOr w v v' → K (a.put o.dst v') w') : if Region.wanted o (yielded ops a.tmps) = true then Oper.wp P o a w K Q else E := by
  rw [if_pos (by simp [Region.wanted, hgd])]
  obtain ⟨v', w', hr, h2, h3, h4⟩ := run_app2 (P := P) t o.type ht z bytes hinfo hzs hown ad m c news hl hnews h1 hm h63 hbytes hbase
  unfold Oper.wp execOp
  simp only [ho, resolve, invoke, builtin, Sem.run_bind, Sem.run_pure, Result.andThen_ok, List.map_toArray, List.map_cons, List.map_nil, hs, hx, hr]
  exact h v' w' h2 h3 h4
theorem list_app2 {rest : List Oper} (hgd : o.guard = none) (s x : Operand) (t : TypeId)
    (ho : o.op = .call { callee := .builtin .append, args := #[s, x], argTypes := #[t, t] })
    (base : Nat) (e : TypeId) (z : Value) (bytes : Nat) (hinfo : (P.info? e).map (fun i => (i.zero, i.size, i.bytes)) = some (some z, 1, bytes)) (ht : P.underlying t = some (.slice e))
    (hzs : z.cells.size = 1)
    (v : Value) (n : Nat) (xs : List Value) (hs : a.eval s = v) (hown : w.ownsRow base e 1 v n xs)
    (ad : Addr) (m c : Nat) (news : List Value) (hx : a.eval x = .slice (some ad) m c) (hl : news.length = m) (hnews : ∀ j u, news[j]? = some u → w.cell? (ad.add j) = some u) (h1 : ∀ u ∈ news, u.oneCell' = true)
    (hm : 0 < m) (h63 : n + m ≤ maxLen) (hbytes : (n + m) * bytes ≤ 140737488355328) (hbase : base ≤ w.heap.size)
    (h : ∀ v' w', w'.ownsRow base e 1 v' (n + m) (xs ++ news) → w.grownBy w' v.ownBlock → NewOr w v v' → wpList P ops Q rest (a.put o.dst v') w') : wpList P ops Q (o :: rest) a w := by
  refine wpList_plain hgd fun K hK => ?_
  obtain ⟨v', w', hr, h2, h3, h4⟩ := run_app2 (P := P) t o.type ht z bytes hinfo hzs hown ad m c news hl hnews h1 hm h63 hbytes hbase
  unfold Oper.wp execOp
  simp only [ho, resolve, invoke, builtin, Sem.run_bind, Sem.run_pure, Result.andThen_ok, List.map_toArray, List.map_cons, List.map_nil, hs, hx, hr]
  exact hK _ _ (h v' w' h2 h3 h4)
end

/-- A record's slice. -/
def RecIs (w : World) (F : Nat → Prop) (v : Value) (x : Bs) : Prop :=
  ∃ g c cs fr, v = .slice (some ⟨g, 0, none⟩) x.length c ∧ F g ∧ w.heap[g]? = some (.cells cs 5 fr) ∧ ∀ i (h : i < x.length), cs[i]? = some (.int .u8 x[i])
theorem RecIs.keep {w w' : World} {F : Nat → Prop} {v : Value} {x : Bs} (h : RecIs w F v x) (hk : ∀ g cs fr, F g → w.heap[g]? = some (.cells cs 5 fr) → w'.heap[g]? = w.heap[g]?) : RecIs w' F v x := by
  obtain ⟨g, c, cs, fr, e, hF, hb, hc⟩ := h
  exact ⟨g, c, cs, fr, e, hF, (hk g cs fr hF hb).trans hb, hc⟩
theorem RecIs.mono {w : World} {F F' : Nat → Prop} {v : Value} {x : Bs} (h : RecIs w F v x) (hF : ∀ g, F g → F' g) : RecIs w F' v x := by
  obtain ⟨g, c, cs, fr, e, h1, hb, hc⟩ := h
  exact ⟨g, c, cs, fr, e, hF g h1, hb, hc⟩
theorem RecIs.rd {w : World} {F : Nat → Prop} {v : Value} {x : Bs} (h : RecIs w F v x) : ∃ A c, v = .slice A x.length c ∧ RdU8 w A x.length x := by
  obtain ⟨g, c, cs, fr, e, hF, hb, hc⟩ := h
  refine ⟨_, c, e, rfl, fun _ => ⟨g, 0, rfl, (Array.getElem?_eq_some_iff.1 hb).1, fun i hi => ?_⟩⟩
  rw [Nat.zero_add, ← hc i hi]
  simp [World.cell?, hb]
theorem RecIs.of {w : World} {base : Nat} {v : Value} {x : Bs} {F : Nat → Prop} (h : Own8 w base v x) (h0 : 0 < x.length) (hF : ∀ g, base ≤ g → g < w.heap.size → F g) : RecIs w F v x := by
  rcases h.2 with ⟨_, e0⟩ | ⟨g, cap, cur, e, e1, e2, e3, e4, e5, e6⟩
  · omega
  · have hlt := (Array.getElem?_eq_some_iff.1 e2).1
    refine ⟨g, cap, cur, (0, 0), e, hF g e1 hlt, e2, fun i hi => ?_⟩
    have h7 : (cur.toList.take (x.length * 1))[i]? = some (.int .u8 x[i]) := by rw [e6]; simp [sc, hi]
    rw [List.getElem?_take] at h7
    split at h7
    · simpa using h7
    · cases h7
theorem RecIs.one {w : World} {F : Nat → Prop} {v : Value} {x : Bs} (h : RecIs w F v x) : v.oneCell' = true := by
  obtain ⟨g, c, cs, fr, rfl, _⟩ := h; rfl

/-- A row of records. -/
structure RowR (w : World) (F : Nat → Prop) (v : Value) (L : List Bs) : Prop where
  row : ∃ vs, w.ownsRow 0 31 1 v L.length vs ∧ ∀ i (h : i < L.length), ∃ u, vs[i]? = some u ∧ RecIs w F u L[i]
  foot : ∀ g, v.ownBlock = some g → F g
theorem RowR.nil (w : World) (F : Nat → Prop) : RowR w F (.slice none 0 0) [] := ⟨⟨[], World.ownsRow_nil _ _ _ _, fun i h => by simp at h⟩, fun g h => by cases h⟩
theorem RowR.form {w : World} {F : Nat → Prop} {v : Value} {L : List Bs} (h : RowR w F v L) : ∃ A c, v = .slice A L.length c := by
  obtain ⟨⟨vs, h1, _⟩, _⟩ := h
  rcases h1.2 with ⟨rfl, h0⟩ | ⟨g', cap, cur, rfl, _⟩
  · rw [h0]; exact ⟨none, 0, rfl⟩
  · exact ⟨_, _, rfl⟩
theorem RowR.mono {w : World} {F F' : Nat → Prop} {v : Value} {L : List Bs} (h : RowR w F v L) (hF : ∀ g, F g → F' g) : RowR w F' v L := by
  obtain ⟨⟨vs, h1, h2⟩, h3⟩ := h
  refine ⟨⟨vs, h1, fun i hi => ?_⟩, fun g hg => hF g (h3 g hg)⟩
  obtain ⟨u, e, hr⟩ := h2 i hi
  exact ⟨u, e, hr.mono hF⟩
theorem ownsRow_keep {w w' : World} {base e size n : Nat} {v : Value} {xs : List Value} (h : w.ownsRow base e size v n xs) (hk : ∀ g, v.ownBlock = some g → w'.heap[g]? = w.heap[g]?) : w'.ownsRow base e size v n xs := by
  obtain ⟨h1, h2⟩ := h
  refine ⟨h1, ?_⟩
  rcases h2 with h2 | ⟨g, cap, cur, e1, e2, e3, e4⟩
  · exact .inl h2
  · exact .inr ⟨g, cap, cur, e1, e2, (hk g (by rw [e1]; rfl)).trans e3, e4⟩
theorem RowR.keep {w w' : World} {F : Nat → Prop} {v : Value} {L : List Bs} (h : RowR w F v L) (h1 : ∀ g, v.ownBlock = some g → w'.heap[g]? = w.heap[g]?) (h2 : ∀ g cs fr, F g → w.heap[g]? = some (.cells cs 5 fr) → w'.heap[g]? = w.heap[g]?) : RowR w' F v L := by
  obtain ⟨⟨vs, h3, h4⟩, h5⟩ := h
  refine ⟨⟨vs, ownsRow_keep h3 h1, fun i hi => ?_⟩, h5⟩
  obtain ⟨u, e, hr⟩ := h4 i hi
  exact ⟨u, e, hr.keep h2⟩
theorem RowR.same {w w' : World} {F : Nat → Prop} {v : Value} {L : List Bs} (h : RowR w F v L) (hk : ∀ g, F g → w'.heap[g]? = w.heap[g]?) : RowR w' F v L := h.keep (fun g hg => hk g (h.foot g hg)) (fun g _ _ hg _ => hk g hg)
theorem RowR.lt {w : World} {F : Nat → Prop} {v : Value} {L : List Bs} (h : RowR w F v L) {g : Nat} (hg : v.ownBlock = some g) : g < w.heap.size := by
  obtain ⟨⟨vs, h1, _⟩, _⟩ := h
  exact (h1.lt g hg).2
/-- The block of a row of records is of their type. -/
theorem RowR.blk {w : World} {F : Nat → Prop} {v : Value} {L : List Bs} (h : RowR w F v L) {g : Nat} (hg : v.ownBlock = some g) : ∃ cs, w.heap[g]? = some (.cells cs 31 (0, 0)) := by
  obtain ⟨⟨vs, h1, _⟩, _⟩ := h
  rcases h1.2 with ⟨rfl, _⟩ | ⟨g', cap, cur, rfl, e2, e3, _⟩
  · cases hg
  · simp only [Value.ownBlock, Option.some.injEq] at hg
    subst hg
    exact ⟨cur, e3⟩
theorem RowR.rd {w : World} {F : Nat → Prop} {A : Option Addr} {n c : Nat} {L : List Bs} (h : RowR w F (.slice A n c) L) : RdBB w A n L := by
  obtain ⟨⟨vs, h1, h2⟩, h3⟩ := h
  have hn : n = L.length := by
    rcases h1.2 with ⟨e, h0⟩ | ⟨g, cap, cur, e, _⟩
    · cases e; omega
    · cases e; rfl
  refine ⟨hn.symm, fun h0 => ?_⟩
  rcases h1.2 with ⟨e, e0⟩ | ⟨g, cap, cur, e, hg, hgb, e1, e2, e3, e4⟩
  · omega
  · cases e
    refine ⟨g, 0, rfl, (Array.getElem?_eq_some_iff.1 hgb).1, fun i hi => ?_⟩
    obtain ⟨u, hu, hr⟩ := h2 i hi
    obtain ⟨A', c', rfl, hrd⟩ := hr.rd
    refine ⟨A', c', ?_, hrd⟩
    have := h1.cells (g := g) rfl i _ hu
    rw [← this, add_none]
/-- One record more. -/
theorem RowR.snoc {w w' : World} {F F' : Nat → Prop} {v v' u : Value} {L : List Bs} {x : Bs} {vs : List Value} (h : RowR w F v L) (hvs : ∀ i (h : i < L.length), ∃ u, vs[i]? = some u ∧ RecIs w F u L[i]) (hl : vs.length = L.length)
    (hu : RecIs w F u x) (ho : w'.ownsRow 0 31 1 v' (L.length + 1) (vs ++ [u])) (hg : w.grownBy w' v.ownBlock) (hn : NewOr w v v')
    (hF : ∀ g, F g → F' g) (hF2 : ∀ g, w.heap.size ≤ g → g < w'.heap.size → F' g) (hlt : ∀ g, F g → g < w.heap.size) : RowR w' F' v' (L ++ [x]) := by
  have hkeep : ∀ g cs fr, F g → w.heap[g]? = some (.cells cs 5 fr) → w'.heap[g]? = w.heap[g]? := fun g cs fr hFg hb => hg.block g (hlt g hFg) (fun e => by
    obtain ⟨cs', hb'⟩ := h.blk e.symm
    rw [hb] at hb'
    simp at hb')
  refine ⟨⟨vs ++ [u], by simpa using ho, fun i hi => ?_⟩, fun g hgv => ?_⟩
  · rw [List.length_append, List.length_singleton] at hi
    by_cases hi' : i < L.length
    · obtain ⟨u', e, hr⟩ := hvs i hi'
      refine ⟨u', by rw [List.getElem?_append_left (by omega)]; exact e, ?_⟩
      rw [List.getElem_append_left hi']
      exact (hr.keep hkeep).mono hF
    · have : i = L.length := by omega
      subst this
      refine ⟨u, by rw [List.getElem?_append_right (by omega)]; simp [hl], ?_⟩
      simp only [List.getElem_append_right (Nat.le_refl _), Nat.sub_self, List.getElem_singleton]
      exact (hu.keep hkeep).mono hF
  · rcases hn g hgv with e | e
    · exact hF g (h.foot g e)
    · exact hF2 g e (ho.lt g hgv).2
end Go.Proofs.Ytlgimhhhlpmjcaa
