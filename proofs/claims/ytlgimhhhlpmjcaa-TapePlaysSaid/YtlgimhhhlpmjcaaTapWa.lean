/- TapeWhole: lists that a tape's own memory does not hold. -/
import Derived.Test.YtlgimhhhlpmjcaaTapOpn
import Derived.Test.YtlgimhhhlpmjcaaTapPw
set_option linter.unusedVariables false
set_option linter.unusedSimpArgs false
namespace Go.Proofs.Ytlgimhhhlpmjcaa
open Go.RowKit Go.Maps Go.WideMaps Go.Shelf

/-- A list whose blocks are all of one kind. -/
structure RdBX (w : World) (X : Nat → Prop) (A : Option Addr) (n : Nat) (L : List Bs) : Prop where
  len : L.length = n
  at' : 0 < n → ∃ b off, A = some ⟨b, off, none⟩ ∧ X b ∧ b < w.heap.size ∧ ∀ i (h : i < L.length), ∃ A' c, w.cell? ⟨b, off + i, none⟩ = some (.slice A' L[i].length c) ∧ RdU8 w A' L[i].length L[i] ∧ ∀ p : Addr, A' = some p → 0 < L[i].length → X p.block
theorem RdBX.rd {w : World} {X : Nat → Prop} {A : Option Addr} {n : Nat} {L : List Bs} (h : RdBX w X A n L) : RdBB w A n L :=
  ⟨h.len, fun hn => by
    obtain ⟨b, off, e, _, hlt, hc⟩ := h.at' hn
    exact ⟨b, off, e, hlt, fun i hi => by obtain ⟨A', c, h1, h2, _⟩ := hc i hi; exact ⟨A', c, h1, h2⟩⟩⟩
theorem RdBX.keep {w w' : World} {X X' : Nat → Prop} {A : Option Addr} {n : Nat} {L : List Bs} (h : RdBX w X A n L) (hb : ∀ g, X g → g < w.heap.size → w'.heap[g]? = w.heap[g]?) (hz : w.heap.size ≤ w'.heap.size) (hX : ∀ g, X g → g < w.heap.size → X' g) : RdBX w' X' A n L :=
  ⟨h.len, fun hn => by
    obtain ⟨b, off, e, hx, hlt, hc⟩ := h.at' hn
    refine ⟨b, off, e, hX b hx hlt, by omega, fun i hi => ?_⟩
    obtain ⟨A', c, h1, h2, h3⟩ := hc i hi
    have hcell : w'.cell? ⟨b, off + i, none⟩ = w.cell? ⟨b, off + i, none⟩ := by unfold World.cell?; rw [hb b hx hlt]
    by_cases h0 : 0 < L[i].length
    · obtain ⟨b', o', e', hlt', _⟩ := h2.at' h0
      refine ⟨A', c, hcell.trans h1, h2.keep (fun b2 o2 e2 hl2 => ?_) hz, fun p hp h0 => ?_⟩
      · exact hb b2 (h3 _ e2 h0) hl2
      · rw [e'] at hp
        cases hp
        exact hX _ (h3 _ e' h0) hlt'
    · refine ⟨A', c, hcell.trans h1, ⟨h2.len, fun h => absurd h h0⟩, fun p hp h => absurd h h0⟩⟩
theorem RdBX.of {w : World} {A : Option Addr} {n : Nat} {L : List Bs} {X : Nat → Prop} (h : RdBB w A n L) (hX : ∀ g, g < w.heap.size → X g) : RdBX w X A n L :=
  ⟨h.len, fun hn => by
    obtain ⟨b, off, e, hlt, hc⟩ := h.at' hn
    refine ⟨b, off, e, hX b hlt, hlt, fun i hi => ?_⟩
    obtain ⟨A', c, h1, h2⟩ := hc i hi
    refine ⟨A', c, h1, h2, fun p hp h0 => ?_⟩
    obtain ⟨b', o', e', hlt', _⟩ := h2.at' h0
    rw [e'] at hp
    cases hp
    exact hX _ hlt'⟩
theorem RdBX.row {w : World} {F X : Nat → Prop} {A : Option Addr} {n c : Nat} {L : List Bs} (h : RowR w F (.slice A n c) L) (hX : ∀ g, F g → X g) : RdBX w X A n L := by
  have hr := h.rd
  refine ⟨hr.len, fun hn => ?_⟩
  obtain ⟨b, off, e, hlt, hc⟩ := hr.at' hn
  obtain ⟨⟨vs, h1, h2⟩, h3⟩ := h
  rcases h1.2 with ⟨e0, h0⟩ | ⟨g, cap, cur, e1, _⟩
  · have := hr.len; omega
  · have hb : A = some ⟨g, 0, none⟩ := by injection e1
    have : b = g ∧ off = 0 := by rw [hb] at e; cases e; exact ⟨rfl, rfl⟩
    obtain ⟨rfl, rfl⟩ := this
    refine ⟨b, 0, e, hX _ (h3 b (by rw [e1]; rfl)), hlt, fun i hi => ?_⟩
    obtain ⟨A', c', hck, hrd⟩ := hc i hi
    obtain ⟨u, hu, hrec⟩ := h2 i hi
    have hcell := h1.cells (g := b) (by rw [e1]; rfl) i u hu
    rw [add_none] at hcell
    rw [hck] at hcell
    cases hcell
    refine ⟨A', c', hck, hrd, fun p hp h0 => ?_⟩
    obtain ⟨g', c2, cs, fr, e2, hF, _⟩ := hrec
    injection e2 with e2
    rw [e2] at hp
    cases hp
    exact hX _ hF
theorem RdBX.below {w w' : World} {X : Nat → Prop} {A : Option Addr} {n : Nat} {L : List Bs} (h : RdBX w X A n L) (hb : Below w.heap.size w w') : RdBX w' X A n L := h.keep (fun g _ hg => hb.block g hg) hb.size (fun g hx _ => hx)

/-- A tape between commits, and two lists: the former records, and those that are wanted. -/
structure Wn (w : World) (t d sb mb N : Nat) (oA : Option Addr) (on : Nat) (wA : Option Addr) (wn : Nat) (L0 Wt : List Bs) (p : TD) (G : Nat → Prop) (wr : World) : Prop where
  op : OpSt w t d sb mb N p G wr
  old : p.L = L0
  ro : RdBX wr (fun g => ¬ G g) oA on L0
  rw : RdBX wr (fun g => ¬ G g) wA wn Wt
theorem Wn.below {w : World} {t d sb mb N : Nat} {oA : Option Addr} {on : Nat} {wA : Option Addr} {wn : Nat} {L0 Wt : List Bs} {p : TD} {G : Nat → Prop} {wr w' : World} (h : Wn w t d sb mb N oA on wA wn L0 Wt p G wr) (hb : Below wr.heap.size wr w') : Wn w t d sb mb N oA on wA wn L0 Wt p G w' :=
  ⟨h.op.below hb, h.old, h.ro.below hb, h.rw.below hb⟩
theorem Wn.post {w : World} {t d sb mb N : Nat} {oA : Option Addr} {on : Nat} {wA : Option Addr} {wn : Nat} {L0 Wt : List Bs} {p q : TD} {G : Nat → Prop} {wr w' : World} (h : Wn w t d sb mb N oA on wA wn L0 Wt p G wr)
    (P : TPost wr G t d sb mb q w') (hs : TSt q) (hd : q.dn = 0) (hn : q.n = N) (hL : q.L = L0) : ∃ G', Wn w t d sb mb N oA on wA wn L0 Wt q G' w' := by
  obtain ⟨K, G', hT, hG⟩ := P
  have hX : ∀ g, ¬ G g → g < wr.heap.size → ¬ G' g := fun g h1 h2 h3 => by
    rcases hG g h3 with e | e
    · exact h1 e
    · omega
  exact ⟨G', ⟨hT, hs, hd, hn, fun k hk => by
    rcases hG k hk with e | e
    · exact h.op.own k e
    · have := h.op.low.size; omega, h.op.low.trans (K.below (B := w.heap.size) h.op.low.size h.op.own)⟩, hL,
    h.ro.keep (fun g h1 h2 => K.block g h2 h1) K.size hX, h.rw.keep (fun g h1 h2 => K.block g h2 h1) K.size hX⟩
theorem appP_L (p : TD) (x : Bs) : (appP p x).L = p.L ∧ (appP p x).fr = p.fr := by unfold appP; split <;> exact ⟨rfl, rfl⟩
theorem repP_L (p : TD) (x : List Bs) : (repP p x).L = p.L := by unfold repP; split <;> rfl
/-- Between appends: what is to be there. -/
def WnS (w : World) (t d sb mb N : Nat) (oA : Option Addr) (on : Nat) (wA : Option Addr) (wn : Nat) (L0 Wt Nt : List Bs) (wr : World) : Prop := ∃ p G, Wn w t d sb mb N oA on wA wn L0 Wt p G wr ∧ newL p = Nt ∧ p.fr = false
theorem wn_append {w : World} {t d sb mb N : Nat} {oA : Option Addr} {on : Nat} {wA : Option Addr} {wn : Nat} {L0 Wt Nt : List Bs} {wr : World} (h : WnS w t d sb mb N oA on wA wn L0 Wt Nt wr) (A : Option Addr) (n c : Nat) (x : Bs) (hx : RdU8 w A n x) (ho : okB x) :
    Calls Try.prog 17 #[.pointer (some ⟨t, 0, none⟩), .slice A n c] wr fun e w' =>
      (e = .returned (.int .i64 0) ∧ WnS w t d sb mb N oA on wA wn L0 Wt (Nt ++ [x]) w') ∨ (∃ v : Int, v ≠ 0 ∧ e = .returned (.int .i64 v) ∧ WnS w t d sb mb N oA on wA wn L0 Wt Nt w') := by
  obtain ⟨p, G, h, hN, hf⟩ := h
  refine (append_any2 t d sb mb G p A n c x wr h.op.tape (hx.below h.op.low) ho).mono ?_
  rintro e w' ⟨rfl, hP⟩
  obtain ⟨G', h'⟩ := h.post hP (h.op.st.app h.op.dn x) ((appP_n p x).2.trans h.op.dn) ((appP_n p x).1.trans h.op.n) ((appP_L p x).1.trans h.old)
  by_cases he : errA p x = 0
  · left
    refine ⟨by rw [he], _, G', h', ?_, (appP_L p x).2.trans hf⟩
    have e : appP p x = { p with W := p.W ++ [x] } := by unfold appP; rw [if_pos he]
    rw [e, ← hN]
    show (if p.fr then [] else p.L) ++ (p.W ++ [x]) = ((if p.fr then [] else p.L) ++ p.W) ++ [x]
    rw [List.append_assoc]
  · right
    refine ⟨_, he, rfl, _, G', h', ?_, (appP_L p x).2.trans hf⟩
    have e : appP p x = p := by unfold appP; rw [if_neg he]
    rw [e, hN]
theorem wn_replace {w : World} {t d sb mb N : Nat} {oA : Option Addr} {on : Nat} {wA : Option Addr} {wn : Nat} {L0 Wt Nt : List Bs} {wr : World} (h : WnS w t d sb mb N oA on wA wn L0 Wt Nt wr) (A : Option Addr) (n c : Nat) (M : List Bs) (hM : RdBB w A n M) (ho : ∀ x ∈ M, okB x) (hs : sizeB M ≤ 1000000) :
    Calls Try.prog 25 #[.pointer (some ⟨t, 0, none⟩), .slice A n c] wr fun e w' =>
      (e = .returned (.int .i64 0) ∧ ∃ p G, Wn w t d sb mb N oA on A n L0 M p G w' ∧ newL p = M) ∨ (∃ v : Int, v ≠ 0 ∧ e = .returned (.int .i64 v) ∧ WnS w t d sb mb N oA on wA wn L0 Wt Nt w') := by
  obtain ⟨p, G, h, hN, hf⟩ := h
  refine (replace_any t d sb mb G p A n c M w wr h.op.tape hM ho hs h.op.low h.op.own).mono ?_
  rintro e w' ⟨rfl, hP⟩
  obtain ⟨G', h'⟩ := h.post hP (h.op.st.rep h.op.dn M) ((repP_n p M).2.trans h.op.dn) ((repP_n p M).1.trans h.op.n) ((repP_L p M).trans h.old)
  by_cases he : errR p M = 0
  · left
    refine ⟨by rw [he], _, G', ⟨h'.op, h'.old, h'.ro, ?_⟩, ?_⟩
    · refine (RdBX.of (X := fun g => ¬ G' g) hM (fun g hg h => ?_)).below h'.op.low
      have := h'.op.own g h; omega
    · have e : repP p M = { p with W := M, fr := true } := by unfold repP; rw [if_pos he]
      rw [e]
      show [] ++ M = M
      rfl
  · right
    refine ⟨_, he, rfl, _, G', h', ?_, ?_⟩
    · have e : repP p M = p := by unfold repP; rw [if_neg he]
      rw [e, hN]
    · have e : repP p M = p := by unfold repP; rw [if_neg he]
      rw [e, hf]

/-- Behind k steps. -/
def WnR (w : World) (t d sb mb N : Nat) (oA : Option Addr) (on : Nat) (wA : Option Addr) (wn : Nat) (L0 Wt : List Bs) (p : TD) (k : Nat) (wr : World) : Prop :=
  ∃ q G, TapeIs wr G t d sb mb q ∧ Ran p q k ∧ (∀ k, G k → w.heap.size ≤ k) ∧ Below w.heap.size w wr ∧ RdBX wr (fun g => ¬ G g) oA on L0 ∧ RdBX wr (fun g => ¬ G g) wA wn Wt
theorem wn_step {w : World} {t d sb mb N : Nat} {oA : Option Addr} {on : Nat} {wA : Option Addr} {wn : Nat} {L0 Wt : List Bs} {p : TD} {k : Nat} {wr : World} (h : WnR w t d sb mb N oA on wA wn L0 Wt p k wr) :
    Calls Try.prog 27 #[.pointer (some ⟨t, 0, none⟩)] wr fun e w' => ∃ v, e = .returned v ∧ WnR w t d sb mb N oA on wA wn L0 Wt p (k + 1) w' := by
  obtain ⟨q, G, hT, hR, hown, hlow, ho, hw⟩ := h
  refine (step_any t d sb mb G q wr hT hR.st.dn3).mono ?_
  rintro e w' ⟨rfl, K, G', hT', hG⟩
  have hX : ∀ g, ¬ G g → g < wr.heap.size → ¬ G' g := fun g h1 h2 h3 => by
    rcases hG g h3 with e | e
    · exact h1 e
    · omega
  exact ⟨_, rfl, _, G', hT', hR.step, fun k hk => by
    rcases hG k hk with e | e
    · exact hown k e
    · have := hlow.size; omega, hlow.trans (K.below (B := w.heap.size) hlow.size hown), ho.keep (fun g h1 h2 => K.block g h2 h1) K.size hX, hw.keep (fun g h1 h2 => K.block g h2 h1) K.size hX⟩

set_option maxRecDepth 100000 in
theorem steps_any (s : Int) (kA : Option Addr) (kn kc : Nat) (f : Bool) (w : World) (hs : (Lit.int .i64 s).wf = true) :
    Calls Try.prog 43 #[.agg #[.int .i64 s, .slice kA kn kc, .bool f]] w fun e w' => ∃ k : Nat, k ≤ 5 ∧ e = .returned (.int .i64 k) ∧ Below w.heap.size w w' := by
  have K := Lib.hid (Blk.new w #[.int .i64 s, .slice kA kn kc, .bool f] 77)
  have B0 := Lib.hid (balloc (Below.refl w.heap.size w) (.cells #[.int .i64 s, .slice kA kn kc, .bool f] 77))
  have hb : -9223372036854775808 ≤ s ∧ s < 9223372036854775808 := by
    have e1 : IntKind.i64.min = -9223372036854775808 := by decide
    have e2 : IntKind.i64.max = 9223372036854775807 := by decide
    have := hs
    simp only [Lit.wf, e1, e2] at this
    simp at this; omega
  obtain ⟨hb1, hb2⟩ := hb
  go_enter Try.func43, Try.ntmps43
  have c0 := K.out.cell 0
  simp only [List.getElem?_toArray, List.getElem?_cons_zero, List.getElem?_cons_succ] at c0
  clear K hs
  by_cases h0 : s < 0
  · have hv : -((s + 1).tmod 6) = (-(s + 1)) % 6 := by rw [← Int.neg_tmod, Int.tmod_eq_emod_of_nonneg (by omega)]
    have HV := Lib.hid hv; clear hv
    go_wp2
    go_ret
    refine ⟨((-(s + 1)) % 6).toNat, by omega, ret_int ?_, B0.out⟩
    rw [HV.out]; omega
  · have h0' : 0 ≤ s := by omega
    go_wp2
    go_ret
    exact ⟨(s % 6).toNat, by omega, ret_int (by omega), B0.out⟩

/-- The values of a list, in cells. -/
theorem RdBX.vals {w : World} {X : Nat → Prop} {A : Option Addr} {n : Nat} {L : List Bs} (h : RdBX w X A n L) : ∃ vs : List Value, vs.length = n ∧ (∀ u ∈ vs, u.oneCell' = true) ∧ (0 < n → ∃ b off, A = some ⟨b, off, none⟩ ∧ b < w.heap.size ∧ ∀ j u, vs[j]? = some u → w.cell? ⟨b, off + j, none⟩ = some u) ∧
    ∀ i (hi : i < L.length), ∃ A' c, vs[i]? = some (.slice A' L[i].length c) ∧ RdU8 w A' L[i].length L[i] ∧ ∀ p : Addr, A' = some p → 0 < L[i].length → X p.block := by
  by_cases h0 : 0 < n
  · obtain ⟨b, off, e, hx, hlt, hc⟩ := h.at' h0
    obtain ⟨us, hul, hus⟩ := chosenG (n := L.length) (Q := fun i (u : Value) => ∃ hi : i < L.length, ∃ A' c, u = .slice A' L[i].length c ∧ w.cell? ⟨b, off + i, none⟩ = some u ∧ RdU8 w A' L[i].length L[i] ∧ ∀ p : Addr, A' = some p → 0 < L[i].length → X p.block) fun i hi => by
      obtain ⟨A', c, h1, h2, h3⟩ := hc i hi
      exact ⟨_, hi, A', c, rfl, h1, h2, h3⟩
    refine ⟨us, by rw [hul, h.len], fun u hu => ?_, fun _ => ⟨b, off, e, hlt, fun j u hj => ?_⟩, fun i hi => ?_⟩
    · obtain ⟨i, hi, rfl⟩ := List.getElem_of_mem hu
      obtain ⟨_, A', c, e1, _⟩ := hus i hi
      rw [e1]; rfl
    · obtain ⟨hj', e1⟩ := List.getElem?_eq_some_iff.1 hj
      obtain ⟨_, A', c, _, e2, _⟩ := hus j hj'
      rw [e2, e1]
    · obtain ⟨_, A', c, e1, e2, e3, e4⟩ := hus i (by omega)
      exact ⟨A', c, by rw [List.getElem?_eq_getElem (by omega), e1], e3, e4⟩
  · have hn : n = 0 := by omega
    refine ⟨[], by rw [hn]; rfl, fun u hu => (by cases hu), fun h => absurd h h0, fun i hi => ?_⟩
    have := h.len
    omega
theorem own_empty {W : World} {base g : Nat} (h : W.heap[g]? = some (.cells #[] 31 (0, 0))) (hb : base ≤ g) : W.ownsRow base 31 1 (.slice (some ⟨g, 0, none⟩) 0 0) 0 [] :=
  ⟨rfl, .inr ⟨g, 0, #[], rfl, hb, h, Nat.le_refl _, by unfold maxLen; omega, rfl, rfl⟩⟩
/-- append([][]byte{}, l...) in a region that draws. -/
theorem step_app_vs {ops : Array Oper} {o : Oper} {a : Act} {w : World} {K : Act → World → Prop} {Q : Exit → Act → World → Prop} {E : Prop} (hgd : o.guard = none) (s x : Operand)
    (ho : o.op = .call { callee := .builtin .append, args := #[s, x], argTypes := #[22, 22] })
    (base : Nat) (v : Value) (hs : a.eval s = v) (hown : w.ownsRow base 31 1 v 0 []) (A : Option Addr) (n c : Nat) (vs : List Value) (hx : a.eval x = .slice A n c) (hl : vs.length = n)
    (hc : 0 < n → ∃ ad, A = some ad ∧ ∀ j u, vs[j]? = some u → w.cell? (ad.add j) = some u) (h1 : ∀ u ∈ vs, u.oneCell' = true) (hn : n ≤ 1000000) (hb : base ≤ w.heap.size)
    (h : ∀ v' w', w'.ownsRow base 31 1 v' n vs → w.grownBy w' v.ownBlock → K (a.put o.dst v') w') : if Region.wanted o (yielded ops a.tmps) = true then Oper.wp Try.prog o a w K Q else E := by
  rw [if_pos (by simp [Region.wanted, hgd])]
  have ht := Try.underlying22
  obtain ⟨v', w', hrun, h2, h3⟩ : ∃ v' w', (Builtin.append_ #[22, 22] o.type #[v, .slice A n c]).run Try.prog w = .ok v' w' ∧ w'.ownsRow base 31 1 v' n vs ∧ w.grownBy w' v.ownBlock := by
    by_cases hn0 : 0 < n
    · obtain ⟨ad, rfl, hcell⟩ := hc hn0
      obtain ⟨v', w', hr, h2, h3, h4⟩ := run_app2 (P := Try.prog) 22 o.type ht (.slice none 0 0) 24 bbInfo rfl hown ad n c vs hl hcell h1 hn0 (by unfold maxLen; omega) (by omega) hb
      exact ⟨v', w', hr, by simpa using h2, h3⟩
    · have : n = 0 := by omega
      subst this
      have hvs : vs = [] := List.eq_nil_of_length_eq_zero hl
      subst hvs
      obtain ⟨i, hi, hzz⟩ := Option.map_eq_some_iff.1 bbInfo
      have hsrc : Src Try.prog i.size 22 (.slice A 0 c) 0 [] w := by
        cases A with
        | none => exact Src.ofNil w ht c
        | some ad => exact Src.ofSlice w ht ad 0 c [] (by simp) (fun j u h => by simp at h) (fun u h => by cases h)
      rcases hown.2 with ⟨rfl, _⟩ | ⟨g, cap, cur, rfl, e2, e3, e4, e5⟩
      · exact ⟨_, w, run_append_nothing (P := Try.prog) w _ _ o.type 31 i ht hi none 0 0 (Nat.le_refl _) _ hsrc, hown, World.grownBy.refl w _⟩
      · exact ⟨_, w, run_append_nothing (P := Try.prog) w _ _ o.type 31 i ht hi (some ⟨g, 0, none⟩) 0 cap e4 _ hsrc, hown, World.grownBy.refl w _⟩
  unfold Oper.wp execOp
  simp only [ho, resolve, invoke, builtin, Sem.run_bind, Sem.run_pure, Result.andThen_ok, List.map_toArray, List.map_cons, List.map_nil, hs, hx, hrun]
  exact h v' w' h2 h3
/-- A list and one more, in a row of the call's own. -/
theorem RdBX.snoc {w w' : World} {X : Nat → Prop} {L : List Bs} {x : Bs} {vs : List Value} {A' : Option Addr} {c' a n cc : Nat} {aa : Option Addr} (hl : vs.length = L.length) (hb : Below w.heap.size w w')
    (hvs : ∀ i (hi : i < L.length), ∃ A' c, vs[i]? = some (.slice A' L[i].length c) ∧ RdU8 w A' L[i].length L[i] ∧ ∀ p : Addr, A' = some p → 0 < L[i].length → X p.block)
    (hx : RdU8 w A' x.length x) (hxX : ∀ p : Addr, A' = some p → 0 < x.length → X p.block) (ho : w'.ownsRow a 31 1 (.slice aa (L.length + 1) cc) (L.length + 1) (vs ++ [.slice A' x.length c'])) (hX : ∀ g, a ≤ g → X g) : RdBX w' X aa (L.length + 1) (L ++ [x]) := by
  refine ⟨by simp, fun _ => ?_⟩
  rcases ho.2 with ⟨e, h0⟩ | ⟨g, cap, cur, e, hg, hgb, _⟩
  · omega
  · have ea : aa = some ⟨g, 0, none⟩ := by injection e
    refine ⟨g, 0, ea, hX g hg, (Array.getElem?_eq_some_iff.1 hgb).1, fun i hi => ?_⟩
    have hcell := ho.cells (g := g) (by rw [e]; rfl) i
    rw [List.length_append, List.length_singleton] at hi
    by_cases hi' : i < L.length
    · obtain ⟨A2, c2, e2, hr, hp⟩ := hvs i hi'
      rw [List.getElem_append_left hi']
      refine ⟨A2, c2, ?_, hr.below hb, hp⟩
      rw [← hcell _ (by rw [List.getElem?_append_left (by omega)]; exact e2), add_none]
    · have : i = L.length := by omega
      subst this
      simp only [List.getElem_append_right (Nat.le_refl _), Nat.sub_self, List.getElem_singleton]
      refine ⟨A', c', ?_, hx.below hb, hxX⟩
      rw [← hcell _ (by rw [List.getElem?_append_right (by omega), hl]; simp), add_none]
end Go.Proofs.Ytlgimhhhlpmjcaa
