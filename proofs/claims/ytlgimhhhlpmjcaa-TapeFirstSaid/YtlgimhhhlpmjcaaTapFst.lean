/- TapeFirst: its walk. -/
import Derived.Test.YtlgimhhhlpmjcaaTapRec
set_option linter.unusedVariables false
set_option linter.unusedSimpArgs false
namespace Go.Proofs.Ytlgimhhhlpmjcaa
open Go.RowKit Go.Maps Go.WideMaps Go.Shelf

/-- append([]byte{}, x...): a copy, whatever its length. -/
theorem list_own8 {ops : Array Oper} {o : Oper} {a : Act} {w : World} {Q : Exit → Act → World → Prop} {rest : List Oper} (hgd : o.guard = none) (s x : Operand)
    (ho : o.op = .call { callee := .builtin .append, args := #[s, x], argTypes := #[31, 31] })
    (base : Nat) (v : Value) (hs : a.eval s = v) (h0 : Own8 w base v []) (A : Option Addr) (m c : Nat) (xs : Bs) (hx : a.eval x = .slice A m c) (hr : RdU8 w A m xs) (hm : m ≤ 1000000) (hb : base ≤ w.heap.size)
    (h : ∀ v' w', Own8 w' base v' xs → Below base w w' → wpList Try.prog ops Q rest (a.put o.dst v') w') : wpList Try.prog ops Q (o :: rest) a w := by
  refine wpList_plain hgd fun K hK => ?_
  have hl := hr.len
  have ht := Try.underlying31
  obtain ⟨v', w', hrun, h1, h2⟩ : ∃ v' w', (Builtin.append_ #[31, 31] o.type #[v, .slice A m c]).run Try.prog w = .ok v' w' ∧ Own8 w' base v' xs ∧ Below base w w' := by
    obtain ⟨i, hi, hzz⟩ := Option.map_eq_some_iff.1 u8Info
    simp only [Prod.mk.injEq] at hzz
    obtain ⟨hz, hsize, hby⟩ := hzz
    by_cases hm0 : m = 0
    · subst hm0
      have hxs : xs = [] := List.eq_nil_of_length_eq_zero hl
      subst hxs
      have hsrc : Src Try.prog i.size 31 (.slice A 0 c) 0 [] w := by
        cases A with
        | none => exact Src.ofNil w ht c
        | some ad => exact Src.ofSlice w ht ad 0 c [] (by simp) (fun j u h => by simp at h) (fun u h => by cases h)
      rcases h0.2 with ⟨rfl, _⟩ | ⟨g, cap, cur, rfl, e2, e3, e4, e5⟩
      · exact ⟨_, w, run_append_nothing (P := Try.prog) w _ _ o.type 5 i ht hi none 0 0 (Nat.le_refl _) _ hsrc, h0, Below.refl _ _⟩
      · exact ⟨_, w, run_append_nothing (P := Try.prog) w _ _ o.type 5 i ht hi (some ⟨g, 0, none⟩) 0 cap e4 _ hsrc, h0, Below.refl _ _⟩
    · obtain ⟨ad, rfl, hcells⟩ := hr.lt_max (by omega)
      obtain ⟨v', w', hrun, ho, hg, _⟩ := run_append_own (P := Try.prog) w base 31 o.type 5 i (.int .u8 0) 1 1 ht hi hz hsize hby rfl (by omega) v 0 [] h0 ad m c (sc xs) (by rw [sc_len]; omega) hcells (sc_one _) (by unfold maxLen; omega) (by omega) hb
      refine ⟨v', w', hrun, ?_, (Below.refl base w).grown hg hb (fun j hj => (h0.lt j hj).1)⟩
      have := app_sc2 (xs := []) (ys := xs) (n := 0) (m := m) ho rfl hl
      simpa using this
  unfold Oper.wp execOp
  simp only [ho, resolve, invoke, builtin, Sem.run_bind, Sem.run_pure, Result.andThen_ok, List.map_toArray, List.map_cons, List.map_nil, hs, hx, hrun]
  exact hK _ _ (h v' w' h1 h2)

/-- The block of what a call made. -/
theorem Own8.blk {W : World} {base : Nat} {v : Value} {xs : Bs} (h : Own8 W base v xs) (hb : base < W.heap.size) : ∃ g, base ≤ g ∧ g < W.heap.size ∧ (0 < xs.length → ∃ c cur, v = .slice (some ⟨g, 0, none⟩) xs.length c ∧ Blk W g cur 5 ∧ xs.length ≤ cur.size) := by
  rcases h.2 with ⟨_, h0⟩ | ⟨g, cap, cur, e1, e2, e3, e4, e5, e6, _⟩
  · exact ⟨base, Nat.le_refl _, hb, fun h => by omega⟩
  · exact ⟨g, e2, (Array.getElem?_eq_some_iff.1 e3).1, fun _ => ⟨cap, cur, e1, e3, by omega⟩⟩

theorem Own8.noneCap {w : World} {base n c : Nat} {A : Option Addr} {xs : Bs} (h : Own8 w base (.slice A n c) xs) : A = none → c = 0 := by
  rintro rfl
  rcases h.2 with ⟨e, _⟩ | ⟨g, cap, cur, e, _⟩
  · cases e; rfl
  · cases e

theorem kept_cell {w w' : World} {S : Nat → Prop} (h : Kept w w' S) {p : Addr} (hp : p.block < w.heap.size) (hS : ¬ S p.block) : w'.cell? p = w.cell? p := by
  unfold World.cell?
  rw [h.block _ hp hS]

/-- What was handed in, in a row of the call's own. -/
structure InR (w : World) (v : Value) (M : List Bs) (wr : World) : Prop where
  row : ∃ vs, wr.ownsRow w.heap.size 31 1 v M.length vs ∧ ∀ i (h : i < M.length), ∃ A c, vs[i]? = some (.slice A M[i].length c) ∧ RdU8 w A M[i].length M[i]
theorem InR.nil (w wr : World) : InR w (.slice none 0 0) [] wr := ⟨⟨[], World.ownsRow_nil _ _ _ _, fun i h => by simp at h⟩⟩
theorem InR.form {w wr : World} {v : Value} {M : List Bs} (h : InR w v M wr) : ∃ A c, v = .slice A M.length c := by
  obtain ⟨vs, h1, _⟩ := h.row
  exact row_form h1
theorem InR.lt {w wr : World} {v : Value} {M : List Bs} (h : InR w v M wr) {g : Nat} (hg : v.ownBlock = some g) : w.heap.size ≤ g ∧ g < wr.heap.size := by
  obtain ⟨vs, h1, _⟩ := h.row
  exact h1.lt g hg
theorem InR.keep {w wr wr' : World} {v : Value} {M : List Bs} (h : InR w v M wr) (hk : ∀ g, v.ownBlock = some g → wr'.heap[g]? = wr.heap[g]?) : InR w v M wr' := by
  obtain ⟨vs, h1, h2⟩ := h.row
  exact ⟨⟨vs, ownsRow_keep h1 hk, h2⟩⟩
theorem InR.kept {w wr wr' : World} {v : Value} {M : List Bs} {S : Nat → Prop} (h : InR w v M wr) (K : Kept wr wr' S) (hS : ∀ g, v.ownBlock = some g → ¬ S g) : InR w v M wr' := h.keep fun g hg => K.block g (h.lt hg).2 (hS g hg)
theorem InR.snoc {w wr' : World} {v' : Value} {M : List Bs} {x : Bs} {vs : List Value} {A : Option Addr} {c : Nat} (hvs : ∀ i (h : i < M.length), ∃ A c, vs[i]? = some (.slice A M[i].length c) ∧ RdU8 w A M[i].length M[i]) (hl : vs.length = M.length)
    (hx : RdU8 w A x.length x) (ho : wr'.ownsRow w.heap.size 31 1 v' (M.length + 1) (vs ++ [.slice A x.length c])) : InR w v' (M ++ [x]) wr' := by
  refine ⟨⟨_, by simpa using ho, fun i hi => ?_⟩⟩
  rw [List.length_append, List.length_singleton] at hi
  by_cases hi' : i < M.length
  · obtain ⟨A', c', e, hr⟩ := hvs i hi'
    rw [List.getElem_append_left hi']
    exact ⟨A', c', by rw [List.getElem?_append_left (by omega)]; exact e, hr⟩
  · have : i = M.length := by omega
    subst this
    simp only [List.getElem_append_right (Nat.le_refl _), Nat.sub_self, List.getElem_singleton]
    exact ⟨A, c, by rw [List.getElem?_append_right (by omega)]; simp [hl], hx⟩
theorem InR.rd {w wr : World} {A : Option Addr} {n c : Nat} {M : List Bs} (h : InR w (.slice A n c) M wr) (hb : Below w.heap.size w wr) : RdBB wr A n M := by
  obtain ⟨vs, h1, h2⟩ := h.row
  have hn : n = M.length := by
    rcases h1.2 with ⟨e, h0⟩ | ⟨g, cap, cur, e, _⟩
    · cases e; omega
    · cases e; rfl
  refine ⟨hn.symm, fun h0 => ?_⟩
  rcases h1.2 with ⟨e, e0⟩ | ⟨g, cap, cur, e, hg, hgb, _⟩
  · omega
  · cases e
    refine ⟨g, 0, rfl, (Array.getElem?_eq_some_iff.1 hgb).1, fun i hi => ?_⟩
    obtain ⟨A', c', hu, hr⟩ := h2 i hi
    refine ⟨A', c', ?_, hr.below hb⟩
    have := h1.cells (g := g) rfl i _ hu
    rw [← this, add_none]

set_option maxRecDepth 100000 in
set_option maxHeartbeats 8000000 in
theorem first_any (n : Int) (A : Option Addr) (ln c : Nat) (L : List Bs) (w : World) (hL : RdBB w A ln L) (oL : ∀ x ∈ L, okB x) :
    Calls Try.prog 3 #[.int .i64 n, .slice A ln c] w fun e w' => e = .returned (.bool true) ∧ Below w.heap.size w w' := by
  have HL := Lib.hid hL; have OL := Lib.hid oL; clear hL oL
  go_enter Try.func3, Try.ntmps3
  by_cases hn3 : n < 3
  · go_wp2_with fail
    refine (talive_any _).mono ?_
    rintro e w2 ⟨rfl, hb2⟩
    have B2 := Lib.hid hb2; clear hb2
    go_wp2
    go_ret
    exact ⟨rfl, B2.out⟩
  by_cases hn60 : 60 < n
  · go_wp2_with fail
    refine (talive_any _).mono ?_
    rintro e w2 ⟨rfl, hb2⟩
    have B2 := Lib.hid hb2; clear hb2
    go_wp2
    go_ret
    exact ⟨rfl, B2.out⟩
  obtain ⟨N, rfl⟩ : ∃ N : Nat, n = N := ⟨n.toNat, by omega⟩
  have HN := Lib.hid (show 3 ≤ N ∧ N ≤ 60 by omega)
  go_wp2_with fail
  refine (new_ok N w (by have := HN.out; omega) (by have := HN.out; omega)).mono ?_
  rintro e w1 ⟨d, sb, mb, rfl, hD, l1, l2, l3, hB⟩
  have HD := Lib.hid hD; have HLT := Lib.hid (And.intro l1 (And.intro l2 l3)); have HB := Lib.hid hB
  clear hD l1 l2 l3 hB
  go_wp2_with fail
  refine (open_any d sb mb N _ _ w1 HD.out (by have := HN.out; omega) (zs_bytes N)).mono ?_
  rintro e w2 hO
  unfold OpenPost at hO
  rw [open_new N] at hO
  obtain ⟨hB2, t, F, rfl, hT, hF⟩ := hO
  have HT := Lib.hid (show TapeIs w2 F t d sb mb ⟨N, List.replicate N zsec, fun _ => none, 0, [], [], false, 0⟩ from hT); have HB2 := Lib.hid (bthen HB.out hB2)
  have hF2 : ∀ k, F k → w.heap.size ≤ k := fun k hk => by
    have hl := HLT.out
    have hz := HB.out.size
    rcases hF k hk with e | e | e | e <;> omega
  have HF := Lib.hid hF2
  clear hT hF hB2 hF2 hn3 hn60
  go_wp2
  go_loopw [9, 10] (fun v i wr => ∃ (k : Nat) (M : List Bs) (p : TD) (F : Nat → Prop), k ≤ ln ∧ k ≤ 60 ∧ i = .int .i64 k ∧ M.length ≤ k ∧ Hid (InR w v M wr) ∧ Hid (TapeIs wr F t d sb mb p) ∧ Hid (p.dn = 0 ∧ p.fr = false ∧ p.L ++ p.W = M) ∧ Hid (∀ k, F k → w.heap.size ≤ k) ∧ Hid (∀ g, v.ownBlock = some g → ¬ F g) ∧ Hid (∀ x ∈ M, okB x) ∧ Hid (Below w.heap.size w wr)) (fun _ i _ => 61 - (intOf i).toNat)
  case atStart => exact ⟨0, [], _, F, Nat.zero_le _, by omega, rfl, Nat.le_refl _, Lib.hid (InR.nil _ _), HT, Lib.hid ⟨rfl, rfl, rfl⟩, HF, Lib.hid (fun g h => by cases h), Lib.hid (fun x h => by cases h), HB2⟩
  case round =>
    obtain ⟨k, M, p, G, hkl, hk60, rfl, hMk, hI, hT, hP, hF, hS, hOk, hB⟩ := hrel
    obtain ⟨va, vc, rfl⟩ := hI.out.form
    have zr := Lib.hid hB.out.size
    by_cases hlt : k < ln ∧ k < 60
    · obtain ⟨hlt, hlt60⟩ := hlt
      have hkL : k < L.length := by rw [HL.out.len]; exact hlt
      obtain ⟨b, off, rfl, hb, hc⟩ := HL.out.at' (by omega)
      obtain ⟨A', c', hck, hrd⟩ := hc k hkL
      have hok1 := Lib.hid (OL.out _ (List.getElem_mem hkL))
      generalize hx : L[k] = x at *
      clear hx
      obtain ⟨m, hm⟩ : ∃ m, m = x.length := ⟨_, rfl⟩
      rw [← hm] at hck hrd
      have HM := Lib.hid hm; clear hm
      have q1 := (hB.out.cell (p := ⟨b, off + k, none⟩) hb).trans hck
      have q2 := ((balloc (Below.refl wr.heap.size wr) (.cells #[] 5)).cell (p := ⟨b, off + k, none⟩) (Nat.lt_of_lt_of_le hb hB.out.size)).trans q1
      have HRD := Lib.hid hrd; have HRr := Lib.hid (hrd.below hB.out)
      have hlt2 : (k : Int) < ln := by omega
      have hlt60' : (k : Int) < 60 := by omega
      have HBL := Lib.hid hb
      clear hc hb hck hrd HT HB2 HF
      by_cases h400 : (400 : Int) < m
      · go_wp2
        go_roundw
        case rel => exact ⟨k + 1, M, p, G, by omega, by omega, by go_num, by omega, hI, hT, hP, hF, hS, hOk, hB⟩
        case measure => simp [intOf]; omega
      · have H0 : ∀ W : World, Own8 (W.alloc (.cells #[] 5)) W.heap.size (.slice (some ⟨W.heap.size, 0, none⟩) 0 0) [] := fun W => ⟨rfl, .inr ⟨W.heap.size, 0, #[], rfl, Nat.le_refl _, heap_alloc_new _ _, Nat.le_refl _, by unfold maxLen; omega, rfl, rfl⟩⟩
        have hm4 : m ≤ 400 := by omega
        clear h400
        go_wp2_with (at_builtin; refine list_own8 rfl (.tmp 60) (.tmp 64) rfl wr.heap.size _ rfl (H0 wr) A' m c' x rfl (HRr.out.below (balloc (Below.refl _ _) _)) (by omega) (by simp) ?_; intro v4 w4 O4 B4; obtain ⟨va4, vc4, rfl⟩ := O4.form; rw [← HM.out] at O4 ⊢; have HO4 := Lib.hid O4; have HB4 := Lib.hid ((balloc (Below.refl wr.heap.size wr) (.cells #[] 5)).trans B4); have z4 := B4.size; clear O4 B4)
        have z4' : wr.heap.size + 1 ≤ w4.heap.size := by simpa using z4
        have z4'' : wr.heap.size ≤ w4.heap.size := by omega
        obtain ⟨g4, hg1, hg2, hg3⟩ := HO4.out.blk (by omega)
        have HT4 := Lib.hid (hT.out.below (HB4.out)); have HB04 := Lib.hid (bthen hB.out HB4.out)
        have HI4 := Lib.hid (hI.out.keep (wr' := w4) fun g hg => HB4.out.block g (hI.out.lt hg).2)
        have HG4 := Lib.hid (And.intro hg1 (And.intro hg2 hg3))
        have q4 := (HB4.out.cell (p := ⟨b, off + k, none⟩) (Nat.lt_of_lt_of_le HBL.out hB.out.size)).trans q1
        clear hg1 hg2 hg3 z4 z4' z4'' q2
        go_wp2_with fail
        refine (append_any t d sb mb G p va4 m vc4 x w4 HT4.out HO4.out.rd hok1.out (by omega) (Own8.noneCap HO4.out)).mono ?_
        rintro e w5 hAP
        unfold AppPost at hAP
        obtain ⟨rfl, hK5, G5, hT5, hG5⟩ := hAP
        have z5 := hK5.size
        have HG4' := Lib.hid (show ¬ G5 g4 from fun h => by
          obtain ⟨h1, h2, h3⟩ := HG4.out
          rcases hG5 g4 h with e | e
          · have := hT.out.lt g4 e; omega
          · omega)
        have HK5 := Lib.hid hK5; have HT5 := Lib.hid hT5; have HG5 := Lib.hid hG5
        have HF5 := Lib.hid (show ∀ k, G5 k → w.heap.size ≤ k from fun k hk => by
          rcases hG5 k hk with e | e
          · exact hF.out k e
          · have := HB04.out.size; omega)
        have HI5 := Lib.hid (HI4.out.kept hK5 hS.out)
        have HS5 := Lib.hid (show ∀ g, (Value.slice va M.length vc).ownBlock = some g → ¬ G5 g from fun g hg h => by
          rcases hG5 g h with e | e
          · exact hS.out g hg e
          · have := (HI4.out.lt hg).2; omega)
        have HB5 := Lib.hid (HB04.out.trans (hK5.below (B := w.heap.size) HB04.out.size hF.out))
        have q5 := (kept_cell hK5 (p := ⟨b, off + k, none⟩) (Nat.lt_of_lt_of_le HBL.out HB04.out.size) (fun h => by have := hF.out b h; have := HBL.out; omega)).trans q4
        have HO5 := Lib.hid (show 0 < m → ∃ cur, va4 = some ⟨g4, 0, none⟩ ∧ Blk w5 g4 cur 5 ∧ m ≤ cur.size from fun h0 => by
          obtain ⟨h1, h2, h3⟩ := HG4.out
          obtain ⟨c4, cur, e4, hb4, hc4⟩ := h3 (by rw [← HM.out]; exact h0)
          cases e4
          exact ⟨cur, rfl, hb4.keep (hK5.block g4 h2 (fun h => by have := hT.out.lt g4 h; omega)), by rw [HM.out]; exact hc4⟩)
        have HWG := Lib.hid (show w.heap.size ≤ g4 by have := HG4.out.1; have := zr.out; omega)
        have HG4lt := Lib.hid (show g4 < w5.heap.size by have := HG4.out.2.1; omega)
        have HIg4 := Lib.hid (show ∀ g, (Value.slice va M.length vc).ownBlock = some g → g ≠ g4 from fun g hg e => by
          have := (hI.out.lt hg).2; have := HG4.out.1; omega)
        clear hK5 hT5 hG5 z5 q1 q4 HT4 HO4
        by_cases hE : errA p x = 0
        case' pos =>
          have hP5 : (appP p x).dn = 0 ∧ (appP p x).fr = false ∧ (appP p x).L ++ (appP p x).W = M ++ [x] := by
            obtain ⟨e1, e2, e3⟩ := hP.out
            unfold appP
            rw [if_pos hE]
            exact ⟨e1, e2, by show p.L ++ (p.W ++ [x]) = _; rw [← List.append_assoc, e3]⟩
          have HP5 := Lib.hid hP5; clear hP5
          obtain ⟨vs, Ov, Vv⟩ := HI5.out.row
          have hvl : vs.length = M.length := by have := Ov.1; omega
          have HOV := Lib.hid Ov; have HVV := Lib.hid Vv; have HVL := Lib.hid hvl
          clear Ov Vv hvl
          rw [hE]
          go_wp2_with (
            at_builtin
            refine list_app2 rfl (.tmp 70) (.tmp 75) 22 rfl w.heap.size 31 (.slice none 0 0) 24 bbInfo Try.underlying22 rfl _ M.length vs rfl (ownsRow_below HOV.out (balloc (Below.refl _ _) _)) ⟨w5.heap.size, 0, none⟩ 1 1 [.slice A' m c'] rfl rfl ?_ ?_ ?_ ?_ ?_ ?_ ?_
            (intro i u hu; match i, hu with | 0, hu => (simp at hu; subst hu; exact (Blk.newAt w5 #[.slice A' m c'] 31 w5.heap.size rfl).cell 0))
            (intro u hu; simp at hu; subst hu; rfl)
            (omega)
            (unfold maxLen; omega)
            (omega)
            (have := HB5.out.size; simp; omega)
            intro v6 w6 O6 G6 N6
            obtain ⟨va6, vc6, rfl⟩ := row_form O6)
          have K56 := Lib.hid ((Kept.of_below (balloc (Below.refl w5.heap.size w5) (.cells #[.slice A' m c'] 31)) (fun g => (Value.slice va M.length vc).ownBlock = some g)).trans2 (Kept.of_grown G6 (fun k e => e)) (fun _ _ h => h))
          have HI6 := Lib.hid (InR.snoc (x := x) HVV.out HVL.out (by rw [← HM.out]; exact HRD.out) (by rw [← HM.out]; exact O6))
          have HS6 := Lib.hid (show ∀ g, (Value.slice va6 (M.length + 1) vc6).ownBlock = some g → ¬ G5 g from fun g hg h => by
             rcases N6 g hg with e | e
             · exact HS5.out g e h
             · have := HT5.out.lt g h; simp at e; omega)
          have HIg6 := Lib.hid (show ∀ g, (Value.slice va6 (M.length + 1) vc6).ownBlock = some g → g ≠ g4 from fun g hg e => by
             rcases N6 g hg with e' | e'
             · exact HIg4.out g e' e
             · have := HG4lt.out; simp at e'; omega)
          clear O6 G6 N6
          have HT6 := Lib.hid (HT5.out.kept K56.out (fun g hG hS => HS5.out g hS hG))
          have HB6 := Lib.hid (HB5.out.trans (K56.out.below (B := w.heap.size) HB5.out.size (fun g h => (HI5.out.lt h).1)))
          have HO6 := Lib.hid (show 0 < m → ∃ cur, va4 = some ⟨g4, 0, none⟩ ∧ Blk w6 g4 cur 5 ∧ m ≤ cur.size from fun h0 => by
            obtain ⟨cur, e1, e2, e3⟩ := HO5.out h0
            exact ⟨cur, e1, e2.keep (K56.out.block g4 HG4lt.out (fun h => HIg4.out g4 h rfl)), e3⟩)
          have HG6 := Lib.hid (show g4 < w6.heap.size by have := K56.out.size; have := HG4lt.out; omega)
          have HOk6 := Lib.hid (show ∀ y ∈ M ++ [x], okB y from fun y hy => by
            rcases List.mem_append.1 hy with h | h
            · exact hOk.out y h
            · rw [List.mem_singleton.1 h]; exact hok1.out)
          obtain ⟨M6, hM6⟩ : ∃ M6, M6 = M ++ [x] := ⟨_, rfl⟩
          have hMl : M6.length ≤ k + 1 := by rw [hM6]; simp; omega
          rw [← hM6] at HP5 HI6 HOk6
          generalize hv6 : Value.slice va6 (M.length + 1) vc6 = v6 at *
          clear hM6 hv6 HOV HVV HVL HO5 HIg4 HS5 HI5 HB5 HT5 K56 hE HRD HRr q5
          generalize appP p x = p6 at *
        case' neg =>
          have hP5 : (appP p x) = p := by unfold appP; rw [if_neg hE]
          rw [hP5] at HT5
          clear hP5
          have hE' : decide (errA p x = 0) = false := decide_eq_false hE
          go_wp2
          obtain ⟨M6, hM6⟩ : ∃ M6, M6 = M := ⟨_, rfl⟩
          have hMl : M6.length ≤ k + 1 := by rw [hM6]; omega
          generalize hv6 : Value.slice va M.length vc = v6 at *
          have HP5 := hP; have HI6 := HI5; have HOk6 := hOk; have HS6 := HS5; have HIg6 := HIg4
          have HT6 := HT5; have HB6 := HB5; have HO6 := HO5; have HG6 := HG4lt
          rw [← hM6] at HP5 HI6 HOk6
          obtain ⟨p6, rfl⟩ : ∃ p6, p6 = p := ⟨_, rfl⟩
          obtain ⟨w6, rfl⟩ : ∃ w6, w6 = w5 := ⟨_, rfl⟩
        all_goals
          clear hP hT hI hOk hB hF hS HI4 HB04 HG4 zr HB4
          go_wp2
          go_loopw [12] (fun s wr2 => ∃ k2 : Nat, k2 ≤ m ∧ s = .int .i64 k2 ∧ Hid (Kept w6 wr2 (fun g => g = g4)) ∧ Hid (0 < m → ∃ cur, va4 = some ⟨g4, 0, none⟩ ∧ Blk wr2 g4 cur 5 ∧ m ≤ cur.size)) (fun s _ => m - (intOf s).toNat)
          case atStart => exact ⟨0, Nat.zero_le _, rfl, Lib.hid (Kept.refl _ _), HO6⟩
          case round =>
            obtain ⟨k2, hk2, rfl, hK2, hO2⟩ := hrel
            by_cases hlt3 : k2 < m
            · obtain ⟨cur, rfl, hbk, hcs⟩ := hO2.out (by omega)
              have HBK := Lib.hid hbk; have HCS := Lib.hid hcs
              obtain ⟨u, hu⟩ : ∃ u, cur[k2]? = some u := ⟨cur[k2]'(by omega), by rw [Array.getElem?_eq_getElem]⟩
              have s1 := (hbk.cell k2).trans hu
              have s2 := hbk.fr k2
              have hlt3' : (k2 : Int) < m := by omega
              clear hbk hcs hu
              go_wp2
              go_roundw
              case rel =>
                refine ⟨k2 + 1, by omega, by go_num, Lib.hid (hK2.out.set (S := fun g => g = g4) (p := ⟨g4, k2, none⟩) rfl _), Lib.hid (fun _ => ⟨_, by first | rfl | trivial, HBK.out.set k2 _, ?_⟩)⟩
                have := HCS.out
                simpa using this
              case measure => simp [intOf]; omega
            · have hk2m : k2 = m := by omega
              subst hk2m
              have HT7 := Lib.hid (HT6.out.kept hK2.out (fun g hG hS => HG4'.out (hS ▸ hG)))
              have HI7 := Lib.hid (HI6.out.kept hK2.out HIg6.out)
              have HB7 := Lib.hid (HB6.out.trans (hK2.out.below (B := w.heap.size) HB6.out.size (fun g h => h ▸ HWG.out)))
              clear hK2 hO2 HT6 HI6 HB6 HO6 HIg6 HG4' HWG HG6 HG4lt
              cases h5 : ((k : Int) % 5 == 4) with
              | true =>
                go_wp2_with fail
                refine (commit_any t d sb mb G5 p6 _ HT7.out (by have := HP5.out.1; omega)).mono ?_
                rintro e w8 ⟨rfl, hK8, G8, hT8, hG8⟩
                obtain ⟨c1, c2, c3, c4, c5⟩ := commit_L p6 HP5.out.1 HP5.out.2.1
                have HP8 := Lib.hid (show (commitP p6).dn = 0 ∧ (commitP p6).fr = false ∧ (commitP p6).L ++ (commitP p6).W = M6 from ⟨c3, c4, by rw [c1, c2, List.append_nil]; exact HP5.out.2.2⟩)
                have HI8 := Lib.hid (HI7.out.kept hK8 HS6.out)
                have HT8 := Lib.hid hT8
                have HF8 := Lib.hid (show ∀ k, G8 k → w.heap.size ≤ k from fun k hk => by
                  rcases hG8 k hk with e | e
                  · exact HF5.out k e
                  · have := HB7.out.size; omega)
                have HS8 := Lib.hid (show ∀ g, v6.ownBlock = some g → ¬ G8 g from fun g hg h => by
                  rcases hG8 g h with e | e
                  · exact HS6.out g hg e
                  · have := (HI7.out.lt hg).2; omega)
                have HB8 := Lib.hid (HB7.out.trans (hK8.below (B := w.heap.size) HB7.out.size HF5.out))
                clear c1 c2 c3 c4 c5 hK8 hT8 hG8
                go_wp2
                go_roundw
                case rel => exact ⟨k + 1, M6, _, G8, by omega, by omega, by go_num, hMl, HI8, HT8, HP8, HF8, HS8, HOk6, HB8⟩
                case measure => simp [intOf]; omega
              | false =>
                go_wp2
                go_roundw
                case rel => exact ⟨k + 1, M6, _, G5, by omega, by omega, by go_num, hMl, HI7, HT7, HP5, HF5, HS6, HOk6, HB7⟩
                case measure => simp [intOf]; omega
    · have hM60 : M.length ≤ 60 := by omega
      have hex : (decide ((k : Int) < ln) && decide ((k : Int) < 60)) = false := by
        rw [Bool.and_eq_false_iff]; simp; omega
      have hAll : Hid (M.length ≤ 60) := Lib.hid hM60
      clear hMk hM60 HL
      by_cases hlt1 : k < ln
      case' pos =>
        have e60 : k = 60 := by omega
        subst e60
        have hlt2 : ((60 : Nat) : Int) < ln := by omega
        clear hlt hex hlt1
        go_wp2_with fail
      case' neg =>
        have hlt2 : ¬ (k : Int) < ln := by omega
        clear hlt hex hlt1
        go_wp2_with fail
      all_goals
        refine (commit_any t d sb mb G p _ hT.out (by have := hP.out.1; omega)).mono ?_
        rintro e w8 ⟨rfl, hK8, G8, hT8, hG8⟩
        obtain ⟨c1, c2, c3, c4, c5⟩ := commit_L p hP.out.1 hP.out.2.1
        have HPL := Lib.hid (show (commitP p).L = M by rw [c1]; exact hP.out.2.2)
        have HI8 := Lib.hid (hI.out.kept hK8 hS.out)
        have HT8 := Lib.hid hT8
        have HB8 := Lib.hid (hB.out.trans (hK8.below (B := w.heap.size) hB.out.size hF.out))
        clear c1 c2 c3 c4 c5 hK8 hT8 hG8 hI hT hP hF hS hB
        generalize commitP p = p8 at *
        have hlen : p8.L.length = M.length := by rw [HPL.out]
        go_wp2
        go_loopw [13] (fun i wr3 => ∃ k3 : Nat, k3 ≤ p8.L.length ∧ i = .int .i64 k3 ∧ Hid (Below w8.heap.size w8 wr3)) (fun i _ => p8.L.length - (intOf i).toNat)
        case atStart => exact ⟨0, Nat.zero_le _, rfl, Lib.hid (Below.refl _ _)⟩
        case round =>
          obtain ⟨k3, hk3, rfl, hB3⟩ := hrel
          have HT3 := Lib.hid (HT8.out.below hB3.out)
          by_cases hlt3 : k3 < p8.L.length
          · have hlt3' : (k3 : Int) < p8.L.length := by omega
            go_wp2_with (go_at_call 19; refine (tlen_any t d sb mb G8 p8 _ HT3.out).mono ?_; rintro e w8 ⟨rfl, hw8⟩; rw [hw8]; clear hw8 w8)
            refine (tread_in t d sb mb G8 p8 k3 _ HT3.out hlt3).mono ?_
            rintro e w9 ⟨v9, rfl, O9, B9⟩
            have HP1 := Lib.hid (show 0 < p8.L[k3].length ∧ p8.L[k3].length ≤ 300 by
              have := (HT8.out.ok.rl _ (List.getElem_mem hlt3)).1
              simp [rightB] at this; omega)
            have hk3b : k3 < 60 := by have := hAll.out; omega
            generalize p8.L[k3] = x9 at *
            obtain ⟨m9, hm9⟩ : ∃ m9, m9 = x9.length := ⟨_, rfl⟩
            have HM9 := Lib.hid hm9
            rcases O9.2 with ⟨_, e0⟩ | ⟨g9, cap9, cur9, rfl, e2, e3, e4, e5, e6, _⟩
            · exact absurd e0 (by have := HP1.out.1; omega)
            rw [← hm9] at e4 ⊢
            have HBK9 := Lib.hid (show Blk w9 g9 cur9 5 from e3)
            have HC9 := Lib.hid (show m9 ≤ cur9.size by omega)
            have HB9 := Lib.hid (bthen hB3.out B9)
            have HG9 := Lib.hid (show w8.heap.size ≤ g9 by have := hB3.out.size; omega)
            have hm9 : m9 ≤ 300 := by have := HP1.out.2; omega
            clear O9 B9 e2 e3 e4 e5 e6 hB3 HT3 HP1
            go_wp2
            go_loopw [16] (fun s wr4 => ∃ k4 : Nat, k4 ≤ m9 ∧ s = .int .i64 k4 ∧ Hid (Below w8.heap.size w8 wr4) ∧ Hid (∃ cur, Blk wr4 g9 cur 5 ∧ m9 ≤ cur.size)) (fun s _ => m9 - (intOf s).toNat)
            case atStart => exact ⟨0, Nat.zero_le _, rfl, HB9, Lib.hid ⟨_, HBK9.out, HC9.out⟩⟩
            case round =>
              obtain ⟨k4, hk4, rfl, hB4, hO4⟩ := hrel
              by_cases hlt4 : k4 < m9
              · obtain ⟨cur, hbk, hcs⟩ := hO4.out
                have HBK := Lib.hid hbk; have HCS := Lib.hid hcs
                obtain ⟨u, hu⟩ : ∃ u, cur[k4]? = some u := ⟨cur[k4]'(by omega), by rw [Array.getElem?_eq_getElem]⟩
                have s1 := (hbk.cell k4).trans hu
                have s2 := hbk.fr k4
                have hlt4' : (k4 : Int) < m9 := by omega
                clear hbk hcs hu
                go_wp2
                go_roundw
                case rel =>
                  refine ⟨k4 + 1, by omega, by go_num, Lib.hid (hB4.out.setCell (p := ⟨g9, k4, none⟩) HG9.out _), Lib.hid ⟨_, HBK.out.set k4 _, ?_⟩⟩
                  have := HCS.out
                  simpa using this
                case measure => simp [intOf]; omega
              · have hk4m : k4 = m9 := by omega
                subst hk4m
                go_wp2
                go_roundw
                case rel => exact ⟨k3 + 1, by omega, by go_num, hB4⟩
                case measure => simp [intOf]; omega
          · have hlt3' : ¬ (k3 : Int) < p8.L.length := by omega
            go_wp2_with (go_at_call 19; refine (tlen_any t d sb mb G8 p8 _ HT3.out).mono ?_; rintro e w8 ⟨rfl, hw8⟩; rw [hw8]; clear hw8 w8)
            have HI3 := Lib.hid (HI8.out.keep (fun g hg => hB3.out.block g (HI8.out.lt hg).2))
            have HB3 := Lib.hid (HB8.out.trans (hB3.out.mono HB8.out.size))
            clear hB3 HI8 HB8 HT8 hlen
            refine (talive_any _).mono ?_
            rintro e w9 ⟨rfl, hb9⟩
            have HT9 := Lib.hid (HT3.out.below hb9)
            have HI9 := Lib.hid (HI3.out.keep (fun g hg => hb9.block g (HI3.out.lt hg).2))
            have HB9 := Lib.hid (bthen HB3.out hb9)
            clear hb9 HT3 HI3 HB3
            go_wp2_with fail
            refine (records_any t d sb mb G8 p8 _ HT9.out).mono ?_
            rintro e w10 ⟨v10, rfl, R10, B10⟩
            obtain ⟨a10, c10, rfl⟩ := R10.form
            have HR10 := Lib.hid R10.rd
            have HI10 := Lib.hid ((HI9.out.keep (fun g hg => B10.block g (HI9.out.lt hg).2)).rd (bthen HB9.out B10))
            have HB10 := Lib.hid (bthen HB9.out B10)
            have HOK10 := Lib.hid (fun y hy => (HT9.out.ok.rl y hy).2)
            have hll : p8.L.length ≤ 1000000 := by rw [HPL.out]; have := hAll.out; omega
            have HLL := Lib.hid hll
            clear R10 B10 HT9 HI9 HB9 hll hlt3 hlt3' hk3
            go_wp2_with fail
            refine (same_any _ _ _ _ _ _ p8.L M _ HR10.out HI10.out HOK10.out hOk.out HLL.out).mono ?_
            rintro e w11 ⟨rfl, B11⟩
            have HB11 := Lib.hid (bthen HB10.out B11)
            rw [decide_eq_true HPL.out]
            clear B11
            go_wp2
            go_ret
            exact ⟨rfl, HB11.out⟩
end Go.Proofs.Ytlgimhhhlpmjcaa
