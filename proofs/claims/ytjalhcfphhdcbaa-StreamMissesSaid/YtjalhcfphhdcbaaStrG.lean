/- The document's side: Right, what, Back. -/
import Derived.Test.YtjalhcfphhdcbaaStrF
import Derived.Test.YtjalhcfphhdcbaaStrE
set_option linter.unusedVariables false
set_option linter.unusedSimpArgs false
namespace Go.Proofs.Ytjalhcfphhdcbaa
open Go.RowKit

theorem refRight_any (kind : Int) (dA : Option Addr) (nd dc : Nat) (A : Option Addr) (n c : Nat) (bs : List Bk) (w : World) (h : RdB w A n bs) (hn : n ≤ 100) :
    Calls Try.prog 38 #[.agg #[.int .i64 kind, .slice dA nd dc, .slice A n c]] w fun e w' => e = .returned (.bool (rightC kind nd bs)) ∧ Below w.heap.size w w' := by
  have hlen := h.len
  have s1 := Blk.new w #[.int .i64 kind, .slice dA nd dc, .slice A n c] 41
  have b1 : Below w.heap.size w (w.alloc (.cells #[.int .i64 kind, .slice dA nd dc, .slice A n c] 41)) := (Below.refl _ _).alloc (Nat.le_refl _) _
  have hbk := backs_any A n c bs _ (h.below b1) hn
  have HB := Lib.hid hbk; have S1 := Lib.hid s1; have B1 := Lib.hid b1; clear hbk s1 b1 h
  unfold rightC
  rw [hlen]
  go_enter Try.func38, Try.ntmps38
  go_wp2_with fail
  refine HB.out.mono ?_
  rintro e w2 ⟨rfl, hb2⟩
  have B2 := Lib.hid (B1.out.trans (hb2.mono (by simp)))
  have S2 := Lib.hid (S1.out.below hb2)
  have c0 := S2.out.cell 0; have c1 := S2.out.cell 1; have c2 := S2.out.cell 2
  simp at c0 c1 c2
  have hlt := S2.out.lt
  clear hb2
  have hlen' := Lib.hid hlen; clear hlen
  by_cases h1 : kind = 1
  · subst h1
    by_cases hd : (nd : Int) ≤ 100
    · go_wp2
      go_ret
      exact ⟨ret_bool (by have : nd ≤ 100 := by omega
                          simp [this, Bool.and_comm]), B2.out⟩
    · go_wp2
      go_ret
      exact ⟨ret_bool (by have : ¬ nd ≤ 100 := by omega
                          simp [this]), B2.out⟩
  · by_cases h2 : kind = 2
    · subst h2
      by_cases hd : (nd : Int) = 0
      · have hd0 : nd = 0 := by omega
        subst hd0
        go_wp2
        go_ret
        exact ⟨ret_bool (by rw [Bool.eq_iff_iff]; simp), B2.out⟩
      · have hd' : ¬ nd = 0 := by omega
        go_wp2
        go_ret
        exact ⟨ret_bool rfl, B2.out⟩
    · skip
      go_wp2
      go_ret
      exact ⟨ret_bool rfl, B2.out⟩

theorem what_any (st kind : Int) (D B : Value) (w : World) :
    Calls Try.prog 35 #[.agg #[.int .i64 st, .int .i64 kind, D, B]] w fun e w' => e = .returned (.int .i64 (missE st)) ∧ Below w.heap.size w w' := by
  have b1 : Below w.heap.size w (w.alloc (.cells #[.int .i64 st, .int .i64 kind, D, B] 59)) := (Below.refl _ _).alloc (Nat.le_refl _) _
  unfold missE
  by_cases h0 : st = 0
  · subst h0
    go_enter Try.func35, Try.ntmps35
    go_wp2
    go_ret
    exact ⟨rfl, b1⟩
  · by_cases h1 : st = 1
    · subst h1
      go_enter Try.func35, Try.ntmps35
      go_wp2
      go_ret
      exact ⟨rfl, b1⟩
    · rw [if_neg h0, if_neg h1]
      go_enter Try.func35, Try.ntmps35
      go_wp2
      go_ret
      exact ⟨rfl, b1⟩

theorem ofS_find (s : Int) (x : Sl) (h : x.kind = 1 ∧ rightC x.kind x.nd x.bs = true) : ofS s x = findB s x.bs := by unfold ofS; rw [if_pos h]
theorem ofS_none (s : Int) (x : Sl) (h : ¬ (x.kind = 1 ∧ rightC x.kind x.nd x.bs = true)) : ofS s x = ((0, 0), false) := by unfold ofS; rw [if_neg h]
theorem findB_drop (s : Int) (bs : List Bk) (k : Nat) (h : k < bs.length) : findB s (bs.drop k) = if bs[k].s = s then ((bs[k].a, bs[k].b), true) else findB s (bs.drop (k + 1)) := by rw [List.drop_eq_getElem_cons h]; rfl

set_option maxRecDepth 100000 in
theorem back_any (st kind : Int) (dA : Option Addr) (nd dc : Nat) (A : Option Addr) (n c : Nat) (bs : List Bk) (s : Int) (w : World) (h : RdB w A n bs) (hn : n ≤ 100) :
    Calls Try.prog 36 #[.agg #[.int .i64 st, .int .i64 kind, .slice dA nd dc, .slice A n c], .int .i64 s] w fun e w' =>
      ∃ a b : Int, e = .returned (.tuple #[.agg #[.int .u64 a, .int .u64 b], .bool (ofS s ⟨st, kind, nd, bs⟩).2]) ∧ ((ofS s ⟨st, kind, nd, bs⟩).2 = true → (ofS s ⟨st, kind, nd, bs⟩).1 = (a, b)) ∧ Below w.heap.size w w' := by
  have hlen := h.len
  have b2 : Below w.heap.size w ((w.alloc (.cells #[.int .i64 st, .int .i64 kind, .slice dA nd dc, .slice A n c] 59)).alloc (.cells #[.int .u64 0, .int .u64 0] 29)) := ((Below.refl _ _).alloc (Nat.le_refl _) _).alloc (by simp) _
  have s2 : Blk ((w.alloc (.cells #[.int .i64 st, .int .i64 kind, .slice dA nd dc, .slice A n c] 59)).alloc (.cells #[.int .u64 0, .int .u64 0] 29)) w.heap.size #[.int .i64 st, .int .i64 kind, .slice dA nd dc, .slice A n c] 59 := (Blk.new w _ _).alloc _
  have r2 : Blk ((w.alloc (.cells #[.int .i64 st, .int .i64 kind, .slice dA nd dc, .slice A n c] 59)).alloc (.cells #[.int .u64 0, .int .u64 0] 29)) (w.heap.size + 1) #[.int .u64 0, .int .u64 0] 29 := Blk.newAt (w.alloc _) _ _ _ (by simp)
  have hr := refRight_any kind dA nd dc A n c bs _ (h.below b2) hn
  have HH := Lib.hid h; have B2 := Lib.hid b2; have R2 := Lib.hid r2; have S2 := Lib.hid s2; have HR := Lib.hid hr; clear h b2 r2 s2 hr
  go_enter Try.func36, Try.ntmps36
  go_wp2_with fail
  refine HR.out.mono ?_
  rintro e w3 ⟨rfl, hb3⟩
  have B3 := Lib.hid (B2.out.trans (hb3.mono (by simp; omega)))
  have R3 := Lib.hid (R2.out.below hb3)
  have S3 := Lib.hid (S2.out.below hb3)
  clear hb3
  have c1 := S3.out.cell 1; have c3 := S3.out.cell 3
  simp at c1 c3
  have q0 := R3.out.cell 0; have q1 := R3.out.cell 1
  have qf := R3.out.fr 0; have qf1 := R3.out.fr 1
  simp at q0 q1
  have hlt := R3.out.lt
  have hls := S3.out.lt
  have hz3 := B3.out.size
  by_cases hok : kind = 1 ∧ rightC kind nd bs = true
  · have hO := ofS_find s ⟨st, kind, nd, bs⟩ hok
    obtain ⟨rfl, hrc⟩ := hok
    have HO := Lib.hid hO; clear hO
    rw [hrc]
    go_wp2
    go_loopw [7] (fun i wr => ∃ k : Nat, k ≤ n ∧ i = .int .i64 k ∧ wr = w3 ∧ Hid (findB s bs = findB s (bs.drop k))) (fun i _ => n - (intOf i).toNat)
    case atStart => exact ⟨0, Nat.zero_le _, rfl, rfl, Lib.hid rfl⟩
    case round =>
      obtain ⟨k, hk, rfl, rfl, hf⟩ := hrel
      by_cases hkn : k < n
      · obtain ⟨b, off, rfl, hc⟩ := (HH.out.below B3.out).at' (by omega)
        have hk1 : k < bs.length := by omega
        obtain ⟨d0, d1, d2⟩ := hc k hk1
        have hdr := findB_drop s bs k hk1
        have HD := Lib.hid hdr; clear hdr hc
        generalize bs[k] = bk at *
        obtain ⟨s', a, b'⟩ := bk
        dsimp only at d0 d1 d2 HD
        by_cases hs : s' = s
        · subst hs
          have E := Lib.hid (HO.out.trans (hf.out.trans (HD.out.trans (if_pos rfl))))
          go_wp2
          refine bodyPost_ret (results_cell_tmp_row rfl _ _ (w.heap.size + 1) 29 _ (0, 0) _ rfl ((R3.out.set 0 _).set 1 _) Try.underlying29 rfl (by kernel_rfl)) rfl ?_
          exact ⟨a, b', by rw [E.out]; rfl, fun _ => by rw [E.out], below_far (below_far B3.out (by simp) _) (by simp) _⟩
        · have E := Lib.hid (hf.out.trans (HD.out.trans (if_neg hs)))
          have hk100 : (k : Int) < 100 := by omega
          have hkn' : (k : Int) < n := by omega
          go_wp2
          go_roundw
          case rel => exact ⟨k + 1, by omega, by go_num, by first | rfl | trivial, E⟩
          case measure => simp [intOf]; omega
      · have hkk : k = n := by omega
        subst hkk
        have E : ofS s ⟨st, 1, nd, bs⟩ = ((NN, NN), false) := by rw [HO.out, hf.out, List.drop_of_length_le (by omega)]; rfl
        have E' := Lib.hid E; clear E
        go_wp2
        refine bodyPost_ret (results_cell_tmp_row rfl _ _ (w.heap.size + 1) 29 _ (0, 0) _ rfl ((R3.out.set 0 _).set 1 _) Try.underlying29 rfl (by kernel_rfl)) rfl ?_
        exact ⟨0, 0, by rw [E'.out]; rfl, fun h => by rw [E'.out] at h; simp at h, below_far (below_far B3.out (by simp) _) (by simp) _⟩
  · have hO := ofS_none s ⟨st, kind, nd, bs⟩ hok
    have HO := Lib.hid hO; clear hO
    cases hrc : rightC kind nd bs with
    | true =>
      have hk1 : (kind == 1) = false := by
        simp only [beq_eq_false_iff_ne, ne_eq]
        intro h
        exact hok ⟨h, hrc⟩
      go_wp2
      go_loopw [7] (fun i wr => ∃ k : Nat, k ≤ n ∧ i = .int .i64 k ∧ wr = w3) (fun i _ => n - (intOf i).toNat)
      case atStart => exact ⟨0, Nat.zero_le _, rfl, rfl⟩
      case round =>
        obtain ⟨k, hk, rfl, rfl⟩ := hrel
        by_cases hkn : k < n
        · have hk100 : (k : Int) < 100 := by omega
          have hkn' : (k : Int) < n := by omega
          go_wp2
          go_roundw
          case rel => exact ⟨k + 1, by omega, by go_num, by first | rfl | trivial⟩
          case measure => simp [intOf]; omega
        · have hkk : k = n := by omega
          subst hkk
          go_wp2
          refine bodyPost_ret (results_cell_tmp_row rfl _ _ (w.heap.size + 1) 29 _ (0, 0) _ rfl ((R3.out.set 0 _).set 1 _) Try.underlying29 rfl (by kernel_rfl)) rfl ?_
          exact ⟨0, 0, by rw [HO.out]; rfl, fun h => by rw [HO.out] at h; simp at h, below_far (below_far B3.out (by simp) _) (by simp) _⟩
    | false =>
      go_wp2
      go_loopw [7] (fun i wr => ∃ k : Nat, k ≤ n ∧ i = .int .i64 k ∧ wr = w3) (fun i _ => n - (intOf i).toNat)
      case atStart => exact ⟨0, Nat.zero_le _, rfl, rfl⟩
      case round =>
        obtain ⟨k, hk, rfl, rfl⟩ := hrel
        by_cases hkn : k < n
        · have hk100 : (k : Int) < 100 := by omega
          have hkn' : (k : Int) < n := by omega
          go_wp2
          go_roundw
          case rel => exact ⟨k + 1, by omega, by go_num, by first | rfl | trivial⟩
          case measure => simp [intOf]; omega
        · have hkk : k = n := by omega
          subst hkk
          go_wp2
          refine bodyPost_ret (results_cell_tmp_row rfl _ _ (w.heap.size + 1) 29 _ (0, 0) _ rfl ((R3.out.set 0 _).set 1 _) Try.underlying29 rfl (by kernel_rfl)) rfl ?_
          exact ⟨0, 0, by rw [HO.out]; rfl, fun h => by rw [HO.out] at h; simp at h, below_far (below_far B3.out (by simp) _) (by simp) _⟩
end Go.Proofs.Ytjalhcfphhdcbaa
