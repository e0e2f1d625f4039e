/- The document's side: Linear, a step, a walk; the law's same. -/
import Derived.Test.YtjalhcfphhdcbaaStrH
set_option linter.unusedVariables false
set_option linter.unusedSimpArgs false
namespace Go.Proofs.Ytjalhcfphhdcbaa
open Go.RowKit

set_option maxRecDepth 100000 in
theorem refLinear_any (A : Option Addr) (n c : Nat) (vs : List Sl) (s f : Int) (w : World) (h : RdV w A n vs) (hs : SmallV vs) (hf : 0 ≤ f) :
    Calls Try.prog 18 #[.slice A n c, .int .i64 s, .int .u64 f] w fun e w' =>
      ∃ v, e = .returned (.tuple #[v, .int .i64 (linP s vs f.toNat).2]) ∧ RowU w' w.heap.size v (linP s vs f.toNat).1 ∧ Below w.heap.size w w' := by
  have hlen := h.len
  have hn100 : n ≤ 100 := by have := hs.1; omega
  have hwn : IntKind.u64.wrap (n : Int) = n := by rw [IntKind.wrap_u64]; omega
  have HH := Lib.hid h; have HS := Lib.hid hs; clear h hs
  by_cases hfn : f < n
  · obtain ⟨k0, rfl⟩ : ∃ k0 : Nat, f = k0 := ⟨f.toNat, by omega⟩
    have hk0 : k0 < n := by omega
    have e0 : linP s vs (k0 : Int).toNat = cont [] (linP s vs k0) := (cont_nil _ (linR_fine s k0 _)).symm
    have E0 := Lib.hid e0; clear e0
    go_enter Try.func18, Try.ntmps18
    go_wp2
    go_loopw [8, 9] (fun o i wr => ∃ (k : Nat) (acc : List Nat), k ≤ n ∧ i = .int .u64 k ∧ acc.length ≤ k ∧ Below w.heap.size w wr ∧ Hid (RowU wr w.heap.size o acc) ∧ Hid (linP s vs (k0 : Int).toNat = cont acc (linP s vs k))) (fun _ i _ => n - (intOf i).toNat)
    case atStart => exact ⟨k0, [], by omega, rfl, by simp, Below.refl _ _, Lib.hid (RowU.nil _ _), E0⟩
    case round =>
      obtain ⟨k, acc, hk, rfl, hal, hb, hr, he⟩ := hrel
      by_cases hlt : k < n
      · have hk1 : k < vs.length := by omega
        obtain ⟨b, off, rfl, hc⟩ := (HH.out.below hb).at' (by omega)
        have hst := linP_step s vs k hk1
        have hsm := HS.out.2 vs[k] (List.getElem_mem hk1)
        have hsl := hc k hk1
        have HX := Lib.hid hst; clear hst hc
        generalize vs[k] = x at *
        obtain ⟨st, kind, nd, bs⟩ := x
        obtain ⟨dA, dc, A', n', c', d0, d1, d2, d3, hrb⟩ := hsl
        dsimp only at d0 d1 d2 d3 hrb hsm
        have hn' : n' ≤ 100 := by rw [← hrb.len]; exact hsm
        have hkk : IntKind.u64.wrap ((k : Int) + 1) = k + 1 := by rw [IntKind.wrap_u64]; omega
        have hzr := hb.size
        have HB := Lib.hid hb; have HRB := Lib.hid hrb; clear hb hrb
        have hkn : (k : Int) < n := by omega
        have hk100 : (k : Int) < 100 := by omega
        go_wp2_with fail
        refine (what_any st kind _ _ _).mono ?_
        rintro e w2 ⟨rfl, hb2⟩
        have R2 := Lib.hid (hr.out.below hb2)
        have HRB2 := Lib.hid (HRB.out.below hb2)
        have B2 := Lib.hid (HB.out.trans (hb2.mono hzr))
        have hbr := World.block_lt_of_cell? wr _ d0
        have c0 := (hb2.cell (p := ⟨b, off + k * 4, none⟩) hbr).trans d0
        have c1 := (hb2.cell (p := ⟨b, off + k * 4 + 1, none⟩) hbr).trans d1
        have c2 := (hb2.cell (p := ⟨b, off + k * 4 + 2, none⟩) hbr).trans d2
        have c3 := (hb2.cell (p := ⟨b, off + k * 4 + 3, none⟩) hbr).trans d3
        have hz2 := B2.out.size
        clear hb2 d0 d1 d2 d3
        by_cases hm : missE st = 0
        · have hX := HX.out.trans (if_pos hm)
          rw [hm]
          have hof := back_any st kind dA nd dc A' n' c' bs s w2 HRB2.out hn'
          have HOF := Lib.hid hof; have HX' := Lib.hid hX; clear hof hX
          go_wp2_with fail
          refine HOF.out.mono ?_
          rintro e w3 ⟨q1, q2, rfl, -, hb3⟩
          have R3 := Lib.hid (R2.out.below hb3)
          have B3 := Lib.hid (B2.out.trans (hb3.mono hz2))
          have hz3 := B3.out.size
          clear hb3
          generalize (ofS s ⟨st, kind, nd, bs⟩).2 = is at *
          cases is with
          | true =>
            go_wp2_with (at_builtin; refine list_app rfl (.tmp 39) (.tmp 41) 33 rfl w.heap.size 23 (.int .u64 0) 1 8 u64Info Try.underlying33 rfl (by omega) u8 acc.length _ rfl ((R3.out.alloc _).alloc _) ⟨w3.heap.size + 1, 0, none⟩ 1 1 [.int .u64 (k : Int)] rfl rfl ?_ ?_ ?_ ?_ ?_ ?_; (intro j u hj; match j, hj with | 0, hj => (simp at hj; subst hj; exact (Blk.newAt (w3.alloc _) #[.int .u64 (k : Int)] 23 (w3.heap.size + 1) (by simp)).cell 0)); (intro u hu; simp at hu; rcases hu with rfl; rfl); (unfold maxLen; omega); (omega); (simp; omega); intro v4 w4 O4 G4; rw [U_append] at O4; have HO4 := Lib.hid O4; have HG4 := Lib.hid G4; clear O4 G4)
            go_roundw
            case rel =>
              refine ⟨k + 1, acc ++ [k], by omega, by go_num, by simp; omega, ?_, Lib.hid ?_, Lib.hid (by rw [he.out, HX'.out]; exact cont_cont _ _ _)⟩
              · exact ((B3.out.alloc hz3 _).alloc (by simp; omega) _).grown HG4.out (by simp; omega) (fun j hj => (R3.out.lt j hj).1)
              · have := HO4.out; unfold RowU; simpa using this
            case measure => simp [intOf]; omega
          | false =>
            go_wp2
            go_roundw
            case rel => exact ⟨k + 1, acc, by omega, by go_num, by omega, B3.out.alloc hz3 _, Lib.hid (R3.out.alloc _), Lib.hid (by rw [he.out, HX'.out]; exact cont_cont _ _ _ |>.trans (by simp))⟩
            case measure => simp [intOf]; omega
        · have hX := HX.out.trans (if_neg hm)
          have E : linP s vs (k0 : Int).toNat = ([], missE st) := by rw [he.out, hX]; unfold cont; rw [if_neg hm]
          have E' := Lib.hid E; clear hX E
          go_wp2
          go_ret2
          exact ⟨_, by rw [E'.out]; rfl, by rw [E'.out]; exact RowU.nil _ _, B2.out⟩
      · have hkn : k = n := by omega
        subst hkn
        have E : linP s vs (k0 : Int).toNat = (acc, 0) := by rw [he.out, linP_end s vs k (by omega)]; unfold cont; simp
        have E' := Lib.hid E; have HB := Lib.hid hb; clear E hb
        go_wp2
        go_ret2
        exact ⟨_, by rw [E'.out]; rfl, by rw [E'.out]; exact hr.out, HB.out⟩
  · have E : linP s vs f.toNat = ([], 0) := linP_end s vs _ (by omega)
    rw [E]
    go_enter Try.func18, Try.ntmps18
    go_wp2
    refine wp_loop_rounds 1 ?_
    rw [rounds_succ]
    go_wp2
    go_ret2
    exact ⟨_, rfl, RowU.nil _ _, Below.refl _ _⟩

theorem RowU.form {w : World} {lo : Nat} {v : Value} {l : List Nat} (h : RowU w lo v l) : ∃ a c, v = .slice a l.length c := row_form h
theorem RowU.at' {w : World} {lo : Nat} {a : Option Addr} {c : Nat} {l : List Nat} (h : RowU w lo (.slice a l.length c) l) (h0 : 0 < l.length) : ∃ g, a = some ⟨g, 0, none⟩ ∧ g < w.heap.size ∧ ∀ i (hi : i < l.length), w.cell? ⟨g, i, none⟩ = some (.int .u64 (l[i] : Nat)) := by
  have hh := h
  obtain ⟨_, h2⟩ := h
  rcases h2 with ⟨_, h00⟩ | ⟨g, cap, cur, hv, hg, hb, _, _, _, _⟩
  · omega
  · cases hv
    refine ⟨g, rfl, (Array.getElem?_eq_some_iff.1 hb).1, fun i hi => ?_⟩
    rw [World.ownsRow.cellAt hh i (by omega)]
    simp [U, hi]

set_option maxRecDepth 100000 in
theorem same_any (v1 v2 : Value) (lo1 lo2 : Nat) (l1 l2 : List Nat) (w : World) (h1 : RowU w lo1 v1 l1) (h2 : RowU w lo2 v2 l2) (hn : l1.length ≤ 1000) :
    Calls Try.prog 16 #[v1, v2] w fun e w' => e = .returned (.bool (decide (l1 = l2))) ∧ Below w.heap.size w w' := by
  obtain ⟨a1, c1, rfl⟩ := h1.form
  obtain ⟨a2, c2, rfl⟩ := h2.form
  by_cases hl : l1.length = l2.length
  · have H1 := Lib.hid h1.at'; have H2 := Lib.hid h2.at'; clear h1 h2
    rw [← hl]
    have hl' : ((l1.length : Int) != l1.length) = false := by simp
    go_enter Try.func16, Try.ntmps16
    go_wp2
    go_loopw [5] (fun i wr => ∃ k : Nat, k ≤ l1.length ∧ i = .int .i64 k ∧ Below w.heap.size w wr ∧ Hid (l1.take k = l2.take k)) (fun i _ => l1.length - (intOf i).toNat)
    case atStart => exact ⟨0, Nat.zero_le _, rfl, Below.refl _ _, Lib.hid rfl⟩
    case round =>
      obtain ⟨k, hk, rfl, hb, ht⟩ := hrel
      by_cases hlt : k < l1.length
      · obtain ⟨g1, rfl, hg1, hc1⟩ := H1.out (by omega)
        obtain ⟨g2, rfl, hg2, hc2⟩ := H2.out (by omega)
        have hk2 : k < l2.length := by omega
        have d1 := (hb.cell (p := ⟨g1, k, none⟩) hg1).trans (hc1 k hlt)
        have d2 := (hb.cell (p := ⟨g2, k, none⟩) hg2).trans (hc2 k hk2)
        have hs1 : l1.take (k + 1) = l1.take k ++ [l1[k]] := by rw [List.take_succ_eq_append_getElem hlt]
        have hs2 : l2.take (k + 1) = l2.take k ++ [l2[k]] := by rw [List.take_succ_eq_append_getElem hk2]
        have hne : l1[k] ≠ l2[k] → l1 ≠ l2 := fun h e => h (by subst e; rfl)
        have HS1 := Lib.hid hs1; have HS2 := Lib.hid hs2; have HNE := Lib.hid hne; clear hs1 hs2 hne hc1 hc2
        generalize l1[k] = x at *
        generalize l2[k] = y at *
        have HB := Lib.hid hb; clear hb
        have hkl : (k : Int) < l1.length := by omega
        have hk0 : (0 : Int) ≤ (k : Int) := by omega
        have hk1000 : (k : Int) < 1000 := by omega
        by_cases hxy : x = y
        · subst hxy
          have hxx : ((x : Int) != (x : Int)) = false := by simp
          go_wp2
          go_quiet (fail)
          go_wp2
          go_roundw
          case rel => exact ⟨k + 1, by omega, by go_num, below_drewN HB.out _, Lib.hid (by rw [HS1.out, HS2.out, ht.out])⟩
          case measure => simp [intOf]; omega
        · have hxx : ((x : Int) != (y : Int)) = true := by simp only [bne_iff_ne, ne_eq]; omega
          have E := Lib.hid (decide_eq_false (HNE.out hxy))
          go_wp2
          go_quiet (fail)
          go_wp2
          go_ret
          exact ⟨by rw [E.out]; rfl, below_drewN HB.out _⟩
      · have hkk : k = l1.length := by omega
        subst hkk
        have E : decide (l1 = l2) = true := decide_eq_true (by
          have := ht.out
          rw [List.take_length] at this
          rw [this, hl, List.take_length])
        have E' := Lib.hid E; have HB := Lib.hid hb; clear E hb
        go_wp2
        go_ret
        exact ⟨by rw [E'.out]; rfl, HB.out⟩
  · have E := Lib.hid (decide_eq_false (fun e : l1 = l2 => hl (by rw [e])))
    have hl' : ((l1.length : Int) != l2.length) = true := by simp only [bne_iff_ne, ne_eq]; omega
    go_enter Try.func16, Try.ntmps16
    go_wp2
    go_ret
    exact ⟨by rw [E.out]; rfl, Below.refl _ _⟩
end Go.Proofs.Ytjalhcfphhdcbaa
