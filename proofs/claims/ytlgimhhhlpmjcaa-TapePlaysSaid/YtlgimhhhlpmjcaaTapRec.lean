/- The tape: records, Same. -/
import Derived.Test.YtlgimhhhlpmjcaaTapZ
set_option linter.unusedVariables false
set_option linter.unusedSimpArgs false
namespace Go.Proofs.Ytlgimhhhlpmjcaa
open Go.RowKit Go.Maps Go.WideMaps Go.Shelf

set_option maxRecDepth 100000 in
set_option maxHeartbeats 2000000 in
theorem records_any (t d sb mb : Nat) (F : Nat → Prop) (p : TD) (w : World) (H : TapeIs w F t d sb mb p) :
    Calls Try.prog 22 #[.pointer (some ⟨t, 0, none⟩)] w fun e w' => ∃ v, e = .returned v ∧ RowR w' (NewF w w') v p.L ∧ Below w.heap.size w w' := by
  have hl := sizeB_len p.L
  have hfl := H.ok.fitL
  have hab := allB_le H.small
  have hL : p.L.length ≤ 32704 := by omega
  have HH := Lib.hid H; clear H hl hfl hab
  have hrl := Lib.hid HH.out.ok.rl
  go_enter Try.func22, Try.ntmps22
  go_wp2
  go_loopw [3, 4] (fun o i wr => ∃ k : Nat, k ≤ p.L.length ∧ i = .int .i64 k ∧ Hid (RowR wr (NewF w wr) o (p.L.take k)) ∧ Hid (Below w.heap.size w wr)) (fun _ i _ => p.L.length - (intOf i).toNat)
  case atStart => exact ⟨0, Nat.zero_le _, rfl, Lib.hid (RowR.nil _ _), Lib.hid (Below.refl _ _)⟩
  case round =>
    obtain ⟨k, hk, rfl, hO, hB⟩ := hrel
    have hTr := Lib.hid (HH.out.below hB.out)
    obtain ⟨va, vc, rfl⟩ := hO.out.form
    rw [List.length_take, Nat.min_eq_left hk] at hO ⊢
    by_cases hlt : k < p.L.length
    · have hlt2 : (k : Int) < p.L.length := by omega
      have hne : 0 < p.L[k].length := by
        have := (hrl.out _ (List.getElem_mem hlt)).1
        simp [rightB] at this; omega
      have HNE := Lib.hid hne; clear hne
      go_wp2_with (go_at_call 19; refine (tlen_any t d sb mb F p _ hTr.out).mono ?_; rintro e w8 ⟨rfl, hw8⟩; rw [hw8]; clear hw8 w8)
      refine (tread_in t d sb mb F p k _ hTr.out hlt).mono ?_
      rintro e w3 ⟨v3, rfl, O3, B3⟩
      obtain ⟨a3, c3, rfl⟩ := O3.form
      have hz3 := B3.size
      have hz1 := hB.out.size
      generalize hm : p.L[k].length = m at *
      have U5 : RecIs (w3.alloc (.cells #[.slice a3 m c3] 31)) (NewF w (w3.alloc (.cells #[.slice a3 m c3] 31))) (.slice a3 m c3) p.L[k] :=
        ((RecIs.of O3 (by rw [hm]; exact HNE.out) (fun g h1 h2 => ⟨by omega, by simp; omega⟩) : RecIs w3 (NewF w (w3.alloc (.cells #[.slice a3 m c3] 31))) _ _)).keep (fun g cs fr hg hb => Below.heap_alloc _ _ _ (Array.getElem?_eq_some_iff.1 hb).1)
      have H5 : RowR (w3.alloc (.cells #[.slice a3 m c3] 31)) (NewF w (w3.alloc (.cells #[.slice a3 m c3] 31))) (.slice va k vc) (p.L.take k) :=
        (hO.out.same (fun g hg => (Below.heap_alloc _ _ _ (Nat.lt_of_lt_of_le hg.2 hz3)).trans (B3.block g hg.2))).mono (fun g hg => ⟨hg.1, by simp; have := hg.2; omega⟩)
      have HU5 := Lib.hid U5; have HH5 := Lib.hid H5
      obtain ⟨⟨vs, O5, V5⟩, F5⟩ := H5
      rw [List.length_take, Nat.min_eq_left hk] at O5
      have hvl : vs.length = (p.L.take k).length := by have := O5.1; rw [List.length_take, Nat.min_eq_left hk]; omega
      have HO5 := Lib.hid O5; have HV5 := Lib.hid V5; have HVL := Lib.hid hvl
      have HBW := Lib.hid (balloc (bthen hB.out B3) (.cells #[.slice a3 m c3] 31) : Below w.heap.size w (w3.alloc (.cells #[.slice a3 m c3] 31)))
      clear O3 B3 U5 O5 V5 F5 hvl hO hrl HNE
      go_wp2_with (at_builtin; refine list_app2 rfl (.tmp 19) (.tmp 21) 22 rfl 0 31 (.slice none 0 0) 24 bbInfo Try.underlying22 rfl _ k vs rfl HO5.out ⟨w3.heap.size, 0, none⟩ 1 1 [.slice a3 m c3] rfl rfl ?_ ?_ ?_ ?_ ?_ ?_ ?_; (intro i u hu; match i, hu with | 0, hu => (simp at hu; subst hu; exact (Blk.newAt w3 #[.slice a3 m c3] 31 w3.heap.size rfl).cell 0)); (intro u hu; simp at hu; subst hu; rfl); (omega); (unfold maxLen; omega); (omega); (omega); intro v6 w6 O6 G6 N6; obtain ⟨va6, vc6, rfl⟩ := row_form O6; have HS6 := Lib.hid (HH5.out.snoc (F' := NewF w w6) HV5.out HVL.out HU5.out (by rw [List.length_take, Nat.min_eq_left hk]; exact O6) G6 N6 (fun g hg => ⟨hg.1, Nat.lt_of_lt_of_le hg.2 G6.size⟩) (fun g h1 h2 => ⟨by simp at h1; omega, h2⟩) (fun g hg => hg.2)); have HB6 := Lib.hid (HBW.out.grown G6 HBW.out.size (fun j hj => by have := HH5.out.foot j hj; exact this.1)); clear O6 G6 N6)
      go_roundw
      case rel => exact ⟨k + 1, by omega, by go_num, Lib.hid (by rw [List.take_succ_eq_append_getElem hlt]; exact HS6.out), HB6⟩
      case measure => simp [intOf]; omega
    · have : k = p.L.length := by omega
      subst this
      have hO' := Lib.hid (show RowR wr (NewF w wr) (.slice va p.L.length vc) p.L by have := hO.out; rwa [List.take_length] at this)
      clear hO
      go_wp2_with (go_at_call 19; refine (tlen_any t d sb mb F p _ hTr.out).mono ?_; rintro e w8 ⟨rfl, hw8⟩; rw [hw8]; clear hw8 w8)
      go_ret
      exact ⟨_, rfl, hO'.out, hB.out⟩

theorem str_beq (a b : ByteArray) : (a.toList == b.toList) = decide (a = b) := by
  rw [Bool.eq_iff_iff]
  simp only [beq_iff_eq, decide_eq_true_iff]
  exact ⟨fun h => WideShapes.bytes_inj (by rw [← ByteArray.toList_eq, ← ByteArray.toList_eq, h]), fun h => by rw [h]⟩
theorem strOfNums_inj {a b : Bs} (ha : okB a) (hb : okB b) (h : strOfNums a = strOfNums b) : a = b := by
  have h1 : (a.map fun n => UInt8.ofNat n.toNat).toArray = (b.map fun n => UInt8.ofNat n.toNat).toArray := by
    have := congrArg ByteArray.data h
    exact this
  have h2 := congrArg Array.toList h1
  simp only [] at h2
  clear h h1
  induction a generalizing b with
  | nil => cases b with
    | nil => rfl
    | cons y b => simp at h2
  | cons x a ih => cases b with
    | nil => simp at h2
    | cons y b =>
      simp only [List.map_cons, List.cons.injEq] at h2
      obtain ⟨e1, e2⟩ := h2
      have hx := ha x (by simp)
      have hy := hb y (by simp)
      rw [ih (fun z hz => ha z (by simp [hz])) (fun z hz => hb z (by simp [hz])) e2]
      congr 1
      have e3 := congrArg UInt8.toNat e1
      simp at e3
      omega

/-- Bytes as a string, wherever they lie. -/
theorem rdu8_string {W : World} {A : Option Addr} {n c : Nat} {xs : Bs} (h : RdU8 W A n xs) : (convert 31 9 (.slice A n c)).run Try.prog W = .ok (.string (strOfNums xs)) W := by
  have hl := h.len
  by_cases h0 : n = 0
  · subst h0
    have : xs = [] := List.eq_nil_of_length_eq_zero hl
    subst this
    cases A with
    | none => exact run_convert_bytes_nil W 31 5 Try.underlying31 Try.underlying5 0 c 9 Try.underlying9
    | some a =>
      have hl : (loadCells a 0).run Try.prog W = .ok (([] : List Int).map (Value.int .u8)).toArray W := by
        simpa using run_loadCells_list (P := Try.prog) W a [] (fun j v hj => by simp at hj)
      rw [run_convert_bytes_string W 31 9 5 _ 0 c Try.underlying31 Try.underlying5 Try.underlying9, run_bytesToString W _ 0 c [] hl]
      rfl
  · obtain ⟨b, off, rfl, hb, hc⟩ := h.at' (by omega)
    refine run_convert_bytes_arg W 31 5 Try.underlying31 Try.underlying5 b off n c _ hl (fun i hi => ?_) 9 Try.underlying9
    rw [hc i (by omega)]
    simp [List.getD_eq_getElem?_getD, show i < xs.length by omega]

set_option maxRecDepth 100000 in
set_option maxHeartbeats 2000000 in
theorem same_any (A B : Option Addr) (n m c e : Nat) (L M : List Bs) (w : World) (hL : RdBB w A n L) (hM : RdBB w B m M) (oL : ∀ x ∈ L, okB x) (oM : ∀ x ∈ M, okB x) (hn : n ≤ 1000000) :
    Calls Try.prog 21 #[.slice A n c, .slice B m e] w fun r w' => r = .returned (.bool (decide (L = M))) ∧ Below w.heap.size w w' := by
  have h1 := hL.len; have h2 := hM.len
  have HL := Lib.hid hL; have HM := Lib.hid hM; have OL := Lib.hid oL; have OM := Lib.hid oM
  clear hL hM oL oM
  go_enter Try.func21, Try.ntmps21
  by_cases hnm : n = m
  · have hnm' : decide ((n : Int) = m) = true := decide_eq_true (by omega)
    subst hnm
    have H1 := Lib.hid h1; have H2 := Lib.hid h2; clear h1 h2
    go_wp2
    go_loopw [5] (fun i wr => ∃ k : Nat, k ≤ n ∧ i = .int .i64 k ∧ Hid (L.take k = M.take k) ∧ Hid (Below w.heap.size w wr)) (fun i _ => n - (intOf i).toNat)
    case atStart => exact ⟨0, Nat.zero_le _, rfl, Lib.hid rfl, Lib.hid (Below.refl _ _)⟩
    case round =>
      obtain ⟨k, hk, rfl, hE, hB⟩ := hrel
      by_cases hlt : k < n
      · have hkL : k < L.length := by rw [H1.out]; exact hlt
        have hkM : k < M.length := by rw [H2.out]; exact hlt
        obtain ⟨b1, o1, rfl, hb1, hc1⟩ := HL.out.at' (by omega)
        obtain ⟨b2, o2, rfl, hb2, hc2⟩ := HM.out.at' (by omega)
        obtain ⟨A1, c1, q1, r1⟩ := hc1 k hkL
        obtain ⟨A2, c2, q2, r2⟩ := hc2 k hkM
        have q1 := (hB.out.cell (p := ⟨b1, o1 + k, none⟩) hb1).trans q1
        have q2 := (hB.out.cell (p := ⟨b2, o2 + k, none⟩) hb2).trans q2
        have cv1 : ∀ j, (convert 31 9 (.slice A1 L[k].length c1)).run Try.prog (wr.drewN j) = .ok (.string (strOfNums L[k])) (wr.drewN j) := fun j => rdu8_string ((r1.below hB.out).below (below_drewN (Below.refl _ _) j))
        have cv2 : ∀ j, (convert 31 9 (.slice A2 M[k].length c2)).run Try.prog (wr.drewN j) = .ok (.string (strOfNums M[k])) (wr.drewN j) := fun j => rdu8_string ((r2.below hB.out).below (below_drewN (Below.refl _ _) j))
        have hlt2 : (k : Int) < n := by omega
        have HLT := Lib.hid hlt
        clear hc1 hc2 hb1 hb2 r1 r2
        by_cases hs : L[k] = M[k]
        · have hse : strOfNums L[k] = strOfNums M[k] := by rw [hs]
          generalize strOfNums L[k] = s1 at *
          generalize strOfNums M[k] = s2 at *
          have hbeq : (s1.toList == s2.toList) = true := by rw [str_beq, decide_eq_true hse]
          have HS := Lib.hid hs; clear hs hse
          generalize L[k].length = l1 at *
          generalize M[k].length = l2 at *
          go_wp2_with fail
          go_quiet (fail)
          rename_i nq
          go_wp2
          go_roundw
          case rel => exact ⟨k + 1, by omega, by go_num, Lib.hid (by rw [List.take_succ_eq_append_getElem hkL, List.take_succ_eq_append_getElem hkM, hE.out, HS.out]), Lib.hid (below_drewN hB.out _)⟩
          case measure => simp [intOf]; omega
        · have hse : ¬ strOfNums L[k] = strOfNums M[k] := fun e => hs (strOfNums_inj (OL.out _ (List.getElem_mem hkL)) (OM.out _ (List.getElem_mem hkM)) e)
          generalize strOfNums L[k] = s1 at *
          generalize strOfNums M[k] = s2 at *
          have hbeq : (s1.toList == s2.toList) = false := by rw [str_beq, decide_eq_false hse]
          clear hse
          have hLM : Hid (decide (L = M) = false) := Lib.hid (decide_eq_false (fun e => hs (by subst e; rfl)))
          clear hs
          generalize L[k].length = l1 at *
          generalize M[k].length = l2 at *
          go_wp2_with fail
          go_quiet (fail)
          rename_i nq
          go_wp2
          go_ret
          exact ⟨by rw [hLM.out]; first | done | rfl, below_drewN hB.out _⟩
      · have : k = n := by omega
        subst this
        have hLM : Hid (decide (L = M) = true) := Lib.hid (decide_eq_true (by
          have := hE.out
          rw [List.take_of_length_le (by rw [H1.out]; exact Nat.le_refl _), List.take_of_length_le (by rw [H2.out]; exact Nat.le_refl _)] at this
          exact this))
        go_wp2
        go_ret
        exact ⟨by rw [hLM.out]; first | done | rfl, hB.out⟩
  · have hnm' : decide ((n : Int) = m) = false := decide_eq_false (by omega)
    have hLM : Hid (decide (L = M) = false) := Lib.hid (decide_eq_false (fun e => by subst e; omega))
    have hnn : ¬ (n : Int) = m := by omega
    clear h1 h2
    go_wp2
    go_ret
    exact ⟨by rw [hLM.out]; first | done | rfl, Below.refl _ _⟩

theorem doneP_of {p : TD} (he : emptyP p = false) : doneP p = decide (3 ≤ p.dn) := by unfold doneP; rw [he]; rfl
/-- The four steps of a commit. -/
def fourP (p : TD) : TD := endP (flushP (incP (markP (incP (flushP (incP (layP (incP p))))))))
theorem commit_four (p : TD) (hd : p.dn = 0) (he : emptyP p = false) : commitP p = fourP p := by
  have s0 : stepP p = layP (incP p) := by unfold stepP; rw [if_neg (by rw [he]; simp), hd]; rfl
  have e1 : emptyP (layP (incP p)) = false := he
  have d1 : (layP (incP p)).dn = 1 := by show p.dn + 1 = 1; omega
  generalize h1 : layP (incP p) = p1 at *
  have s1 : stepP p1 = flushP (incP p1) := by unfold stepP; rw [if_neg (by rw [e1]; simp), d1]; rfl
  have e2 : emptyP (flushP (incP p1)) = false := e1
  have d2 : (flushP (incP p1)).dn = 2 := by show p1.dn + 1 = 2; omega
  generalize h2 : flushP (incP p1) = p2 at *
  have s2 : stepP p2 = markP (incP p2) := by unfold stepP; rw [if_neg (by rw [e2]; simp), d2]; rfl
  have e3 : emptyP (markP (incP p2)) = false := e2
  have d3 : (markP (incP p2)).dn = 3 := by show p2.dn + 1 = 3; omega
  generalize h3 : markP (incP p2) = p3 at *
  have s3 : stepP p3 = endP (flushP (incP p3)) := by unfold stepP; rw [if_neg (by rw [e3]; simp), d3]; rfl
  unfold commitP fourP
  rw [hd, show 4 - 0 = 3 + 1 from rfl, commitN, if_neg (by rw [doneP_of he, hd]; decide), s0]
  rw [show 3 = 2 + 1 from rfl, commitN, if_neg (by rw [doneP_of e1, d1]; decide), s1]
  rw [show 2 = 1 + 1 from rfl, commitN, if_neg (by rw [doneP_of e2, d2]; decide), s2]
  rw [show 1 = 0 + 1 from rfl, commitN, if_pos (by rw [doneP_of e3, d3]; decide), s3]
  rw [h1, h2, h3]
theorem commit_empty (p : TD) (hd : p.dn = 0) (he : emptyP p = true) : commitP p = p := by
  unfold commitP
  rw [hd, show 4 - 0 = 3 + 1 from rfl, commitN, if_pos (by unfold doneP; rw [he]; rfl)]
  unfold stepP
  rw [if_pos he]
theorem commit_L (p : TD) (hd : p.dn = 0) (hf : p.fr = false) : (commitP p).L = p.L ++ p.W ∧ (commitP p).W = [] ∧ (commitP p).dn = 0 ∧ (commitP p).fr = false ∧ (commitP p).n = p.n := by
  cases he : emptyP p with
  | true =>
    rw [commit_empty p hd he]
    have hw : p.W = [] := by unfold emptyP at he; simp at he; exact he.2
    refine ⟨by rw [hw]; simp, hw, hd, hf, rfl⟩
  | false =>
    rw [commit_four p hd he]
    refine ⟨?_, rfl, rfl, rfl, rfl⟩
    show (if p.fr then [] else p.L) ++ p.W = _
    rw [hf]; rfl
theorem commit_Lf (p : TD) (hd : p.dn = 0) (hf : p.fr = true) : (commitP p).L = p.W ∧ (commitP p).W = [] ∧ (commitP p).dn = 0 ∧ (commitP p).fr = false ∧ (commitP p).n = p.n := by
  have he : emptyP p = false := by unfold emptyP; rw [hf]; rfl
  rw [commit_four p hd he]
  refine ⟨?_, rfl, rfl, rfl, rfl⟩
  show (if p.fr then [] else p.L) ++ p.W = _
  rw [hf]; rfl
end Go.Proofs.Ytlgimhhhlpmjcaa
