/- stream.Build: the walk. -/
import Derived.Test.YtjalhcfphhdcbaaStrN
set_option linter.unusedVariables false
set_option linter.unusedSimpArgs false
namespace Go.Proofs.Ytjalhcfphhdcbaa
open Go.RowKit

theorem row_notMap {w : World} {lo b N e s n : Nat} {v : Value} {xs : List Value} {lf : Int → Option (Int × Int)} (h : w.ownsRow lo e s v n xs) (hm : MapB w b N lf) : v.ownBlock ≠ some b := by
  rcases h.2 with ⟨rfl, _⟩ | ⟨g, cap, cur, rfl, _, hh, _⟩
  · simp [Value.ownBlock]
  · intro e
    simp [Value.ownBlock] at e
    exact hm.ne hh e
theorem MapB.grown {w w' : World} {b N : Nat} {lf : Int → Option (Int × Int)} {r : Option Nat} (h : MapB w b N lf) (hb : w.grownBy w' r) (hne : some b ≠ r) : MapB w' b N lf := h.keep (hb.block b h.lt hne)
theorem MapB.far {w : World} {b N : Nat} {lf : Int → Option (Int × Int)} (h : MapB w b N lf) {p : Addr} (hp : b ≠ p.block) (u : Value) : MapB (w.setCell p u) b N lf := h.keep (Below.heap_setCell _ _ _ _ hp)
theorem Slots.below {w w' : World} {lo : Nat} {cs : List Value} {vs : List Sl} (h : Slots w lo cs vs) (hb : Below w.heap.size w w') : Slots w' lo cs vs :=
  ⟨h.1, fun i hi => by
    obtain ⟨dA, dc, v, h0, h1, h2, h3, h4⟩ := h.2 i hi
    exact ⟨dA, dc, v, h0, h1, h2, h3, h4.below hb⟩⟩
theorem push_facts {w W w6 : World} {o v : Value} {k N mb nb : Nat} {cs : List Value} {dn : List Sl} {lf : Int → Option (Int × Int)} {x : Sl} {dA : Option Addr} {dc : Nat} {Y : Obj} {ncs : Array Value} {nt : Nat}
    (hb : Below w.heap.size w W) (hm : MapB W mb N lf) (hn : Blk W nb ncs nt) (hnt : nt ≠ 43) (ho : W.ownsRow w.heap.size 43 4 o k cs) (hs : Slots W w.heap.size cs dn) (hr : RowB W w.heap.size v x.bs)
    (g : (W.alloc Y).grownBy w6 o.ownBlock) : Below w.heap.size w w6 ∧ MapB w6 mb N lf ∧ Blk w6 nb ncs nt ∧ Slots w6 w.heap.size (cs ++ [.int .i64 x.st, .int .i64 x.kind, .slice dA x.nd dc, v]) (dn ++ [x]) := by
  have bA : Below W.heap.size W (W.alloc Y) := (Below.refl _ _).alloc (Nat.le_refl _) _
  have oA := ownsRow_below ho bA
  refine ⟨(hb.alloc hb.size Y).grown g (by simp; have := hb.size; omega) (fun j hj => (oA.lt j hj).1), (hm.below bA).grown g (row_notMap oA (hm.below bA)).symm, (hn.below bA).grown g (ownsRow_ne oA (hn.below bA) hnt), ?_⟩
  exact ((hs.push x dA dc v hr).below bA).grown g (fun v' bs' h' => row_ne2 h' oA (by decide))

theorem grown_row {a w w' : World} {m : Nat} {r : Option Nat} (h : a.grownBy w (some m)) (k : w.grownBy w' r) (hr : ∀ x, r = some x → a.heap.size ≤ x) : a.grownBy w' (some m) :=
  ⟨k.os.trans h.os, k.tape.trans h.tape, k.output.trans h.output, Nat.le_trans h.size k.size, fun x hx hne => (k.block x (Nat.lt_of_lt_of_le hx h.size) (fun e => by have := hr x e.symm; omega)).trans (h.block x hx hne)⟩
theorem wf16 (x : Int) (h1 : -1 < x) (h2 : x < 16) : (Lit.int .i64 x).wf = true := by
  have h : ∀ m : Fin 16, (Lit.int .i64 (m.val : Int)).wf = true := by decide
  have := h ⟨x.toNat, by omega⟩
  rwa [show ((⟨x.toNat, by omega⟩ : Fin 16).val : Int) = x by show ((x.toNat : Nat) : Int) = x; omega] at this
theorem buildP_drop (ms : List Md) (k : Nat) (h : k < ms.length) (lf : Int → Option (Int × Int)) : buildP k lf (ms.drop k) = slotOf k lf ms[k] :: buildP (k + 1) (lfOf k lf ms[k]) (ms.drop (k + 1)) := by
  rw [List.drop_eq_getElem_cons h]; rfl

set_option maxRecDepth 100000 in
set_option maxHeartbeats 4000000 in
theorem build_any (A : Option Addr) (n c : Nat) (ms : List Md) (w : World) (h : RdM w A n ms) (hs : SmallM ms) :
    Calls Try.prog 11 #[.slice A n c] w fun e w' =>
      ∃ a cc cs, e = .returned (.slice a n cc) ∧ w'.ownsRow w.heap.size 43 4 (.slice a n cc) n cs ∧ Slots w' w.heap.size cs (buildP 0 (fun _ => none) ms) ∧ Below w.heap.size w w' := by
  have hlen := h.len
  have hn100 : n ≤ 100 := by have := hs.1; omega
  have HH := Lib.hid h; have HS := Lib.hid hs; clear h hs
  have m2 : MapB ((w.alloc (.map #[] 0)).alloc (.cells #[.int .u64 NN, .int .u64 NN] 29)) w.heap.size 0 (fun _ => none) := (MapB.made w).alloc _
  have n2 : Blk ((w.alloc (.map #[] 0)).alloc (.cells #[.int .u64 NN, .int .u64 NN] 29)) (w.heap.size + 1) #[.int .u64 NN, .int .u64 NN] 29 := Blk.newAt (w.alloc _) _ _ _ (by simp)
  have b2 : Below w.heap.size w ((w.alloc (.map #[] 0)).alloc (.cells #[.int .u64 NN, .int .u64 NN] 29)) := ((Below.refl _ _).alloc (Nat.le_refl _) _).alloc (by simp) _
  have M2 := Lib.hid m2; have N2 := Lib.hid n2; have B2 := Lib.hid b2; clear m2 n2 b2
  have hmm := @run_makeMap Try.prog
  go_enter Try.func11, Try.ntmps11
  go_wp2
  go_loopw [5, 18] (fun o i wr => ∃ (k : Nat) (cs : List Value) (dn : List Sl) (lf : Int → Option (Int × Int)) (N : Nat), k ≤ n ∧ i = .int .i64 k ∧ dn.length = k ∧ N ≤ 100 * k ∧ Below w.heap.size w wr ∧ Hid (MapB wr w.heap.size N lf) ∧ Hid (Blk wr (w.heap.size + 1) #[.int .u64 NN, .int .u64 NN] 29) ∧
    Hid (wr.ownsRow w.heap.size 43 4 o k cs) ∧ Hid (Slots wr w.heap.size cs dn) ∧ Hid (buildP 0 (fun _ => none) ms = dn ++ buildP k lf (ms.drop k))) (fun _ i _ => n - (intOf i).toNat)
  case atStart => exact ⟨0, [], [], _, 0, Nat.zero_le _, rfl, rfl, Nat.zero_le _, B2.out, M2, N2, Lib.hid (World.ownsRow_nil _ _ _ _), Lib.hid ⟨rfl, fun i h => absurd h (by simp)⟩, Lib.hid rfl⟩
  case round =>
    obtain ⟨k, cs, dn, lf, N, hk, rfl, hdn, hN, hb, hm, hnb, ho, hsl, hP⟩ := hrel
    by_cases hlt : k < n
    · have hk1 : k < ms.length := by omega
      obtain ⟨b, off, rfl, hc⟩ := HH.out.at' (by omega)
      have hmk := hc k hk1
      have hsm := HS.out.2 ms[k] (List.getElem_mem hk1)
      have hpd := buildP_drop ms k hk1 lf
      have HPD := Lib.hid hpd; clear hpd hc
      generalize ms[k] = x at *
      obtain ⟨str, nd, junk⟩ := x
      obtain ⟨sA, sc, dA, dc, ds, e0, e1, e2, hstr, hdat⟩ := hmk
      dsimp only at e0 e1 e2 hstr hdat hsm
      have hbw : b < w.heap.size := World.block_lt_of_cell? w _ e0
      have d0 := (hb.cell (p := ⟨b, off + k * 3, none⟩) hbw).trans e0
      have d1 := (hb.cell (p := ⟨b, off + k * 3 + 1, none⟩) hbw).trans e1
      have d2 := (hb.cell (p := ⟨b, off + k * 3 + 2, none⟩) hbw).trans e2
      obtain ⟨hs100, hd1000⟩ := hsm
      have hzr := hb.size
      have HB := Lib.hid hb; have HSTR := Lib.hid hstr; have HDAT := Lib.hid hdat; clear hb hstr hdat
      have hkn : (k : Int) < n := by omega
      have hk100 : (k : Int) < 100 := by omega
      have hk0 : (0 : Int) ≤ (k : Int) := by omega
      have hbr : b < wr.heap.size := World.block_lt_of_cell? wr _ d0
      have B3 := Lib.hid ((HB.out.alloc hzr (.cells #[.slice sA str.length sc, .slice dA nd dc, .bool junk] 67)).alloc (by simp; omega) (.cells #[.int .i64 1, .int .i64 2, .slice none 0 0, .slice none 0 0] 43))
      have hris := rising_any sA str.length sc str ((wr.alloc (.cells #[.slice sA str.length sc, .slice dA nd dc, .bool junk] 67)).alloc (.cells #[.int .i64 1, .int .i64 2, .slice none 0 0, .slice none 0 0] 43)) (HSTR.out.below B3.out) hs100
      have HRIS := Lib.hid hris; clear hris
      go_wp2_with fail
      refine HRIS.out.mono ?_
      rintro e w3 ⟨rfl, rfl⟩
      have bA : Below wr.heap.size wr ((wr.alloc (.cells #[.slice sA str.length sc, .slice dA nd dc, .bool junk] 67)).alloc (.cells #[.int .i64 1, .int .i64 2, .slice none 0 0, .slice none 0 0] 43)) := ((Below.refl _ _).alloc (Nat.le_refl _) _).alloc (by simp) _
      have HM3 := Lib.hid (hm.out.below bA); have HN3 := Lib.hid (hnb.out.below bA); have HO3 := Lib.hid (ownsRow_below ho.out bA); have HSL3 := Lib.hid (hsl.out.below bA)
      have S3 : Hid (Blk ((wr.alloc (.cells #[.slice sA str.length sc, .slice dA nd dc, .bool junk] 67)).alloc (.cells #[.int .i64 1, .int .i64 2, .slice none 0 0, .slice none 0 0] 43)) (wr.heap.size + 1) #[.int .i64 1, .int .i64 2, .slice none 0 0, .slice none 0 0] 43) := Lib.hid (Blk.newAt (wr.alloc _) _ _ _ (by simp))
      have D3 : Hid (Blk ((wr.alloc (.cells #[.slice sA str.length sc, .slice dA nd dc, .bool junk] 67)).alloc (.cells #[.int .i64 1, .int .i64 2, .slice none 0 0, .slice none 0 0] 43)) wr.heap.size #[.slice sA str.length sc, .slice dA nd dc, .bool junk] 67) := Lib.hid ((Blk.new wr _ _).alloc _)
      clear bA
      cases hok : (risB (-1) str && decide (str.length ≤ 4)) with
      | false =>
        have hso : slotOf k lf ⟨str, nd, junk⟩ = ⟨1, 2, 0, []⟩ := by unfold slotOf; rw [if_neg]; unfold okM; rw [hok]; simp
        have hlo : lfOf k lf ⟨str, nd, junk⟩ = lf := by unfold lfOf; rw [if_neg]; unfold okM; rw [hok]; simp
        have HP' := Lib.hid (hP.out.trans (by rw [HPD.out, hso, hlo]))
        clear hso hlo
        have hsz3 : ((wr.alloc (.cells #[.slice sA str.length sc, .slice dA nd dc, .bool junk] 67)).alloc (.cells #[.int .i64 1, .int .i64 2, .slice none 0 0, .slice none 0 0] 43)).heap.size = wr.heap.size + 2 := by simp
        have hszw : w.heap.size ≤ ((wr.alloc (.cells #[.slice sA str.length sc, .slice dA nd dc, .bool junk] 67)).alloc (.cells #[.int .i64 1, .int .i64 2, .slice none 0 0, .slice none 0 0] 43)).heap.size := by omega
        clear hsz3
        generalize ((wr.alloc (.cells #[.slice sA str.length sc, .slice dA nd dc, .bool junk] 67)).alloc (.cells #[.int .i64 1, .int .i64 2, .slice none 0 0, .slice none 0 0] 43)) = W3 at *
        have s0 := S3.out.cell 0; have s1 := S3.out.cell 1; have s2 := S3.out.cell 2; have s3 := S3.out.cell 3
        simp at s0 s1 s2 s3
        have hsl3 := S3.out.lt
        go_wp2_with (at_builtin; refine list_app rfl (.tmp 73) (.tmp 75) 27 rfl w.heap.size 43 (.agg #[.int .i64 0, .int .i64 0, .slice none 0 0, .slice none 0 0]) 4 64 vslotInfo Try.underlying27 rfl (by omega) u5 k cs rfl (ownsRow_below HO3.out ((Below.refl _ _).alloc (Nat.le_refl _) _)) ⟨W3.heap.size, 0, none⟩ 1 1 [.int .i64 1, .int .i64 2, .slice none 0 0, .slice none 0 0] rfl rfl ?_ ?_ ?_ ?_ ?_ ?_; (intro j u hj; match j, hj with | 0, hj => (simp at hj; subst hj; exact (Blk.new W3 #[.int .i64 1, .int .i64 2, .slice none 0 0, .slice none 0 0] 43).cell 0) | 1, hj => (simp at hj; subst hj; exact (Blk.new W3 #[.int .i64 1, .int .i64 2, .slice none 0 0, .slice none 0 0] 43).cell 1) | 2, hj => (simp at hj; subst hj; exact (Blk.new W3 #[.int .i64 1, .int .i64 2, .slice none 0 0, .slice none 0 0] 43).cell 2) | 3, hj => (simp at hj; subst hj; exact (Blk.new W3 #[.int .i64 1, .int .i64 2, .slice none 0 0, .slice none 0 0] 43).cell 3)); (intro u hu; simp at hu; rcases hu with rfl | rfl | rfl | rfl <;> rfl); (unfold maxLen; omega); (omega); (simp; omega); intro v6 w6 O6 G6; have HO6 := Lib.hid O6; have HG6 := Lib.hid G6; clear O6 G6)
        go_roundw
        case rel =>
          obtain ⟨q1, q2, q3, q4⟩ := push_facts (x := ⟨1, 2, 0, []⟩) (dA := none) (dc := 0) B3.out HM3.out HN3.out (by decide) HO3.out HSL3.out (RowB.nil _ _) HG6.out
          exact ⟨k + 1, _, dn ++ [⟨1, 2, 0, []⟩], lf, N, by omega, by go_num, by simp [hdn], by omega, q1, Lib.hid q2, Lib.hid q3, Lib.hid HO6.out, Lib.hid q4, Lib.hid (by rw [HP'.out]; simp)⟩
        case measure => simp [intOf]; omega
      | true =>
        have hris : risB (-1) str = true := by revert hok; cases risB (-1) str <;> simp
        have hl4 : str.length ≤ 4 := by
          have : decide (str.length ≤ 4) = true := by revert hok; cases risB (-1) str <;> simp
          exact of_decide_eq_true this
        have hoM : okM ⟨str, nd, junk⟩ = true := hok
        have hbd := Lib.hid (risB_bound str (-1) hris)
        have HPD' : Hid (buildP k lf (ms.drop k) = slotOf k lf ⟨str, nd, junk⟩ :: buildP (k + 1) (lastsOf k lf str) (ms.drop (k + 1))) := Lib.hid (HPD.out.trans (by unfold lfOf; rw [if_pos hoM]))
        have hmbz : w.heap.size < wr.heap.size := hm.out.lt
        have hszw : wr.heap.size + 2 = ((wr.alloc (.cells #[.slice sA str.length sc, .slice dA nd dc, .bool junk] 67)).alloc (.cells #[.int .i64 1, .int .i64 2, .slice none 0 0, .slice none 0 0] 43)).heap.size := by simp
        have hcl := clone_any dA nd dc ds ((wr.alloc (.cells #[.slice sA str.length sc, .slice dA nd dc, .bool junk] 67)).alloc (.cells #[.int .i64 1, .int .i64 2, .slice none 0 0, .slice none 0 0] 43)) (HDAT.out.below B3.out) hd1000
        have HCL := Lib.hid hcl; have HOKM := Lib.hid hoM; have hne5 : ∀ j, u5.ownBlock = some j → j < wr.heap.size := fun j hj => (ho.out.lt j hj).2
        have HNE := Lib.hid hne5; clear hcl hris hoM hne5
        go_wp2_with fail
        refine HCL.out.mono ?_
        rintro e w4 ⟨cA, cc, rfl, hb4⟩
        have B4 := Lib.hid (B3.out.trans (hb4.mono B3.out.size))
        have HM4 := Lib.hid (HM3.out.below hb4); have HN4 := Lib.hid (HN3.out.below hb4); have HO4 := Lib.hid (ownsRow_below HO3.out hb4); have HSL4 := Lib.hid (HSL3.out.below hb4)
        have S4 := Lib.hid (S3.out.below hb4); have D4 := Lib.hid (D3.out.below hb4)
        have hz4 : wr.heap.size + 2 ≤ w4.heap.size := by have := hb4.size; omega
        clear hb4 hszw
        generalize wr.heap.size = TB at *
        have t0 := D4.out.cell 0; have t1 := D4.out.cell 1; have t2 := D4.out.cell 2
        simp at t0 t1 t2
        have htl := D4.out.lt
        have bC : Below w4.heap.size w4 (w4.alloc (.cells #[.int .i64 1, .slice cA nd cc, .slice none 0 0] 41)) := (Below.refl _ _).alloc (Nat.le_refl _) _
        have hC5 := Lib.hid (Blk.new w4 #[.int .i64 1, .slice cA nd cc, .slice none 0 0] 41)
        have hM5 := Lib.hid (HM4.out.below bC); have hN5 := Lib.hid (HN4.out.below bC); have hG5 := Lib.hid (grownBy_of_below bC (some w.heap.size))
        go_wp2
        go_loopw [35] (fun i wq => ∃ (j : Nat) (bv : Value) (acc : List Bk) (lf' : Int → Option (Int × Int)) (N' : Nat), j ≤ str.length ∧ i = .int .i64 j ∧ acc.length = j ∧ N' ≤ N + j ∧ Hid (w4.grownBy wq (some w.heap.size)) ∧ Hid (MapB wq w.heap.size N' lf') ∧ Hid (Blk wq (w.heap.size + 1) #[.int .u64 NN, .int .u64 NN] 29) ∧
          Hid (Blk wq w4.heap.size #[.int .i64 1, .slice cA nd cc, bv] 41) ∧ Hid (RowB wq w4.heap.size bv acc) ∧ Hid (bksOf k lf str = acc ++ bksOf k lf' (str.drop j)) ∧ Hid (lastsOf k lf str = lastsOf k lf' (str.drop j))) (fun i _ => str.length - (intOf i).toNat)
        case atStart => exact ⟨0, .slice none 0 0, [], lf, N, Nat.zero_le _, rfl, rfl, by omega, hG5, hM5, hN5, hC5, Lib.hid (RowB.nil _ _), Lib.hid rfl, Lib.hid rfl⟩
        case round =>
          obtain ⟨j, bv, acc, lf', N', hj, rfl, hacc, hN', hG, hM, hNb, hC, hR, hB1, hB2⟩ := hrel
          have hac100 : acc.length ≤ 100 := by omega
          have HACC := Lib.hid hacc; clear hacc
          have hzq := hG.out.size
          have BQ := Lib.hid (B4.out.trans (below_of_grownBy hG.out (B := w.heap.size) (by omega) (by intro k hk; cases hk; exact Nat.le_refl _)))
          have y0 := hC.out.cell 0; have y1 := hC.out.cell 1; have y2 := hC.out.cell 2; have yf0 := hC.out.fr 0; have yf1 := hC.out.fr 1; have yf2 := hC.out.fr 2
          simp at y0 y1 y2
          have hcl := hC.out.lt
          by_cases hjl : j < str.length
          · obtain ⟨sb, so, rfl, hsc⟩ := HSTR.out.at' (by omega)
            have x0 := hsc j hjl
            have hsb : sb < w.heap.size := World.block_lt_of_cell? w _ x0
            have x1 := (BQ.out.cell (p := ⟨sb, so + j, none⟩) hsb).trans x0
            have hxb := hbd.out str[j] (List.getElem_mem hjl)
            have hdr : str.drop j = str[j] :: str.drop (j + 1) := List.drop_eq_getElem_cons hjl
            have HDR := Lib.hid hdr; clear hdr x0 hsc
            generalize str[j] = x at *
            have hwf : (Lit.int .i64 x).wf = true := wf16 x hxb.1 hxb.2
            have hlk := hM.out.look x hwf
            have E1 := Lib.hid (hB1.out.trans (by rw [HDR.out]; rfl : _ = acc ++ (⟨x, (nn (lf' x)).1, (nn (lf' x)).2⟩ :: bksOf k (putL lf' x ((k : Int), (nn (lf' x)).1)) (str.drop (j + 1)))))
            have E2 := Lib.hid (hB2.out.trans (by rw [HDR.out]; rfl : _ = lastsOf k (putL lf' x ((k : Int), (nn (lf' x)).1)) (str.drop (j + 1))))
            have hu6 : IntKind.u64.wrap (k : Int) = k := by rw [IntKind.wrap_u64]; omega
            have hjl' : (j : Int) < str.length := by omega
            have hj0 : (0 : Int) ≤ (j : Int) := by omega
            have hj100 : (j : Int) < 100 := by omega
            have nb0 := hNb.out.cell 0; have nb1 := hNb.out.cell 1
            simp at nb0 nb1
            have hnl := hNb.out.lt
            obtain ⟨ba, bc, rfl⟩ := hR.out.form
            have HLA := Lib.hid hlk
            cases hlf : lf' x with
            | none =>
              rw [hlf] at hlk E1 E2
              simp only [Option.getD_none, Option.isSome_none] at hlk
              clear HLA
              go_wp2_with (at_builtin; refine list_app rfl (.tmp 49) (.tmp 53) 39 rfl w4.heap.size 69 (.agg #[.int .i64 0, .int .u64 0, .int .u64 0]) 3 24 backInfo Try.underlying39 rfl (by omega) (.slice ba acc.length bc) acc.length (cellsB acc) rfl ((hR.out.alloc _).alloc _) ⟨wr.heap.size + 1, 0, none⟩ 1 1 [.int .i64 x, .int .u64 NN, .int .u64 NN] rfl rfl ?_ ?_ ?_ ?_ ?_ ?_; (intro j' u hj'; match j', hj' with | 0, hj' => (simp at hj'; subst hj'; exact (Blk.newAt (wr.alloc (.cells #[.int .u64 NN, .int .u64 NN] 29)) #[.int .i64 x, .int .u64 NN, .int .u64 NN] 69 (wr.heap.size + 1) (by simp)).cell 0) | 1, hj' => (simp at hj'; subst hj'; exact (Blk.newAt (wr.alloc (.cells #[.int .u64 NN, .int .u64 NN] 29)) #[.int .i64 x, .int .u64 NN, .int .u64 NN] 69 (wr.heap.size + 1) (by simp)).cell 1) | 2, hj' => (simp at hj'; subst hj'; exact (Blk.newAt (wr.alloc (.cells #[.int .u64 NN, .int .u64 NN] 29)) #[.int .i64 x, .int .u64 NN, .int .u64 NN] 69 (wr.heap.size + 1) (by simp)).cell 2)); (intro u hu; simp at hu; rcases hu with rfl | rfl | rfl <;> rfl); (unfold maxLen; omega); (omega); (simp; omega); intro v5 w5 O5 G5; obtain ⟨va, vc, rfl⟩ := row_form O5; have R5 : RowB w5 w4.heap.size (.slice va (acc.length + 1) vc) (acc ++ [⟨x, NN, NN⟩]) := (by unfold RowB; rw [cellsB_append, List.length_append]; exact O5); have C5 := Lib.hid (((hC.out.alloc (.cells #[.int .u64 NN, .int .u64 NN] 29)).alloc (.cells #[.int .i64 x, .int .u64 NN, .int .u64 NN] 69)).grown G5 (ownsRow_ne hR.out hC.out (by decide))); have L5 := Lib.hid (((Blk.new wr #[.int .u64 NN, .int .u64 NN] 29).alloc (.cells #[.int .i64 x, .int .u64 NN, .int .u64 NN] 69)).grown G5 (ownsRow_ne (hR.out.alloc (.cells #[.int .u64 NN, .int .u64 NN] 29)) (Blk.new wr #[.int .u64 NN, .int .u64 NN] 29) (by decide))); have M5 := (((hM.out.alloc (.cells #[.int .u64 NN, .int .u64 NN] 29)).alloc (.cells #[.int .i64 x, .int .u64 NN, .int .u64 NN] 69)).grown G5 (row_notMap hR.out hM.out).symm).far (p := ⟨w4.heap.size, 2, none⟩) (by show w.heap.size ≠ w4.heap.size; omega) (.slice va (acc.length + 1) vc); have HM5 := Lib.hid M5; obtain ⟨w7, hrun, hm7, hg7⟩ := M5.put x hwf ((k : Int), NN) (by unfold maxLen; omega); dsimp only at hrun; have sC := C5.out.cell 2; have sF := C5.out.fr 2; have l0 := L5.out.cell 0; have l1 := L5.out.cell 1; simp at sC l0 l1; have hcl5 := C5.out.lt; have hll5 := L5.out.lt; have HR5 := Lib.hid R5; have HG5 := Lib.hid G5; have HM7 := Lib.hid hm7; have HG7 := Lib.hid hg7; clear R5 G5 M5 hm7 hg7 O5)
              go_roundw
              case rel =>
                have gq : w4.grownBy w5 (some w.heap.size) := grown_row (grownBy_al (grownBy_al hG.out _) _) HG5.out (fun k' hk' => (hR.out.lt k' hk').1)
                have g7 : w4.grownBy w7 (some w.heap.size) := (grownBy_far gq (p := ⟨w4.heap.size, 2, none⟩) (Nat.le_refl _) _).trans HG7.out
                have rs := HR5.out.grown (grownBy_set w5 w4.heap.size 2 (.slice va (acc.length + 1) vc)) (.inr (ownsRow_ne HR5.out C5.out (by decide)).symm)
                refine ⟨j + 1, (.slice va (acc.length + 1) vc), acc ++ [⟨x, NN, NN⟩], _, N' + 1, by omega, by go_num, by simp [HACC.out], by omega, Lib.hid g7, HM7, Lib.hid (HN4.out.grown g7 (by simp)), Lib.hid ((C5.out.set 2 _).grown HG7.out (by simp; omega)), Lib.hid (rs.grown HG7.out (.inr ?_)), Lib.hid ?_, E2⟩
                · exact row_notMap rs HM5.out
                · rw [E1.out]; simp [nn]
              case measure => simp [intOf]; omega
            | some p =>
              rw [hlf] at hlk E1 E2
              simp only [Option.getD_some, Option.isSome_some] at hlk
              clear HLA
              go_wp2_with (at_builtin; refine list_app rfl (.tmp 49) (.tmp 53) 39 rfl w4.heap.size 69 (.agg #[.int .i64 0, .int .u64 0, .int .u64 0]) 3 24 backInfo Try.underlying39 rfl (by omega) (.slice ba acc.length bc) acc.length (cellsB acc) rfl ((hR.out.alloc _).alloc _) ⟨wr.heap.size + 1, 0, none⟩ 1 1 [.int .i64 x, .int .u64 p.1, .int .u64 p.2] rfl rfl ?_ ?_ ?_ ?_ ?_ ?_; (intro j' u hj'; match j', hj' with | 0, hj' => (simp at hj'; subst hj'; exact (Blk.newAt (wr.alloc (.cells #[.int .u64 p.1, .int .u64 p.2] 29)) #[.int .i64 x, .int .u64 p.1, .int .u64 p.2] 69 (wr.heap.size + 1) (by simp)).cell 0) | 1, hj' => (simp at hj'; subst hj'; exact (Blk.newAt (wr.alloc (.cells #[.int .u64 p.1, .int .u64 p.2] 29)) #[.int .i64 x, .int .u64 p.1, .int .u64 p.2] 69 (wr.heap.size + 1) (by simp)).cell 1) | 2, hj' => (simp at hj'; subst hj'; exact (Blk.newAt (wr.alloc (.cells #[.int .u64 p.1, .int .u64 p.2] 29)) #[.int .i64 x, .int .u64 p.1, .int .u64 p.2] 69 (wr.heap.size + 1) (by simp)).cell 2)); (intro u hu; simp at hu; rcases hu with rfl | rfl | rfl <;> rfl); (unfold maxLen; omega); (omega); (simp; omega); intro v5 w5 O5 G5; obtain ⟨va, vc, rfl⟩ := row_form O5; have R5 : RowB w5 w4.heap.size (.slice va (acc.length + 1) vc) (acc ++ [⟨x, p.1, p.2⟩]) := (by unfold RowB; rw [cellsB_append, List.length_append]; exact O5); have C5 := Lib.hid (((hC.out.alloc (.cells #[.int .u64 p.1, .int .u64 p.2] 29)).alloc (.cells #[.int .i64 x, .int .u64 p.1, .int .u64 p.2] 69)).grown G5 (ownsRow_ne hR.out hC.out (by decide))); have L5 := Lib.hid (((Blk.new wr #[.int .u64 p.1, .int .u64 p.2] 29).alloc (.cells #[.int .i64 x, .int .u64 p.1, .int .u64 p.2] 69)).grown G5 (ownsRow_ne (hR.out.alloc (.cells #[.int .u64 p.1, .int .u64 p.2] 29)) (Blk.new wr #[.int .u64 p.1, .int .u64 p.2] 29) (by decide))); have M5 := (((hM.out.alloc (.cells #[.int .u64 p.1, .int .u64 p.2] 29)).alloc (.cells #[.int .i64 x, .int .u64 p.1, .int .u64 p.2] 69)).grown G5 (row_notMap hR.out hM.out).symm).far (p := ⟨w4.heap.size, 2, none⟩) (by show w.heap.size ≠ w4.heap.size; omega) (.slice va (acc.length + 1) vc); have HM5 := Lib.hid M5; obtain ⟨w7, hrun, hm7, hg7⟩ := M5.put x hwf ((k : Int), p.1) (by unfold maxLen; omega); dsimp only at hrun; have sC := C5.out.cell 2; have sF := C5.out.fr 2; have l0 := L5.out.cell 0; have l1 := L5.out.cell 1; simp at sC l0 l1; have hcl5 := C5.out.lt; have hll5 := L5.out.lt; have HR5 := Lib.hid R5; have HG5 := Lib.hid G5; have HM7 := Lib.hid hm7; have HG7 := Lib.hid hg7; clear R5 G5 M5 hm7 hg7 O5)
              go_roundw
              case rel =>
                have gq : w4.grownBy w5 (some w.heap.size) := grown_row (grownBy_al (grownBy_al hG.out _) _) HG5.out (fun k' hk' => (hR.out.lt k' hk').1)
                have g7 : w4.grownBy w7 (some w.heap.size) := (grownBy_far gq (p := ⟨w4.heap.size, 2, none⟩) (Nat.le_refl _) _).trans HG7.out
                have rs := HR5.out.grown (grownBy_set w5 w4.heap.size 2 (.slice va (acc.length + 1) vc)) (.inr (ownsRow_ne HR5.out C5.out (by decide)).symm)
                refine ⟨j + 1, (.slice va (acc.length + 1) vc), acc ++ [⟨x, p.1, p.2⟩], _, N' + 1, by omega, by go_num, by simp [HACC.out], by omega, Lib.hid g7, HM7, Lib.hid (HN4.out.grown g7 (by simp)), Lib.hid ((C5.out.set 2 _).grown HG7.out (by simp; omega)), Lib.hid (rs.grown HG7.out (.inr ?_)), Lib.hid ?_, E2⟩
                · exact row_notMap rs HM5.out
                · rw [E1.out]; simp [nn]
              case measure => simp [intOf]; omega
          · have hjj : j = str.length := by omega
            subst hjj
            have hbs : bksOf k lf str = acc := by rw [hB1.out, List.drop_length]; simp [bksOf]
            have hls : lastsOf k lf str = lf' := by rw [hB2.out, List.drop_length]; rfl
            have HBS := Lib.hid hbs; clear hbs
            rw [hls] at HPD'
            obtain ⟨ba, bc, rfl⟩ := hR.out.form
            have HOQ := Lib.hid (World.ownsRow.kept HO4.out hG.out (.inr (row_notMap HO4.out HM4.out)))
            have HSQ := Lib.hid (HSL4.out.grown hG.out (fun v bs h => .inr (h.notMap HM4.out)))
            have SQ := Lib.hid (S4.out.grown hG.out (by simp; omega))
            have DQ := Lib.hid (D4.out.grown hG.out (by simp; omega))
            clear t0 t1 t2 htl
            have t0 := DQ.out.cell 0; have t1 := DQ.out.cell 1; have t2 := DQ.out.cell 2
            have s0 := SQ.out.cell 0; have s1 := SQ.out.cell 1; have s2 := SQ.out.cell 2; have s3 := SQ.out.cell 3
            have sf1 := SQ.out.fr 1; have sf2 := SQ.out.fr 2; have sf3 := SQ.out.fr 3
            simp at t0 t1 t2 s0 s1 s2 s3
            have htl := DQ.out.lt; have hsl4 := SQ.out.lt
            have hzQ := BQ.out.size
            cases junk with
            | true =>
              have hso : slotOf k lf ⟨str, nd, true⟩ = ⟨1, 2, 0, []⟩ := by unfold slotOf; rw [if_neg (by simp)]
              have HP' := Lib.hid (hP.out.trans (by rw [HPD'.out, hso])); clear hso
              go_wp2_with (at_builtin; refine list_app rfl (.tmp 73) (.tmp 75) 27 rfl w.heap.size 43 (.agg #[.int .i64 0, .int .i64 0, .slice none 0 0, .slice none 0 0]) 4 64 vslotInfo Try.underlying27 rfl (by omega) u5 k cs rfl (ownsRow_below HOQ.out ((Below.refl _ _).alloc (Nat.le_refl _) _)) ⟨wr.heap.size, 0, none⟩ 1 1 [.int .i64 1, .int .i64 2, .slice none 0 0, .slice none 0 0] rfl rfl ?_ ?_ ?_ ?_ ?_ ?_; (intro j u hj; match j, hj with | 0, hj => (simp at hj; subst hj; exact (Blk.newAt wr #[.int .i64 1, .int .i64 2, .slice none 0 0, .slice none 0 0] 43 wr.heap.size rfl).cell 0) | 1, hj => (simp at hj; subst hj; exact (Blk.newAt wr #[.int .i64 1, .int .i64 2, .slice none 0 0, .slice none 0 0] 43 wr.heap.size rfl).cell 1) | 2, hj => (simp at hj; subst hj; exact (Blk.newAt wr #[.int .i64 1, .int .i64 2, .slice none 0 0, .slice none 0 0] 43 wr.heap.size rfl).cell 2) | 3, hj => (simp at hj; subst hj; exact (Blk.newAt wr #[.int .i64 1, .int .i64 2, .slice none 0 0, .slice none 0 0] 43 wr.heap.size rfl).cell 3)); (intro u hu; simp at hu; rcases hu with rfl | rfl | rfl | rfl <;> rfl); (unfold maxLen; omega); (omega); (simp; omega); intro v6 w6 O6 G6; have HO6 := Lib.hid O6; have HG6 := Lib.hid G6; clear O6 G6)
              go_roundw
              case rel =>
                obtain ⟨q1, q2, q3, q4⟩ := push_facts (x := ⟨1, 2, 0, []⟩) (dA := none) (dc := 0) BQ.out hM.out hNb.out (by decide) HOQ.out HSQ.out (RowB.nil _ _) HG6.out
                exact ⟨k + 1, _, dn ++ [⟨1, 2, 0, []⟩], lf', N', by omega, by go_num, by simp [hdn], by omega, q1, Lib.hid q2, Lib.hid q3, Lib.hid HO6.out, Lib.hid q4, Lib.hid (by rw [HP'.out]; simp)⟩
              case measure => simp [intOf]; omega
            | false =>
              have hrt := right_any 1 cA nd cc ba acc.length bc acc wr hR.out.rd
              have HRT := Lib.hid hrt; clear hrt
              go_wp2_with fail
              refine HRT.out.mono ?_
              rintro e w8 ⟨rfl, hb8⟩
              have B8 := Lib.hid (BQ.out.trans (hb8.mono hzQ))
              have HM8 := Lib.hid (hM.out.below hb8); have HN8 := Lib.hid (hNb.out.below hb8); have HO8 := Lib.hid (ownsRow_below HOQ.out hb8); have HSL8 := Lib.hid (HSQ.out.below hb8); have S8 := Lib.hid (SQ.out.below hb8); have C8 := Lib.hid (hC.out.below hb8); have R8 := Lib.hid (hR.out.below hb8)
              clear hb8 s0 s1 s2 s3 sf1 sf2 sf3 hsl4 y0 y1 y2 yf0 yf1 yf2
              have s0 := S8.out.cell 0; have s1 := S8.out.cell 1; have s2 := S8.out.cell 2; have s3 := S8.out.cell 3
              have sf1 := S8.out.fr 1; have sf2 := S8.out.fr 2; have sf3 := S8.out.fr 3
              have y0 := C8.out.cell 0; have y1 := C8.out.cell 1; have y2 := C8.out.cell 2
              simp at s0 s1 s2 s3 y0 y1 y2
              have hsl8 := S8.out.lt; have hcl8 := C8.out.lt
              have hz8 := B8.out.size
              cases hrc : rightC 1 nd acc with
              | false =>
                have hso : slotOf k lf ⟨str, nd, false⟩ = ⟨1, 2, 0, []⟩ := by unfold slotOf; rw [if_neg]; rw [HBS.out]; simp [hrc]
                have HP' := Lib.hid (hP.out.trans (by rw [HPD'.out, hso])); clear hso
                go_wp2_with (at_builtin; refine list_app rfl (.tmp 73) (.tmp 75) 27 rfl w.heap.size 43 (.agg #[.int .i64 0, .int .i64 0, .slice none 0 0, .slice none 0 0]) 4 64 vslotInfo Try.underlying27 rfl (by omega) u5 k cs rfl (ownsRow_below HO8.out ((Below.refl _ _).alloc (Nat.le_refl _) _)) ⟨w8.heap.size, 0, none⟩ 1 1 [.int .i64 1, .int .i64 2, .slice none 0 0, .slice none 0 0] rfl rfl ?_ ?_ ?_ ?_ ?_ ?_; (intro j u hj; match j, hj with | 0, hj => (simp at hj; subst hj; exact (Blk.newAt w8 #[.int .i64 1, .int .i64 2, .slice none 0 0, .slice none 0 0] 43 w8.heap.size rfl).cell 0) | 1, hj => (simp at hj; subst hj; exact (Blk.newAt w8 #[.int .i64 1, .int .i64 2, .slice none 0 0, .slice none 0 0] 43 w8.heap.size rfl).cell 1) | 2, hj => (simp at hj; subst hj; exact (Blk.newAt w8 #[.int .i64 1, .int .i64 2, .slice none 0 0, .slice none 0 0] 43 w8.heap.size rfl).cell 2) | 3, hj => (simp at hj; subst hj; exact (Blk.newAt w8 #[.int .i64 1, .int .i64 2, .slice none 0 0, .slice none 0 0] 43 w8.heap.size rfl).cell 3)); (intro u hu; simp at hu; rcases hu with rfl | rfl | rfl | rfl <;> rfl); (unfold maxLen; omega); (omega); (simp; omega); intro v6 w6 O6 G6; have HO6 := Lib.hid O6; have HG6 := Lib.hid G6; clear O6 G6)
                go_roundw
                case rel =>
                  obtain ⟨q1, q2, q3, q4⟩ := push_facts (x := ⟨1, 2, 0, []⟩) (dA := none) (dc := 0) B8.out HM8.out HN8.out (by decide) HO8.out HSL8.out (RowB.nil _ _) HG6.out
                  exact ⟨k + 1, _, dn ++ [⟨1, 2, 0, []⟩], lf', N', by omega, by go_num, by simp [hdn], by omega, q1, Lib.hid q2, Lib.hid q3, Lib.hid HO6.out, Lib.hid q4, Lib.hid (by rw [HP'.out]; simp)⟩
                case measure => simp [intOf]; omega
              | true =>
                have hso : slotOf k lf ⟨str, nd, false⟩ = ⟨1, 1, nd, acc⟩ := by unfold slotOf; rw [HBS.out, if_pos ⟨HOKM.out, rfl, hrc⟩]
                have HP' := Lib.hid (hP.out.trans (by rw [HPD'.out, hso])); clear hso
                have g9 : w8.grownBy (((w8.setCell ⟨(TB + 1), 1, none⟩ (.int .i64 1)).setCell ⟨(TB + 1), 2, none⟩ (.slice cA nd cc)).setCell ⟨(TB + 1), 3, none⟩ (.slice ba acc.length bc)) (some (TB + 1)) := grownBy_st (grownBy_st (grownBy_set w8 (TB + 1) 1 _) 2 _) 3 _
                have B9 := Lib.hid (below_far (below_far (below_far B8.out (p := ⟨(TB + 1), 1, none⟩) (by show w.heap.size ≤ (TB + 1); omega) (.int .i64 1)) (p := ⟨(TB + 1), 2, none⟩) (by show w.heap.size ≤ (TB + 1); omega) (.slice cA nd cc)) (p := ⟨(TB + 1), 3, none⟩) (by show w.heap.size ≤ (TB + 1); omega) (.slice ba acc.length bc))
                have HM9 := Lib.hid (HM8.out.grown g9 (by simp; omega)); have HN9 := Lib.hid (HN8.out.grown g9 (by simp; omega)); have HO9 := Lib.hid (World.ownsRow.kept HO8.out g9 (.inr (fun e => by have := HNE.out _ e; omega))); have HSL9 := Lib.hid (HSL8.out.grown g9 (fun v bs h => .inr (ownsRow_ne h S8.out (by decide)).symm)); have R9 := Lib.hid ((R8.out.grown g9 (.inr (ownsRow_ne R8.out S8.out (by decide)).symm)))
                clear g9
                go_wp2_with (at_builtin; refine list_app rfl (.tmp 73) (.tmp 75) 27 rfl w.heap.size 43 (.agg #[.int .i64 0, .int .i64 0, .slice none 0 0, .slice none 0 0]) 4 64 vslotInfo Try.underlying27 rfl (by omega) u5 k cs rfl (ownsRow_below HO9.out ((Below.refl _ _).alloc (Nat.le_refl _) _)) ⟨w8.heap.size, 0, none⟩ 1 1 [.int .i64 1, .int .i64 1, .slice cA nd cc, .slice ba acc.length bc] rfl rfl ?_ ?_ ?_ ?_ ?_ ?_; (intro j u hj; match j, hj with | 0, hj => (simp at hj; subst hj; exact (Blk.newAt (((w8.setCell ⟨(TB + 1), 1, none⟩ (.int .i64 1)).setCell ⟨(TB + 1), 2, none⟩ (.slice cA nd cc)).setCell ⟨(TB + 1), 3, none⟩ (.slice ba acc.length bc)) #[.int .i64 1, .int .i64 1, .slice cA nd cc, .slice ba acc.length bc] 43 w8.heap.size (by simp [World.setCell])).cell 0) | 1, hj => (simp at hj; subst hj; exact (Blk.newAt (((w8.setCell ⟨(TB + 1), 1, none⟩ (.int .i64 1)).setCell ⟨(TB + 1), 2, none⟩ (.slice cA nd cc)).setCell ⟨(TB + 1), 3, none⟩ (.slice ba acc.length bc)) #[.int .i64 1, .int .i64 1, .slice cA nd cc, .slice ba acc.length bc] 43 w8.heap.size (by simp [World.setCell])).cell 1) | 2, hj => (simp at hj; subst hj; exact (Blk.newAt (((w8.setCell ⟨(TB + 1), 1, none⟩ (.int .i64 1)).setCell ⟨(TB + 1), 2, none⟩ (.slice cA nd cc)).setCell ⟨(TB + 1), 3, none⟩ (.slice ba acc.length bc)) #[.int .i64 1, .int .i64 1, .slice cA nd cc, .slice ba acc.length bc] 43 w8.heap.size (by simp [World.setCell])).cell 2) | 3, hj => (simp at hj; subst hj; exact (Blk.newAt (((w8.setCell ⟨(TB + 1), 1, none⟩ (.int .i64 1)).setCell ⟨(TB + 1), 2, none⟩ (.slice cA nd cc)).setCell ⟨(TB + 1), 3, none⟩ (.slice ba acc.length bc)) #[.int .i64 1, .int .i64 1, .slice cA nd cc, .slice ba acc.length bc] 43 w8.heap.size (by simp [World.setCell])).cell 3)); (intro u hu; simp at hu; rcases hu with rfl | rfl | rfl | rfl <;> rfl); (unfold maxLen; omega); (omega); (simp; omega); intro v6 w6 O6 G6; have HO6 := Lib.hid O6; have HG6 := Lib.hid G6; clear O6 G6)
                go_roundw
                case rel =>
                  obtain ⟨q1, q2, q3, q4⟩ := push_facts (x := ⟨1, 1, nd, acc⟩) (dA := cA) (dc := cc) B9.out HM9.out HN9.out (by decide) HO9.out HSL9.out (ownsRow_base R9.out (by omega)) HG6.out
                  exact ⟨k + 1, _, dn ++ [⟨1, 1, nd, acc⟩], lf', N', by omega, by go_num, by simp [hdn], by omega, q1, Lib.hid q2, Lib.hid q3, Lib.hid HO6.out, Lib.hid q4, Lib.hid (by rw [HP'.out]; simp)⟩
                case measure => simp [intOf]; omega
    · have hkk : k = n := by omega
      subst hkk
      have E : buildP 0 (fun _ => none) ms = dn := by rw [hP.out, List.drop_of_length_le (by omega)]; simp [buildP]
      have E' := Lib.hid E; have HB := Lib.hid hb; clear E hb
      obtain ⟨oa, oc, rfl⟩ := row_form ho.out
      go_wp2
      go_ret
      exact ⟨oa, oc, cs, rfl, ho.out, by rw [E'.out]; exact hsl.out, HB.out⟩
end Go.Proofs.Ytjalhcfphhdcbaa
