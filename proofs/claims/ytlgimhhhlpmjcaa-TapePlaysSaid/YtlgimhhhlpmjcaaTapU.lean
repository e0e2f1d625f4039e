/- The tape: lay. -/
import Derived.Test.YtlgimhhhlpmjcaaTapS
set_option linter.unusedVariables false
set_option linter.unusedSimpArgs false
namespace Go.Proofs.Ytlgimhhhlpmjcaa
open Go.RowKit Go.Maps Go.WideMaps Go.Shelf
attribute [local go_sem] Oper.semAt_some

theorem Sub8.foot {w : World} {base : Nat} {v : Value} {xs : Bs} (h : Sub8 w base v xs) : ∀ j, v.ownBlock = some j → base ≤ j := by
  intro j hj
  rcases h with ⟨rfl, _⟩ | ⟨g, off, c, cur, rfl, h1, _⟩
  · cases hj
  · cases hj; exact h1
/-- Sectors laid one behind the other. -/
def layL (df : Int → Option Sec) (pos : Nat) (l : List Sec) : Int → Option Sec := fun i => if (pos : Int) ≤ i ∧ i < pos + l.length then l[(i - pos).toNat]? else df i
theorem layL_nil (df : Int → Option Sec) (pos : Nat) : layL df pos [] = df := by
  funext i
  simp only [layL]
  rw [if_neg (by rintro ⟨a, b⟩; simp at b; omega)]
theorem layL_snoc (df : Int → Option Sec) (pos : Nat) (l : List Sec) (s : Sec) : layL df pos (l ++ [s]) = putL (layL df pos l) ((pos + l.length : Nat) : Int) s := by
  funext i
  simp only [layL, putL]
  by_cases h : i = ((pos + l.length : Nat) : Int)
  · subst h
    rw [if_pos (by simp; omega), if_pos rfl, show (((pos + l.length : Nat) : Int) - (pos : Int)).toNat = l.length by omega]
    simp
  · rw [if_neg h]
    by_cases h2 : (pos : Int) ≤ i ∧ i < pos + l.length
    · rw [if_pos h2, if_pos (by simp; omega), List.getElem?_append_left (by omega)]
    · rw [if_neg h2, if_neg (by simp; omega)]
def chS (xs : Bs) (k : Nat) : Sec := fillS ((xs.drop (64 * k)).take (chL xs.length k))
def layB (p : TD) : Bs := ((halfB p.n p.sf p.df (placeH p)).take (placeU p)).drop (placeU p / 64 * 64) ++ framesB p.W
def layP (p : TD) : TD := { p with df := layL p.df (1 + placeH p * secs p.n + placeU p / 64) ((List.range (((layB p).length + 63) / 64)).map (chS (layB p))) }

set_option maxRecDepth 100000 in
set_option maxHeartbeats 4000000 in
theorem lay_any (t d sb mb : Nat) (F : Nat → Prop) (p : TD) (w : World) (H : TapeIs w F t d sb mb p) :
    Calls Try.prog 58 #[.pointer (some ⟨t, 0, none⟩)] w fun e w' => (∃ v, e = .returned v) ∧ TPost w F t d sb mb (layP p) w' := by
  have HH := Lib.hid H
  obtain ⟨A, c, A', c', K, R, R', hd⟩ := H.open
  have h1 := H.ok.h1
  have hn3 := H.ok.n3
  have hph : placeH p ≤ 1 := by unfold placeH; split <;> omega
  have hpu : placeU p ≤ allB p.n := by unfold placeU; have := H.ok.fitL; split <;> omega
  have hab := allB_le H.small
  have hfw := H.ok.fitW
  have hfit : placeU p + sizeB p.W ≤ allB p.n := by unfold placeU; exact hfw
  have hrw := H.ok.rw
  have HK := Lib.hid K; have HR' := Lib.hid R'
  have HRW := Lib.hid (fun x hx => by have := (hrw x hx).1; simp [rightB] at this; exact this.1 : ∀ x ∈ p.W, 0 < x.length)
  have HFIT := Lib.hid hfit
  obtain ⟨h, hh⟩ : ∃ h, placeH p = h := ⟨_, rfl⟩
  obtain ⟨u, hu⟩ : ∃ u, placeU p = u := ⟨_, rfl⟩
  rw [hh] at hph
  rw [hu] at hpu hfit
  have HPH := Lib.hid hh; have HPU := Lib.hid hu
  have HTD := Lib.hid H.td
  clear H K R R' hd hfw hrw hh hu
  have hbig : u ≤ 32704 := by omega
  have hsw : sizeB p.W ≤ 32704 := by omega
  have HSW := Lib.hid hsw; clear hsw
  refine callsIn_wide.1 (callsIn_of_wp_marks (n := 5) Try.func58 rfl trivial ?_ rfl)
  simp only [Try.ntmps58, List.size_toArray, List.length_cons, List.length_nil, Nat.reduceAdd, Nat.reduceSub, Array.replicate_succ, Array.replicate_zero, List.push_toArray, List.append_toArray, List.nil_append, List.cons_append]
  refine wpIn_wide.2 ?_
  go_wp2_with fail
  refine (place_any t d sb mb F p _ (HH.out.below (balloc (Below.refl w.heap.size w) (.cells #[.pointer (some ⟨t, 0, none⟩)] 28)))).mono ?_
  rintro e w2 ⟨rfl, B2⟩
  rw [HPH.out, HPU.out]
  have G1 := Lib.hid ((Blk.new w #[.pointer (some ⟨t, 0, none⟩)] 28).below B2)
  have HB2 := Lib.hid (bthen (balloc (Below.refl w.heap.size w) (.cells #[.pointer (some ⟨t, 0, none⟩)] 28)) B2)
  have z2 := HB2.out.size
  obtain ⟨g1, hg1⟩ : ∃ g1, g1 = w.heap.size := ⟨_, rfl⟩
  rw [← hg1] at G1 ⊢
  have HG1 := Lib.hid hg1; clear hg1 B2
  -- the half's variable
  have k1 := G1.out.cell 0
  simp at k1
  have l1 := G1.out.lt
  go_wp2_with fail
  have G1' := Lib.hid (G1.out.alloc (.cells #[.int .i64 h] 3))
  have G2 := Lib.hid (Blk.new w2 #[.int .i64 h] 3)
  have HB3 := Lib.hid (balloc HB2.out (.cells #[.int .i64 h] 3))
  generalize w2.alloc (.cells #[.int .i64 h] 3) = w3 at G1' G2 HB3 ⊢
  generalize w2.heap.size = g2 at G2 ⊢
  clear k1 l1 G1 HB2 z2
  have KT := Lib.hid (HK.out.below HB3.out)
  have a1 := G1'.out.cell 0; have a2 := G2.out.cell 0; have a3 := KT.out.cell 4
  simp [TC] at a1 a2 a3
  have l1 := G1'.out.lt; have l2 := G2.out.lt; have l3 := KT.out.lt
  have X3 := Lib.hid (bdrew (Below.refl w3.heap.size w3))
  have hlen : ((halfB p.n p.sf p.df h).take u).length = u := by
    have := halfTo_len HTD.out hn3 hph (secs p.n) (Nat.le_refl _)
    unfold allB at hpu
    unfold halfB
    simp; omega
  have HLN := Lib.hid hlen; have HLN0 := Lib.hid hlen; clear hlen
  have hcon : ∀ W, Below w3.heap.size w3 W → Calls Try.prog 52 #[.pointer (some ⟨t, 0, none⟩), .int .i64 h, .int .i64 u] W fun e w' => ∃ v, e = .returned v ∧ Own8 w' W.heap.size v ((halfB p.n p.sf p.df h).take u) ∧ Below w3.heap.size w3 w' ∧ Below W.heap.size W w' := fun W hW =>
    (content_any t d sb mb p.n p.sf p.df h u W ((HTD.out.below HB3.out).below hW) hn3 hph hpu).mono fun e w' hx => by
      obtain ⟨v, x1, x2, x3⟩ := hx
      exact ⟨v, x1, x2, bthen hW x3, x3⟩
  have HCON := Lib.hid hcon; clear hcon
  have hfr : ∀ W, Below w3.heap.size w3 W → Calls Try.prog 83 #[.slice A' p.W.length c'] W fun e w' => ∃ v, e = .returned v ∧ Own8 w' W.heap.size v (framesB p.W) ∧ Below w3.heap.size w3 w' ∧ Below W.heap.size W w' := fun W hW =>
    (frames_any A' p.W.length c' p.W W ((HR'.out.rd.below HB3.out).below hW) HRW.out (by have := HSW.out; omega)).mono fun e w' hx => by
      obtain ⟨v, x1, x2, x3⟩ := hx
      exact ⟨v, x1, x2, bthen hW x3, x3⟩
  have HFRM := Lib.hid hfr; clear hfr
  have hq0 : (0 : Int) ≤ (u : Int) / 64 * 64 := by omega
  have hq1 : (u : Int) / 64 * 64 ≤ u := by omega
  have hwq : IntKind.i64.wrap ((u : Int) / 64 * 64) = ((u / 64 * 64 : Nat) : Int) := by rw [IntKind.wrap_i64]; omega
  have hqn : u / 64 * 64 ≤ u := by omega
  have HTN := Lib.hid (show ((u : Int) / 64 * 64).toNat = u / 64 * 64 by omega)
  have hfl : (framesB p.W).length = sizeB p.W := framesB_len _
  have HFL := Lib.hid hfl; clear hfl
  go_region_held3 (fun W => W.cell? ⟨g1, 0, none⟩ = some (.pointer (some ⟨t, 0, none⟩)) ∧ W.cell? ⟨g2, 0, none⟩ = some (.int .i64 h) ∧ W.cell? ⟨t, 4, none⟩ = some (.slice A' p.W.length c')) (first | exact ⟨r1, r2, r3⟩ | go_keep)
    (first
      | (go_at_call 52; refine (HCON.out _ ?_).mono ?_; (exact X3.out); rintro e w4 ⟨v4, rfl, O4, hA4, hB4⟩; obtain ⟨ca, cc, rfl⟩ := O4.form; rw [HLN.out] at O4 ⊢
         have r1 := (hA4.cell (p := ⟨g1, 0, none⟩) l1).trans a1; have r2 := (hA4.cell (p := ⟨g2, 0, none⟩) l2).trans a2; have r3 := (hA4.cell (p := ⟨t, 4, none⟩) l3).trans a3
         have hcc := O4.cap.1; have hccm := O4.cap.2; unfold maxLen at hccm
         have hcq : (u : Int) / 64 * 64 ≤ cc := by omega
         obtain ⟨sv, hsv⟩ : ∃ sv, (if cc = u / 64 * 64 then ca else Option.map (fun x => x.add (u / 64 * 64)) ca) = sv := ⟨_, rfl⟩
         have HSV := Lib.hid hsv; clear hsv
         have HO4 := Lib.hid O4; have HA4 := Lib.hid hA4; clear O4 hA4 hB4)
      | (go_at_call 83; refine (HFRM.out _ ?_).mono ?_; (exact HA4.out); rintro e w5 ⟨v5, rfl, O5, hA5, hB5⟩; obtain ⟨fa, fc, rfl⟩ := O5.form; rw [HFL.out] at O5 ⊢
         have r1 := (hA5.cell (p := ⟨g1, 0, none⟩) l1).trans a1; have r2 := (hA5.cell (p := ⟨g2, 0, none⟩) l2).trans a2; have r3 := (hA5.cell (p := ⟨t, 4, none⟩) l3).trans a3
         have HO5 := Lib.hid O5; have HA5 := Lib.hid hA5; have O45 := (HO4.out.below hB5).sub (u / 64 * 64) (by omega); rw [HSV.out] at O45; have HO45 := Lib.hid O45; clear O5 hA5 hB5 O45
         have RDF := Lib.hid HO5.out.rd; have HBD := Lib.hid (show (((halfB p.n p.sf p.df h).take u).drop (u / 64 * 64)).length + sizeB p.W ≤ 1000000 by have := HSW.out; rw [List.length_drop, HLN.out]; omega)
         simp only [HTN.out, HSV.out])
      | (refine step_app_sub rfl (.tmp 21) (.tmp 26) rfl (v := .slice sv (u - u / 64 * 64) (cc - u / 64 * 64)) rfl HO45.out fa (sizeB p.W) fc rfl RDF.out HBD.out ?_
         intro A6 n6 c6 w6 RD6 G6 q6 q6m
         have HB6 := Lib.hid (HA5.out.grown G6 HA5.out.size (fun j hj => HO45.out.foot j hj))
         have r1 := (HB6.out.cell (p := ⟨g1, 0, none⟩) l1).trans a1; have r2 := (HB6.out.cell (p := ⟨g2, 0, none⟩) l2).trans a2; have r3 := (HB6.out.cell (p := ⟨t, 4, none⟩) l3).trans a3
         have HRD6 := Lib.hid RD6; clear RD6 G6))
  have L1 := Lib.hid (G1'.out.below HB6.out); have L2 := Lib.hid (G2.out.below HB6.out); have KT6 := Lib.hid (KT.out.below HB6.out)
  have HB06 := Lib.hid (bthen HB3.out HB6.out)
  have hLB : ((halfB p.n p.sf p.df h).take u).drop (u / 64 * 64) ++ framesB p.W = layB p := by unfold layB; rw [HPH.out, HPU.out]
  rw [hLB] at HRD6
  clear r1 r2 r3 a1 a2 a3 l1 l2 l3 HCON HFRM X3 HLN HO4 HA4 HO5 HA5 HO45 RDF HBD HTN HFL G1' G2 KT HB3 hLB HSV hcc hccm hcq hwq hqn hq0 hq1
  go_wp2_with fail
  refine (chunk_any _ _ _ _).mono ?_
  rintro e w8 ⟨rfl, hw8⟩
  have hn6 : n6 = (layB p).length := HRD6.out.len.symm
  have hN : n6 ≤ 1000000 := by
    rw [hn6]
    unfold layB
    rw [HPH.out, HPU.out, List.length_append, framesB_len]
    have := HSW.out
    simp; omega
  obtain ⟨b, off, hA⟩ : ∃ b off, 0 < n6 → A6 = some ⟨b, off, none⟩ := by
    by_cases h0 : 0 < n6
    · obtain ⟨b, off, e, _⟩ := HRD6.out.at' h0
      exact ⟨b, off, fun _ => e⟩
    · exact ⟨0, 0, fun h => absurd h h0⟩
  have Z7 := Lib.hid (balloc (Below.refl w6.heap.size w6) (.cells #[.int .i64 ((u : Int) / 64)] 3))
  have B8 : Below w6.heap.size w6 w8 := by rw [hw8]; exact balloc (balloc (balloc (Below.refl w6.heap.size w6) _) _) _
  have T1 : Blk w8 (w6.heap.size + 1) #[.slice A6 n6 c6] 31 := by rw [hw8]; exact (Blk.newAt (w6.alloc _) _ _ _ (by simp)).alloc _
  have T2 : Blk w8 (w6.heap.size + 2) #[.int .i64 64] 3 := by rw [hw8]; exact Blk.newAt ((w6.alloc _).alloc _) _ _ _ (by simp)
  have T6 : Blk w8 w6.heap.size #[.int .i64 ((u : Int) / 64)] 3 := by rw [hw8]; exact ((Blk.new w6 _ _).alloc _).alloc _
  have sz7 : (w6.alloc (.cells #[.int .i64 ((u : Int) / 64)] 3)).heap.size = w6.heap.size + 1 := by simp
  rw [sz7]
  have HB8 := Lib.hid B8; have HT1 := Lib.hid T1; have HT2 := Lib.hid T2; have HT6 := Lib.hid T6; have HA6 := Lib.hid hA; have HN6 := Lib.hid hn6
  clear hw8 B8 T1 T2 T6 sz7 hA hn6 Z7
  obtain ⟨g6, hg6⟩ : ∃ g6, g6 = w6.heap.size := ⟨_, rfl⟩
  rw [← hg6] at HT1 HT2 HT6 ⊢
  have HG6 := Lib.hid hg6; clear hg6
  go_wp2_with fail
  have hseq := chunk_stops A6 b off n6 c6 (g6 + 1) (g6 + 1 + 1) w8 HA6.out hN q6 q6m HT1.out HT2.out
  have B08 := bthen HB06.out HB8.out
  obtain ⟨dl1, dl2, dl3⟩ := HTD.out.disk.lt
  have z8 := B08.size
  have l61 := HT1.out.lt; have l62 := HT2.out.lt; have l66 := HT6.out.lt
  have hmb : ∀ g cs tt, Blk w8 g cs tt → g ≠ mb := fun g cs tt hb => (HTD.out.disk.below B08).map.ne hb
  have HMB := Lib.hid hmb
  clear hmb
  have HB08 := Lib.hid B08; clear B08
  refine (wpIn_wide (n := 6)).1 (wpIn_rangeFunc_ownG (F := Fence.wide) (n := 6) (α := Ck n6) rfl (by omega) (gf := 94) (lb := #[.pointer (some ⟨g6 + 1, 0, none⟩), .pointer (some ⟨g6 + 1 + 1, 0, none⟩)]) rfl trivial
    (enters_of Try.func94 (by kernel_rfl) rfl) hseq (fun h k => ⟨k.1.trans h.1, k.2.trans h.2⟩) (fun W l o o' hl _ _ _ => ⟨World.putObj_heap_other (by omega), World.putObj_heap_other (by omega)⟩) (Below.refl _ _) (fun _ => rfl)
    (fun pre W => Kept w8 W (fun k => k = mb ∨ k = g6) ∧ DiskIs W d sb mb p.n p.sf (layL p.df (1 + h * secs p.n + u / 64) (pre.map fun x => chS (layB p) x.1)) ∧ Blk W g6 #[.int .i64 ((u / 64 + pre.length : Nat) : Int)] 3)
    (fun _ _ _ => False) ?_ (fun _ _ _ _ _ hs _ _ => hs) ?_
    (fun x => { tmps := #[.pointer (some ⟨t, 0, none⟩), .pointer (some ⟨g1, 0, none⟩), .pointer (some ⟨g2, 0, none⟩), .int .i64 ((u : Int)), .int .i64 ((u : Int) / 64), .slice A6 n6 c6, .pointer (some ⟨g6, 0, none⟩), .slice (some ⟨b, off + 64 * x.1, none⟩) (chL n6 x.1) (chL n6 x.1), .tuple #[(.int .i64 ((h : Int))), (.int .i64 ((u : Int)))], .pointer (some ⟨t, 0, none⟩), .tuple #[(.int .i64 ((h : Int))), (.int .i64 ((u : Int)))], .int .i64 ((h : Int)), .int .i64 ((u : Int)), .int .i64 ((u : Int)), .int .i64 ((u : Int) / 64), .pointer (some ⟨t, 0, none⟩), .int .i64 ((h : Int)), .int .i64 ((u : Int)), .slice ca u cc, .int .i64 ((u : Int) / 64), .int .i64 ((u : Int) / 64 * 64), .slice sv (u - u / 64 * 64) (cc - u / 64 * 64), .pointer (some ⟨t, 0, none⟩), .pointer (some ⟨t, 0, none⟩), .pointer (some ⟨t, 4, none⟩), .slice A' p.W.length c', .slice fa (sizeB p.W) fc, .slice A6 n6 c6, .int .i64 ((u : Int) / 64), .slice A6 n6 c6, .func (.func 94) #[] #[(.pointer (some ⟨g6 + 1, 0, none⟩)), (.pointer (some ⟨g6 + 1 + 1, 0, none⟩))], .slice (some ⟨b, off + 64 * x.1, none⟩) (chL n6 x.1) (chL n6 x.1), undef, undef, undef, undef, undef, undef, undef, undef, undef, undef, undef, undef, undef], defers := [] }) ?assign ?body ?done ?stop)
  · rintro pre W W' row ⟨i1, i2, i3⟩ hg hr
    refine ⟨i1.trans2 (Kept.of_grown (S := fun k => row = some k) hg (fun k e => e)) (fun k hk hS => absurd (hr k hS).1 (by omega)), i2.keep (hg.block d i2.lt.1 (fun e => by have := (hr d e.symm).1; omega)) (hg.block sb i2.lt.2.1 (fun e => by have := (hr sb e.symm).1; omega)) (hg.block mb i2.lt.2.2 (fun e => by have := (hr mb e.symm).1; omega)), i3.keep (hg.block g6 i3.lt (fun e => by have := (hr g6 e.symm).1; omega))⟩
  · refine ⟨Kept.refl _ _, ?_, ?_⟩
    · rw [List.map_nil, layL_nil]; exact HTD.out.disk.below HB08.out
    · have := HT6.out
      simpa using this
  case assign =>
    intro l x W K hK
    dsimp only [chV]
    gi_wp2
    exact hK
  case body =>
    rintro l pre x W ⟨hK, hD, hB⟩ hlen
    obtain ⟨i, hi⟩ : ∃ i, u / 64 + pre.length = i := ⟨_, rfl⟩
    rw [hi] at hB
    have HI := Lib.hid hi
    have hNN := HN6.out
    have hnl : n6 = (u - u / 64 * 64) + sizeB p.W := by
      rw [hNN]
      unfold layB
      rw [HPH.out, HPU.out, List.length_append, framesB_len, List.length_drop, HLN0.out]
    have his : i < secs p.n := by
      unfold allB at hfit
      omega
    have hidx := sec_in hn3 hph his
    have q1 : W.cell? ⟨g1, 0, none⟩ = some (.pointer (some ⟨t, 0, none⟩)) := by
      have := ((L1.out.below HB8.out).kept hK (by rintro (e | e); exact HMB.out g1 _ _ (L1.out.below HB8.out) e; have := L1.out.lt; have := HG6.out; omega)).cell 0
      simpa using this
    have q2 : W.cell? ⟨g2, 0, none⟩ = some (.int .i64 h) := by
      have := ((L2.out.below HB8.out).kept hK (by rintro (e | e); exact HMB.out g2 _ _ (L2.out.below HB8.out) e; have := L2.out.lt; have := HG6.out; omega)).cell 0
      simpa using this
    have KTW := Lib.hid ((KT6.out.below HB8.out).kept hK (by rintro (e | e); exact HMB.out t _ _ (KT6.out.below HB8.out) e; have := KT6.out.lt; have := HG6.out; omega))
    have q3 := KTW.out.cell 0
    simp [TC] at q3
    have q4 := hB.cell 0; have q5 := hB.fr 0
    simp at q4
    have lg1 := World.block_lt_of_cell? W _ q1; have lg2 := World.block_lt_of_cell? W _ q2; have lt' := KTW.out.lt; have lg6 := hB.lt
    have hxlt := x.2
    have hAe := HA6.out (by omega)
    have rd6 : RdU8 w6 (some ⟨b, off + 64 * x.1, none⟩) (chL n6 x.1) (((layB p).drop (64 * x.1)).take (chL n6 x.1)) := by
      have := HRD6.out
      rw [hAe] at this
      exact this.cut (64 * x.1) (chL n6 x.1) (by unfold chL; split <;> omega)
    have hbmb : b ≠ mb := by
      obtain ⟨b', o', e, hlt, hc⟩ := rd6.at' (by unfold chL; split <;> omega)
      cases e
      rintro rfl
      have hc0 := hc 0 (by have := rd6.len; rw [this]; unfold chL; split <;> omega)
      obtain ⟨D, ⟨es, clock, hm, _⟩, _⟩ := (HTD.out.disk.below HB06.out).map
      simp [World.cell?, hm] at hc0
    have hblt : b < w6.heap.size := by
      obtain ⟨b', o', e, hlt, hc⟩ := rd6.at' (by unfold chL; split <;> omega)
      cases e; exact hlt
    have rdW : RdU8 W (some ⟨b, off + 64 * x.1, none⟩) (chL n6 x.1) (((layB p).drop (64 * x.1)).take (chL n6 x.1)) :=
      (rd6.below HB8.out).keep (fun b' o' e hlt => by cases e; exact hK.block b hlt (by rintro (e | e); exact hbmb e; have := HG6.out; omega)) hK.size
    have HRW := Lib.hid rdW
    obtain ⟨s, hs⟩ : ∃ s, fillS (((layB p).drop (64 * x.1)).take (chL n6 x.1)) = s := ⟨_, rfl⟩
    have hs64 : s.length = 64 := by rw [← hs]; exact fillS_len _
    have hcs : chS (layB p) x.1 = s := by unfold chS; rw [← hNN]; exact hs
    have HS := Lib.hid hs; have HS64 := Lib.hid hs64; have HCS := Lib.hid hcs
    have HID := Lib.hid hidx; have HKW := Lib.hid hK; have HDW := Lib.hid hD; have HBW := Lib.hid hB
    have dmb := hD.ne; have tmb := (hD.ne_blk KTW.out (by decide) (by decide)).2.2
    have g1mb := HMB.out g1 _ _ (L1.out.below HB8.out); have g2mb := HMB.out g2 _ _ (L2.out.below HB8.out); have g6mb := HMB.out g6 _ _ HT6.out
    have hS0 : (fun W' => W'.cell? ⟨g1, 0, none⟩ = some (.pointer (some ⟨t, 0, none⟩)) ∧ W'.cell? ⟨g2, 0, none⟩ = some (.int .i64 h) ∧ W'.cell? ⟨t, 0, none⟩ = some (.pointer (some ⟨d, 0, none⟩)) ∧ W'.cell? ⟨g6, 0, none⟩ = some (.int .i64 (i : Int))) W.drew := ⟨q1, q2, q3, q4⟩
    clear hi hnl rd6 rdW hs hcs hK hD hB hs64 hAe hblt hNN
    gi_wp2
    refine region_round (S := (fun W' => W'.cell? ⟨g1, 0, none⟩ = some (.pointer (some ⟨t, 0, none⟩)) ∧ W'.cell? ⟨g2, 0, none⟩ = some (.int .i64 h) ∧ W'.cell? ⟨t, 0, none⟩ = some (.pointer (some ⟨d, 0, none⟩)) ∧ W'.cell? ⟨g6, 0, none⟩ = some (.int .i64 (i : Int)))) (by kernel_rfl) (by kernel_rfl) ?_
    refine wpAnyH_take (i := 0) (v := .pointer (some ⟨t, 0, none⟩)) rfl (by kernel_rfl) (by kernel_rfl) (by kernel_rfl) (fun c a w h => by cases h.1) (Or.inl ⟨by rfl, fun W1 hW1 => ?_⟩) hS0 ?_
    · obtain ⟨s1, s2, s3, s4⟩ := hW1
      go_simp
    simp only [Act.put, List.setIfInBounds_toArray, List.set_cons_zero, List.set_cons_succ]
    refine wpAnyH_take (i := 1) (v := .pointer (some ⟨t, 0, none⟩)) rfl (by kernel_rfl) (by kernel_rfl) (by kernel_rfl) (fun c a w h => by cases h.1) (Or.inl ⟨by rfl, fun W1 hW1 => ?_⟩) hS0 ?_
    · obtain ⟨s1, s2, s3, s4⟩ := hW1
      go_simp
    simp only [Act.put, List.setIfInBounds_toArray, List.set_cons_zero, List.set_cons_succ]
    refine wpAnyH_take (i := 2) (v := .pointer (some ⟨t, 0, none⟩)) rfl (by kernel_rfl) (by kernel_rfl) (by kernel_rfl) (fun c a w h => by cases h.1) (Or.inl ⟨by rfl, fun W1 hW1 => ?_⟩) hS0 ?_
    · obtain ⟨s1, s2, s3, s4⟩ := hW1
      go_simp
    simp only [Act.put, List.setIfInBounds_toArray, List.set_cons_zero, List.set_cons_succ]
    refine wpAnyH_take (i := 3) (v := .pointer (some ⟨d, 0, none⟩)) rfl (by kernel_rfl) (by kernel_rfl) (by kernel_rfl) (fun c a w h => by cases h.1) (Or.inl ⟨by rfl, fun W1 hW1 => ?_⟩) hS0 ?_
    · obtain ⟨s1, s2, s3, s4⟩ := hW1
      go_simp
    simp only [Act.put, List.setIfInBounds_toArray, List.set_cons_zero, List.set_cons_succ]
    refine wpAnyH_take (i := 4) (v := .pointer (some ⟨t, 0, none⟩)) rfl (by kernel_rfl) (by kernel_rfl) (by kernel_rfl) (fun c a w h => by cases h.1) (Or.inl ⟨by rfl, fun W1 hW1 => ?_⟩) hS0 ?_
    · obtain ⟨s1, s2, s3, s4⟩ := hW1
      go_simp
    simp only [Act.put, List.setIfInBounds_toArray, List.set_cons_zero, List.set_cons_succ]
    refine wpAnyH_take (i := 5) (v := .int .i64 h) rfl (by kernel_rfl) (by kernel_rfl) (by kernel_rfl) (fun c a w h => by cases h.1) (Or.inl ⟨by rfl, fun W1 hW1 => ?_⟩) hS0 ?_
    · obtain ⟨s1, s2, s3, s4⟩ := hW1
      go_simp
    simp only [Act.put, List.setIfInBounds_toArray, List.set_cons_zero, List.set_cons_succ]
    refine wpAnyH_take (i := 6) (v := .int .i64 (i : Int)) rfl (by kernel_rfl) (by kernel_rfl) (by kernel_rfl) (fun c a w h => by cases h.1) (Or.inl ⟨by rfl, fun W1 hW1 => ?_⟩) hS0 ?_
    · obtain ⟨s1, s2, s3, s4⟩ := hW1
      go_simp
    simp only [Act.put, List.setIfInBounds_toArray, List.set_cons_zero, List.set_cons_succ]
    refine wpAnyH_take (i := 8) (v := .slice (some ⟨b, off + 64 * x.1, none⟩) (chL n6 x.1) (chL n6 x.1)) rfl (by kernel_rfl) (by kernel_rfl) (by kernel_rfl) (fun c a w h => by cases h.1) (Or.inl ⟨by rfl, fun W1 hW1 => ?_⟩) hS0 ?_
    · obtain ⟨s1, s2, s3, s4⟩ := hW1
      go_simp
    simp only [Act.put, List.setIfInBounds_toArray, List.set_cons_zero, List.set_cons_succ]
    refine wpAnyH_ready (rs := [7]) (by kernel_rfl) (by simp) ?_
    refine AllReadyH.cons rfl (fun K hK => ?_) AllReadyH.nil
    go_simp
    have hs511 := secs_le p.n HTD.out.disk.small
    refine (sector_any t d sb mb p.n p.sf _ h i W.drew ⟨⟨_, KTW.out.keep rfl, rfl⟩, HDW.out.keep rfl rfl rfl⟩ (by omega) hph (by omega)).mono ?_
    rintro e w3' ⟨rfl, hw3'⟩
    rw [hw3']
    clear hw3'
    dsimp only
    refine hK.out _ _ hS0 (fun hHeld => ?_)
    clear hK K
    try simp only [Act.put, List.setIfInBounds_toArray, List.set_cons_zero, List.set_cons_succ]
    refine wpAnyH_ready (rs := [9]) (by kernel_rfl) (by simp) ?_
    refine AllReadyH.cons rfl (fun K hK => ?_) AllReadyH.nil
    go_simp
    refine (fill_any _ _ _ _ _ (RdU8.keep (w' := W.drew) HRW.out (fun _ _ _ _ => rfl) (Nat.le_refl _))).mono ?_
    rintro e w4' ⟨rfl, B4⟩
    rw [HS.out]
    dsimp only
    have BW4 := bthen (bdrew (Below.refl W.heap.size W)) B4
    have e1 := (BW4.cell (p := ⟨g1, 0, none⟩) lg1).trans q1; have e2 := (BW4.cell (p := ⟨g2, 0, none⟩) lg2).trans q2; have e3 := (BW4.cell (p := ⟨t, 0, none⟩) lt').trans q3; have e4 := (BW4.cell (p := ⟨g6, 0, none⟩) lg6).trans q4
    refine hK.out _ _ ⟨e1, e2, e3, e4⟩ (fun hHeld => ?_)
    clear hK K
    have HB4 := Lib.hid BW4; clear BW4 B4
    try simp only [Act.put, List.setIfInBounds_toArray, List.set_cons_zero, List.set_cons_succ]
    refine wpAnyH_ready (rs := [10]) (by kernel_rfl) (by simp) ?_
    refine AllReadyH.cons rfl (fun K hK => ?_) AllReadyH.nil
    go_simp
    refine (write_any d sb mb p.n p.sf _ ((1 + h * secs p.n + i : Nat) : Int) s _ (HDW.out.below HB4.out) HS64.out).mono ?_
    rintro e w5' ⟨rfl, D5, G5⟩
    dsimp only
    have z4' := HB4.out.size
    have i1 := ((gcell G5).1 g1 0 (by omega) g1mb).trans e1; have i2 := ((gcell G5).1 g2 0 (by omega) g2mb).trans e2; have i3 := ((gcell G5).1 t 0 (by omega) tmb).trans e3; have i4 := ((gcell G5).1 g6 0 (by omega) g6mb).trans e4
    refine hK.out _ _ ⟨i1, i2, i3, i4⟩ (fun hHeld => ?_)
    clear hK K
    have HD5 := Lib.hid D5; have HG5 := Lib.hid G5
    have BK5 := Lib.hid ((HBW.out.below HB4.out).keep (G5.block g6 (by omega) (fun e => g6mb (Option.some.inj e))))
    have K5 := Lib.hid ((Kept.of_below HB4.out (fun k => k = mb ∨ k = g6)).trans (Kept.of_grown G5 (fun k e => .inl (Option.some.inj e).symm)))
    clear D5 G5
    try simp only [Act.put, List.setIfInBounds_toArray, List.set_cons_zero, List.set_cons_succ]
    refine wpAnyH_done (by kernel_rfl) ?_ _
    refine ⟨rfl, ?_⟩
    have f6 := BK5.out.fr 0
    have l65 := BK5.out.lt
    have hwi : wrap64 ((i : Int) + 1) = i + 1 := by unfold wrap64; have := secs_le p.n HTD.out.disk.small; omega
    have HLS := Lib.hid (And.intro l61 (And.intro l62 (And.intro l66 (And.intro dl1 (And.intro dl2 (And.intro dl3 (And.intro z8 z4')))))))
    clear hHeld hS0 l61 l62 l66 dl1 dl2 dl3 z8 z4' lg1 lg2 lt' lg6 q1 q2 q3 q4 q5 e1 e2 e3 e4 i1 i2 i3 hbmb hxlt g1mb g2mb tmb dmb his hidx hlen
    gi_wp2
    obtain ⟨l61, l62, l66, dl1, dl2, dl3, z8, z4'⟩ := HLS.out
    have K6 : Kept W (w5'.setCell ⟨g6, 0, none⟩ (.int .i64 ((i : Int) + 1))) (fun k => k = mb ∨ k = g6) := K5.out.set (p := ⟨g6, 0, none⟩) (.inr rfl) _
    refine ⟨⟨K6.size, fun k o hk ho hc => (K6.block k (Array.getElem?_eq_some_iff.1 ho).1 (by rintro (e | e) <;> omega)).trans ho⟩, ⟨K6.block _ (by have := HKW.out.size; omega) (by rintro (e | e); exact HMB.out _ _ _ HT1.out e; omega), K6.block _ (by have := HKW.out.size; omega) (by rintro (e | e); exact HMB.out _ _ _ HT2.out e; omega)⟩, HKW.out.trans K6, ?_, ?_⟩
    · have hin : inD p.n ((1 + h * secs p.n + i : Nat) : Int) = true := inD_of (by omega) (by have := HID.out; omega)
      have hD := HD5.out
      rw [wrD, if_pos hin] at hD
      have hpos : ((1 + h * secs p.n + i : Nat) : Int) = ((1 + h * secs p.n + u / 64 + (pre.map fun x => chS (layB p) x.1).length : Nat) : Int) := by rw [List.length_map, ← HI.out]; omega
      rw [List.map_append, List.map_cons, List.map_nil, layL_snoc, HCS.out, ← hpos]
      exact hD.keep (Below.heap_setCell _ _ _ _ (by show d ≠ g6; have := HG6.out; have := HB06.out.size; omega)) (Below.heap_setCell _ _ _ _ (by show sb ≠ g6; have := HG6.out; have := HB06.out.size; omega)) (Below.heap_setCell _ _ _ _ (by show mb ≠ g6; have := HG6.out; have := HB06.out.size; omega))
    · have := BK5.out.set 0 (.int .i64 ((i : Int) + 1))
      have e : ((u / 64 + (pre ++ [x]).length : Nat) : Int) = (i : Int) + 1 := by rw [List.length_append, ← HI.out]; simp; omega
      rw [e]
      exact this
  case done =>
    rintro D xs W hDD ⟨hS1, hS2⟩ ⟨hK, hD, hB⟩ hrec
    have hxl : xs.length = ((layB p).length + 63) / 64 := by
      rw [← HN6.out]
      rcases Nat.eq_zero_or_pos xs.length with h0 | h0
      · omega
      · have h1 := (xs[xs.length - 1]'(by omega)).2
        have h2 : (xs[xs.length - 1]'(by omega)).1 = xs.length - 1 := by
          have h3 := congrArg (fun l => l[xs.length - 1]?) hS1
          simpa [List.getElem?_map, List.getElem?_eq_getElem (show xs.length - 1 < xs.length by omega), List.getElem?_range, show xs.length - 1 < xs.length by omega] using h3
        rw [h2] at h1
        omega
    have hmap : (xs.map fun x => chS (layB p) x.1) = (List.range (((layB p).length + 63) / 64)).map (chS (layB p)) := by
      rw [← hxl, ← hS1, List.map_map]
      rfl
    rw [hmap] at hD
    gi_wp2
    refine ⟨by simp, .inl ⟨_, _, rfl, run_takeDeferred hrec, ?_⟩⟩
    refine ⟨_, results_none rfl _ _ _, ⟨_, rfl⟩, ?_⟩
    have hDl := (Array.getElem?_eq_some_iff.1 hrec).1
    have hlay : layP p = { p with sf := p.sf, df := layL p.df (1 + h * secs p.n + u / 64) ((List.range (((layB p).length + 63) / 64)).map (chS (layB p))) } := by unfold layP; rw [HPH.out, HPU.out]
    rw [hlay]
    refine tape_disk HH.out (hD.keep (World.putObj_heap_other (by omega)) (World.putObj_heap_other (by omega)) (World.putObj_heap_other (by omega))) ?_
    have hg6 := HG6.out
    have z06 := HB06.out.size
    refine Kept.trans2 ((Kept.behind HB08.out hK).mono (S' := fun k => k = sb ∨ k = mb) (fun k hk hS => ?_)) (Kept.of_grown (S := fun k => some D = some k) (grownBy_putObj' W D _) (fun k e => e)) (fun k hk hS => ?_)
    · rcases hS with e | e
      · exact .inr e
      · omega
    · have := Option.some.inj hS
      omega
  case stop =>
    rintro D c pre W _ _ hf _
    exact hf.elim
end Go.Proofs.Ytlgimhhhlpmjcaa
