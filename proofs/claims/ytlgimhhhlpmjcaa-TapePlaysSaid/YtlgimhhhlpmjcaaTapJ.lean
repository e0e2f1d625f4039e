/- The tape: Open. -/
import Derived.Test.YtlgimhhhlpmjcaaTapI
set_option linter.unusedVariables false
set_option linter.unusedSimpArgs false
namespace Go.Proofs.Ytlgimhhhlpmjcaa
open Go.RowKit Go.Maps Go.WideMaps Go.Shelf

theorem sec_rd {W : World} {g T : Nat} {s : Sec} (h : Blk W g (sc s).toArray T) (hs : s.length = 64) (i m : Nat) (hm : i + m ≤ 64) : RdU8 W (some ⟨g, i, none⟩) m ((s.drop i).take m) := by
  refine ⟨by simp; omega, fun _ => ⟨g, i, rfl, h.lt, fun j hj => ?_⟩⟩
  have hj' : j < m := by simp at hj; omega
  rw [h.cell]
  simp [sc, List.getElem?_map, show i + j < s.length by omega]
/-- Sectors of bytes. -/
def BytesS (sf : List Sec) (df : Int → Option Sec) : Prop := (∀ s ∈ sf, okB s) ∧ ∀ i s, df i = some s → okB s
theorem BytesS.cur {sf : List Sec} {df : Int → Option Sec} (h : BytesS sf df) (i : Nat) : okB (curS sf df i) := by
  unfold curS
  cases e : df (i : Int) with
  | some s => exact h.2 _ _ e
  | none =>
    show okB (sf.getD i zsec)
    rw [List.getD_eq_getElem?_getD]
    cases e2 : sf[i]? with
    | none => exact okB_replicate 64
    | some s => exact h.1 _ (List.mem_of_getElem? e2)
theorem BytesS.half {sf : List Sec} {df : Int → Option Sec} (h : BytesS sf df) (n k : Nat) : okB (halfB n sf df k) := fun x hx => by
  obtain ⟨i, _, hx⟩ := List.mem_flatMap.1 hx
  exact h.cur _ x hx

theorem open_nil (w : World) : Calls Try.prog 16 #[.pointer none] w fun e w' => e = .returned (.tuple #[.pointer none, .int .i64 1]) ∧ w' = w := by
  go_enter Try.func16, Try.ntmps16
  go_wp2_with (go_at_call 42; refine (len_nil _).mono ?_; rintro e w1 ⟨rfl, rfl⟩)
  go_ret2
  exact ⟨rfl, rfl⟩
theorem open_few (d sb mb n : Nat) (sf : List Sec) (df : Int → Option Sec) (w : World) (H : DiskIs w d sb mb n sf df) (hn : n < 3) :
    Calls Try.prog 16 #[.pointer (some ⟨d, 0, none⟩)] w fun e w' => e = .returned (.tuple #[.pointer none, .int .i64 1]) ∧ w' = w := by
  have HD := Lib.hid H; clear H
  go_enter Try.func16, Try.ntmps16
  go_wp2_with (go_at_call 42; refine (len_any d sb mb n sf df _ HD.out).mono ?_; rintro e w1 ⟨rfl, rfl⟩)
  go_ret2
  exact ⟨rfl, rfl⟩

def TC0 (d : Nat) : Array Value := #[.pointer (some ⟨d, 0, none⟩), .int .i64 0, .slice none 0 0, .int .i64 0, .slice none 0 0, .bool false, .int .i64 0]

set_option maxRecDepth 100000 in
set_option maxHeartbeats 4000000 in
theorem open_a (d sb mb n : Nat) (sf : List Sec) (df : Int → Option Sec) (w : World) (H : DiskIs w d sb mb n sf df) (hn : 3 ≤ n) (hby : BytesS sf df) (hA : 1 < (curS sf df 0).getD 0 0) :
    Calls Try.prog 16 #[.pointer (some ⟨d, 0, none⟩)] w (OpenPost w d sb mb n sf df) := by
  have hsm := H.small
  obtain ⟨s, HS⟩ : ∃ s, Hid (s = curS sf df 0) := ⟨_, Lib.hid rfl⟩
  have hs64 : s.length = 64 := by rw [HS.out]; exact curS_len H.len H.each H.sup (by omega)
  have hsb : okB s := by rw [HS.out]; exact hby.cur 0
  obtain ⟨r, hr⟩ : ∃ r : Nat, numB ((s.drop 1).take 4) = r := ⟨(numB ((s.drop 1).take 4)).toNat, by have := numB_nonneg (okB_take (okB_drop hsb 1) 4); omega⟩
  obtain ⟨u, hu⟩ : ∃ u : Nat, numB ((s.drop 5).take 4) = u := ⟨(numB ((s.drop 5).take 4)).toNat, by have := numB_nonneg (okB_take (okB_drop hsb 5) 4); omega⟩
  have hrl : r < 4294967296 := by have h1 := numB_lt _ (okB_take (okB_drop hsb 1) 4); rw [show ((s.drop 1).take 4).length = 4 by simp; omega] at h1; omega
  have hul : u < 4294967296 := by have h1 := numB_lt _ (okB_take (okB_drop hsb 5) 4); rw [show ((s.drop 5).take 4).length = 4 by simp; omega] at h1; omega
  obtain ⟨h, hh⟩ : ∃ h : Nat, s.getD 0 0 = h := ⟨(s.getD 0 0).toNat, by have := (hsb (s.getD 0 0) (by rw [List.getD_eq_getElem?_getD, List.getElem?_eq_getElem (by omega : 0 < s.length)]; exact List.getElem_mem _)).1; omega⟩
  have hh256 : h < 256 := by have := (hsb (s.getD 0 0) (by rw [List.getD_eq_getElem?_getD, List.getElem?_eq_getElem (by omega : 0 < s.length)]; exact List.getElem_mem _)).2; omega
  have hop : openP n sf df = if 1 < (h : Int) then none else if s = superB h r u then (if (allB n : Int) < u then none else match splitB u ((halfB n sf df h).take u) with | none => none | some L => if (L.length : Int) = r then some (h, L) else none) else none := by
    unfold openP
    rw [← HS.out, hh, hr, hu]
    simp only [Int.toNat_natCast]
    rfl
  have hs0 : (sc s)[0]? = some (.int .u8 h) := by
    have := hh
    rw [List.getD_eq_getElem?_getD, List.getElem?_eq_getElem (by omega : 0 < s.length)] at this
    simp only [Option.getD_some] at this
    simp [sc, List.getElem?_map, List.getElem?_eq_getElem (by omega : 0 < s.length), this]
  have HOP := Lib.hid hop; have HS64 := Lib.hid hs64; have HSB := Lib.hid hsb; have HR := Lib.hid hr; have HU := Lib.hid hu; have HBY := Lib.hid hby; have HS0 := Lib.hid hs0
  have HD := Lib.hid H
  have HOPH := Lib.hid hh
  clear hop hs64 hsb hr hu hby hs0 H hh
  obtain ⟨z, HZ, hz⟩ := zsec_named
  have Hz := Lib.hid hz; clear hz
  go_enter Try.func16, Try.ntmps16
  go_wp2_with (first
    | (go_at_call 42; refine (len_any d sb mb n sf df _ HD.out).mono ?_; rintro e w1 ⟨rfl, rfl⟩)
    | (go_at_call 39; refine (read_in d sb mb n sf df 0 _ (HD.out.alloc _) (by omega)).mono ?_; rintro e w2 ⟨rfl, hb2⟩; rw [← HS.out]
       have K2 := Lib.hid ((Blk.new w1 (TC0 d) 89).below hb2); have B2 := Lib.hid (bthen (balloc (Below.refl w1.heap.size w1) _) hb2); have D2 := Lib.hid ((HD.out.alloc _).below hb2); clear hb2)
    | ((with_reducible refine sec_alloc secT1 HZ rfl rfl ?_); try simp only [World.size_alloc])
    | ((with_reducible refine is_store 55 (x := .tmp 5) rfl ?_); refine sec_store secT1 rfl _ _ rfl w2.heap.size 0 s HS64.out rfl rfl ((Blk.new _ _ _).secThere Hz.out) ?_;
       have bW : Below w2.heap.size w2 ((w2.alloc (.cells (sc z).toArray 55)).setCells w2.heap.size 0 (sc s)) := below_cells ((Below.refl _ _).alloc (Nat.le_refl _) _) (Nat.le_refl _) _ _;
       have Jw3 := Lib.hid ((Blk.new w2 (sc z).toArray 55).secStore (s' := s) (Hz.out.trans HS64.out.symm));
       have K3 := Lib.hid (K2.out.below bW);
       have B3 := Lib.hid (bthen B2.out bW);
       have D3 := Lib.hid (D2.out.below bW);
       have zw3 := bW.size; clear bW; generalize ((w2.alloc (.cells (sc z).toArray 55)).setCells w2.heap.size 0 (sc s)) = w3 at *))
  have rd1 := Lib.hid (sec_rd Jw3.out HS64.out 1 4 (by omega)); have rd5 := Lib.hid (sec_rd Jw3.out HS64.out 5 4 (by omega))
  have n1 : ∀ k, Calls Try.prog 48 #[.slice (some ⟨w2.heap.size, 1, none⟩) 4 63] (w3.drewN k) fun e w' => e = .returned (.int .i64 r) ∧ w' = w3.drewN k := fun k => by
    have := number_any (some ⟨w2.heap.size, 1, none⟩) 4 63 _ (w3.drewN k) (rd1.out.keep (fun _ _ _ _ => rfl) (Nat.le_refl _)) (by omega) (okB_take (okB_drop HSB.out 1) 4)
    rwa [HR.out] at this
  have n5 : ∀ k, Calls Try.prog 48 #[.slice (some ⟨w2.heap.size, 5, none⟩) 4 59] (w3.drewN k) fun e w' => e = .returned (.int .i64 u) ∧ w' = w3.drewN k := fun k => by
    have := number_any (some ⟨w2.heap.size, 5, none⟩) 4 59 _ (w3.drewN k) (rd5.out.keep (fun _ _ _ _ => rfl) (Nat.le_refl _)) (by omega) (okB_take (okB_drop HSB.out 5) 4)
    rwa [HU.out] at this
  have N1 := Lib.hid n1; have N5 := Lib.hid n5; clear n1 n5
  have c5 : w3.cell? ⟨w2.heap.size, 0, none⟩ = some (.int .u8 h) := by rw [Jw3.out.cell]; simpa using HS0.out
  have f1 := K3.out.fr 1
  have k1 : w3.cell? ⟨w1.heap.size, 1, none⟩ = some (.int .i64 0) := by rw [K3.out.cell]; rfl
  have kl := K3.out.lt
  go_quiet (first
    | (go_at_call 48; with_reducible refine Calls.quiet_of_same (N1.out _))
    | (go_at_call 48; with_reducible refine Calls.quiet_of_same (N5.out _)))
  rename_i nq
  go_wp2
  have hne : w2.heap.size ≠ w1.heap.size := by have := K2.out.lt; omega
  have K4 := Lib.hid (show Blk ((w3.drewN nq).setCell ⟨w1.heap.size, 1, none⟩ (.int .i64 h)) w1.heap.size (TC d h (.slice none 0 0) 0 (.slice none 0 0) false 0) 89 from (K3.out.keep (w' := w3.drewN nq) rfl).set 1 _)
  have J4 := Lib.hid ((Jw3.out.keep (w' := w3.drewN nq) rfl).setOther hne 1 (.int .i64 h))
  obtain ⟨dl1, dl2, dl3⟩ := HD.out.lt
  have HDL := Lib.hid HD.out.lt
  have D4 := Lib.hid (D3.out.keep (w' := (w3.drewN nq).setCell ⟨w1.heap.size, 1, none⟩ (.int .i64 h)) (Below.heap_setCell _ _ _ _ (by show d ≠ w1.heap.size; omega)) (Below.heap_setCell _ _ _ _ (by show sb ≠ w1.heap.size; omega)) (Below.heap_setCell _ _ _ _ (by show mb ≠ w1.heap.size; omega)))
  have B4 := Lib.hid ((below_drewN B3.out nq).setCell (p := ⟨w1.heap.size, 1, none⟩) (Nat.le_refl _) (.int .i64 h))
  clear c5 f1 k1 kl N1 N5 rd1 rd5 K3 Jw3 D3 B3 K2 B2 D2 zw3
  generalize hw4 : (w3.drewN nq).setCell ⟨w1.heap.size, 1, none⟩ (.int .i64 h) = w4 at *
  clear hw4
  generalize hg : w2.heap.size = g at *
  clear hg
  obtain ⟨t, ht⟩ : ∃ t, t = w1.heap.size := ⟨_, rfl⟩
  rw [← ht] at K4 ⊢
  have HT := Lib.hid ht; clear ht hne
  have c41 := K4.out.cell 1; have c42 := K4.out.cell 2
  simp [TC] at c41 c42
  have tl := K4.out.lt; have gl := J4.out.lt
  have hA2 : (1 : Int) < h := by have := HOPH.out; rw [← HS.out, this] at hA; exact hA
  have hd : decide ((1 : Int) < (h : Int)) = true := decide_eq_true hA2
  clear hA
  go_quiet (fail)
  go_wp2
  go_ret2
  have e := HOP.out
  rw [if_pos hA2] at e
  unfold OpenPost
  rw [e]
  exact ⟨below_drewN B4.out _, rfl⟩

set_option maxRecDepth 100000 in
set_option maxHeartbeats 4000000 in
theorem open_b (d sb mb n : Nat) (sf : List Sec) (df : Int → Option Sec) (w : World) (H : DiskIs w d sb mb n sf df) (hn : 3 ≤ n) (hby : BytesS sf df) (hA : ¬ 1 < (curS sf df 0).getD 0 0) (hB : curS sf df 0 ≠ superB ((curS sf df 0).getD 0 0) (numB (((curS sf df 0).drop 1).take 4)) (numB (((curS sf df 0).drop 5).take 4))) :
    Calls Try.prog 16 #[.pointer (some ⟨d, 0, none⟩)] w (OpenPost w d sb mb n sf df) := by
  have hsm := H.small
  obtain ⟨s, HS⟩ : ∃ s, Hid (s = curS sf df 0) := ⟨_, Lib.hid rfl⟩
  have hs64 : s.length = 64 := by rw [HS.out]; exact curS_len H.len H.each H.sup (by omega)
  have hsb : okB s := by rw [HS.out]; exact hby.cur 0
  obtain ⟨r, hr⟩ : ∃ r : Nat, numB ((s.drop 1).take 4) = r := ⟨(numB ((s.drop 1).take 4)).toNat, by have := numB_nonneg (okB_take (okB_drop hsb 1) 4); omega⟩
  obtain ⟨u, hu⟩ : ∃ u : Nat, numB ((s.drop 5).take 4) = u := ⟨(numB ((s.drop 5).take 4)).toNat, by have := numB_nonneg (okB_take (okB_drop hsb 5) 4); omega⟩
  have hrl : r < 4294967296 := by have h1 := numB_lt _ (okB_take (okB_drop hsb 1) 4); rw [show ((s.drop 1).take 4).length = 4 by simp; omega] at h1; omega
  have hul : u < 4294967296 := by have h1 := numB_lt _ (okB_take (okB_drop hsb 5) 4); rw [show ((s.drop 5).take 4).length = 4 by simp; omega] at h1; omega
  obtain ⟨h, hh⟩ : ∃ h : Nat, s.getD 0 0 = h := ⟨(s.getD 0 0).toNat, by have := (hsb (s.getD 0 0) (by rw [List.getD_eq_getElem?_getD, List.getElem?_eq_getElem (by omega : 0 < s.length)]; exact List.getElem_mem _)).1; omega⟩
  have hh256 : h < 256 := by have := (hsb (s.getD 0 0) (by rw [List.getD_eq_getElem?_getD, List.getElem?_eq_getElem (by omega : 0 < s.length)]; exact List.getElem_mem _)).2; omega
  have hop : openP n sf df = if 1 < (h : Int) then none else if s = superB h r u then (if (allB n : Int) < u then none else match splitB u ((halfB n sf df h).take u) with | none => none | some L => if (L.length : Int) = r then some (h, L) else none) else none := by
    unfold openP
    rw [← HS.out, hh, hr, hu]
    simp only [Int.toNat_natCast]
    rfl
  have hs0 : (sc s)[0]? = some (.int .u8 h) := by
    have := hh
    rw [List.getD_eq_getElem?_getD, List.getElem?_eq_getElem (by omega : 0 < s.length)] at this
    simp only [Option.getD_some] at this
    simp [sc, List.getElem?_map, List.getElem?_eq_getElem (by omega : 0 < s.length), this]
  have HOP := Lib.hid hop; have HS64 := Lib.hid hs64; have HSB := Lib.hid hsb; have HR := Lib.hid hr; have HU := Lib.hid hu; have HBY := Lib.hid hby; have HS0 := Lib.hid hs0
  have HD := Lib.hid H
  have HOPH := Lib.hid hh
  clear hop hs64 hsb hr hu hby hs0 H hh
  obtain ⟨z, HZ, hz⟩ := zsec_named
  have Hz := Lib.hid hz; clear hz
  go_enter Try.func16, Try.ntmps16
  go_wp2_with (first
    | (go_at_call 42; refine (len_any d sb mb n sf df _ HD.out).mono ?_; rintro e w1 ⟨rfl, rfl⟩)
    | (go_at_call 39; refine (read_in d sb mb n sf df 0 _ (HD.out.alloc _) (by omega)).mono ?_; rintro e w2 ⟨rfl, hb2⟩; rw [← HS.out]
       have K2 := Lib.hid ((Blk.new w1 (TC0 d) 89).below hb2); have B2 := Lib.hid (bthen (balloc (Below.refl w1.heap.size w1) _) hb2); have D2 := Lib.hid ((HD.out.alloc _).below hb2); clear hb2)
    | ((with_reducible refine sec_alloc secT1 HZ rfl rfl ?_); try simp only [World.size_alloc])
    | ((with_reducible refine is_store 55 (x := .tmp 5) rfl ?_); refine sec_store secT1 rfl _ _ rfl w2.heap.size 0 s HS64.out rfl rfl ((Blk.new _ _ _).secThere Hz.out) ?_;
       have bW : Below w2.heap.size w2 ((w2.alloc (.cells (sc z).toArray 55)).setCells w2.heap.size 0 (sc s)) := below_cells ((Below.refl _ _).alloc (Nat.le_refl _) _) (Nat.le_refl _) _ _;
       have Jw3 := Lib.hid ((Blk.new w2 (sc z).toArray 55).secStore (s' := s) (Hz.out.trans HS64.out.symm));
       have K3 := Lib.hid (K2.out.below bW);
       have B3 := Lib.hid (bthen B2.out bW);
       have D3 := Lib.hid (D2.out.below bW);
       have zw3 := bW.size; clear bW; generalize ((w2.alloc (.cells (sc z).toArray 55)).setCells w2.heap.size 0 (sc s)) = w3 at *))
  have rd1 := Lib.hid (sec_rd Jw3.out HS64.out 1 4 (by omega)); have rd5 := Lib.hid (sec_rd Jw3.out HS64.out 5 4 (by omega))
  have n1 : ∀ k, Calls Try.prog 48 #[.slice (some ⟨w2.heap.size, 1, none⟩) 4 63] (w3.drewN k) fun e w' => e = .returned (.int .i64 r) ∧ w' = w3.drewN k := fun k => by
    have := number_any (some ⟨w2.heap.size, 1, none⟩) 4 63 _ (w3.drewN k) (rd1.out.keep (fun _ _ _ _ => rfl) (Nat.le_refl _)) (by omega) (okB_take (okB_drop HSB.out 1) 4)
    rwa [HR.out] at this
  have n5 : ∀ k, Calls Try.prog 48 #[.slice (some ⟨w2.heap.size, 5, none⟩) 4 59] (w3.drewN k) fun e w' => e = .returned (.int .i64 u) ∧ w' = w3.drewN k := fun k => by
    have := number_any (some ⟨w2.heap.size, 5, none⟩) 4 59 _ (w3.drewN k) (rd5.out.keep (fun _ _ _ _ => rfl) (Nat.le_refl _)) (by omega) (okB_take (okB_drop HSB.out 5) 4)
    rwa [HU.out] at this
  have N1 := Lib.hid n1; have N5 := Lib.hid n5; clear n1 n5
  have c5 : w3.cell? ⟨w2.heap.size, 0, none⟩ = some (.int .u8 h) := by rw [Jw3.out.cell]; simpa using HS0.out
  have f1 := K3.out.fr 1
  have k1 : w3.cell? ⟨w1.heap.size, 1, none⟩ = some (.int .i64 0) := by rw [K3.out.cell]; rfl
  have kl := K3.out.lt
  go_quiet (first
    | (go_at_call 48; with_reducible refine Calls.quiet_of_same (N1.out _))
    | (go_at_call 48; with_reducible refine Calls.quiet_of_same (N5.out _)))
  rename_i nq
  go_wp2
  have hne : w2.heap.size ≠ w1.heap.size := by have := K2.out.lt; omega
  have K4 := Lib.hid (show Blk ((w3.drewN nq).setCell ⟨w1.heap.size, 1, none⟩ (.int .i64 h)) w1.heap.size (TC d h (.slice none 0 0) 0 (.slice none 0 0) false 0) 89 from (K3.out.keep (w' := w3.drewN nq) rfl).set 1 _)
  have J4 := Lib.hid ((Jw3.out.keep (w' := w3.drewN nq) rfl).setOther hne 1 (.int .i64 h))
  obtain ⟨dl1, dl2, dl3⟩ := HD.out.lt
  have HDL := Lib.hid HD.out.lt
  have D4 := Lib.hid (D3.out.keep (w' := (w3.drewN nq).setCell ⟨w1.heap.size, 1, none⟩ (.int .i64 h)) (Below.heap_setCell _ _ _ _ (by show d ≠ w1.heap.size; omega)) (Below.heap_setCell _ _ _ _ (by show sb ≠ w1.heap.size; omega)) (Below.heap_setCell _ _ _ _ (by show mb ≠ w1.heap.size; omega)))
  have B4 := Lib.hid ((below_drewN B3.out nq).setCell (p := ⟨w1.heap.size, 1, none⟩) (Nat.le_refl _) (.int .i64 h))
  clear c5 f1 k1 kl N1 N5 rd1 rd5 K3 Jw3 D3 B3 K2 B2 D2 zw3
  generalize hw4 : (w3.drewN nq).setCell ⟨w1.heap.size, 1, none⟩ (.int .i64 h) = w4 at *
  clear hw4
  generalize hg : w2.heap.size = g at *
  clear hg
  obtain ⟨t, ht⟩ : ∃ t, t = w1.heap.size := ⟨_, rfl⟩
  rw [← ht] at K4 ⊢
  have HT := Lib.hid ht; clear ht hne
  have c41 := K4.out.cell 1; have c42 := K4.out.cell 2
  simp [TC] at c41 c42
  have tl := K4.out.lt; have gl := J4.out.lt
  have hB2 : s ≠ superB h r u := by have e1 := HOPH.out; have e2 := HR.out; have e3 := HU.out; rw [← HS.out, e1, e2, e3] at hB; exact hB
  have hh1 : h ≤ 1 := by have e := HOPH.out; rw [← HS.out, e] at hA; omega
  have hd : decide ((1 : Int) < (h : Int)) = false := decide_eq_false (by omega)
  clear hA
  obtain ⟨q, hq⟩ : ∃ q, superB h r u = q := ⟨_, rfl⟩
  have hq64 : q.length = 64 := by rw [← hq]; exact fillS_len _
  have hsup : ∀ W, Calls Try.prog 49 #[.int .i64 h, .int .i64 r, .int .i64 u] W fun e w' => e = .returned (.agg (sc q).toArray) ∧ Below W.heap.size W w' := fun W => by
    rw [← hq]; exact super_any h r u W (by omega) (by omega) (by omega) (by omega)
  have HSUP := Lib.hid hsup; have HQ := Lib.hid hq; have HQ64 := Lib.hid hq64
  clear hsup hq hq64
  have hu' := Try.underlying55
  have hi : (Try.prog.info? 55).map (·.size) = some (sc s).length := by rw [sc_len, HS64.out]; exact secSize
  have hl : (sc s).length = 64 := by rw [sc_len, HS64.out]
  have hone := sc_one s
  have hr4 := J4.out.sec
  have heq : ∀ W : World, (Op.equalIn 10000 55 (.agg (sc s).toArray) (.agg (sc q).toArray)).run Try.prog W = .ok false W := fun W => by
    rw [sec_eq Try.underlying55 s q HS64.out HQ64.out W]
    have : s ≠ q := by rw [← HQ.out]; exact hB2
    simp [this]
  have HB2 := Lib.hid hB2
  clear hB hB2
  refine wp_region_noPanic ?_
  refine wp_region_held_drew (S := (fun W => W.cell? ⟨t, 1, none⟩ = some (.int .i64 h) ∧ W.rangeAt g 0 (sc s))) (by kernel_rfl) ⟨c41, hr4⟩ (fun hHeld => ?_)
  refine wpAnyH_take (i := 0) (oi := { dst := some 32, op := Op.move (Operand.tmp 4), type := 28, pos := "tape.go:123", after := #[], guard := none }) (v := .pointer (some ⟨t, 0, none⟩)) rfl (by kernel_rfl) (by kernel_rfl) (by kernel_rfl) (fun _ _ _ h => (h : False).elim) (Or.inl ⟨by rfl, fun W1 hW1 => ?_⟩) hHeld ?_
  · obtain ⟨s1, s2⟩ := hW1; go_simp
  simp only [Act.put, List.setIfInBounds_toArray, List.set_cons_zero, List.set_cons_succ]
  refine wpAnyH_take (i := 1) (oi := { dst := some 33, op := Op.nilCheck (Operand.tmp 32), type := 0, pos := "tape.go:123", after := #[{ on := 0, ground := Ground.data }], guard := none }) (v := .pointer (some ⟨t, 0, none⟩)) rfl (by kernel_rfl) (by kernel_rfl) (by kernel_rfl) (fun _ _ _ h => (h : False).elim) (Or.inl ⟨by rfl, fun W1 hW1 => ?_⟩) hHeld ?_
  · obtain ⟨s1, s2⟩ := hW1; go_simp
  simp only [Act.put, List.setIfInBounds_toArray, List.set_cons_zero, List.set_cons_succ]
  refine wpAnyH_take (i := 2) (oi := { dst := some 34, op := Op.fieldAddr 89 (Operand.tmp 33) 1, type := 0, pos := "tape.go:123", after := #[{ on := 1, ground := Ground.data }], guard := none }) (v := .pointer (some ⟨t, 1, none⟩)) rfl (by kernel_rfl) (by kernel_rfl) (by kernel_rfl) (fun _ _ _ h => (h : False).elim) (Or.inl ⟨by rfl, fun W1 hW1 => ?_⟩) hHeld ?_
  · obtain ⟨s1, s2⟩ := hW1; go_simp
  simp only [Act.put, List.setIfInBounds_toArray, List.set_cons_zero, List.set_cons_succ]
  refine wpAnyH_take (i := 3) (oi := { dst := some 35, op := Op.load 3 (Operand.tmp 34), type := 3, pos := "tape.go:123", after := #[{ on := 2, ground := Ground.data }], guard := none }) (v := .int .i64 h) rfl (by kernel_rfl) (by kernel_rfl) (by kernel_rfl) (fun _ _ _ h => (h : False).elim) (Or.inl ⟨by rfl, fun W1 hW1 => ?_⟩) hHeld ?_
  · obtain ⟨s1, s2⟩ := hW1; go_simp
  simp only [Act.put, List.setIfInBounds_toArray, List.set_cons_zero, List.set_cons_succ]
  refine wpAnyH_take (i := 4) (oi := { dst := some 36, op := Op.binOp BinOp.gtr 3 (Operand.tmp 35) (Operand.const (Value.int IntKind.i64 1)) 3, type := 4, pos := "tape.go:123", after := #[{ on := 3, ground := Ground.data }], guard := none }) (v := .bool false) rfl (by kernel_rfl) (by kernel_rfl) (by kernel_rfl) (fun _ _ _ h => (h : False).elim) (Or.inl ⟨by rfl, fun W1 hW1 => ?_⟩) hHeld ?_
  · obtain ⟨s1, s2⟩ := hW1; go_simp
  simp only [Act.put, List.setIfInBounds_toArray, List.set_cons_zero, List.set_cons_succ]
  refine wpAnyH_take (i := 5) (oi := { dst := some 37, op := Op.move (Operand.tmp 36), type := 4, pos := "tape.go:123", after := #[{ on := 4, ground := Ground.data }], guard := none }) (v := .bool false) rfl (by kernel_rfl) (by kernel_rfl) (by kernel_rfl) (fun _ _ _ h => (h : False).elim) (Or.inl ⟨by rfl, fun W1 hW1 => ?_⟩) hHeld ?_
  · obtain ⟨s1, s2⟩ := hW1; go_simp
  simp only [Act.put, List.setIfInBounds_toArray, List.set_cons_zero, List.set_cons_succ]
  refine' wpAnyH_take (i := 6) (oi := { dst := some 38, op := Op.load 55 (Operand.tmp 5), type := 55, pos := "tape.go:123", after := #[{ on := 5, ground := Ground.guard }], guard := some (5, false) }) (v := _) rfl (by kernel_rfl) (by kernel_rfl) (by kernel_rfl) (fun _ _ _ h => (h : False).elim) (yieldsIf_load_mid (by rfl) _ _ rfl _ _ rfl _ _ (fun W1 hW1 => hW1.2) hu' rfl hi) hHeld ?_
  simp only [Act.put, List.setIfInBounds_toArray, List.set_cons_zero, List.set_cons_succ]
  refine wpAnyH_take (i := 7) (oi := { dst := some 39, op := Op.move (Operand.tmp 4), type := 28, pos := "tape.go:123", after := #[{ on := 5, ground := Ground.guard }], guard := some (5, false) }) (v := .pointer (some ⟨t, 0, none⟩)) rfl (by kernel_rfl) (by kernel_rfl) (by kernel_rfl) (fun _ _ _ h => (h : False).elim) (Or.inl ⟨by rfl, fun W1 hW1 => ?_⟩) hHeld ?_
  · obtain ⟨s1, s2⟩ := hW1; go_simp
  simp only [Act.put, List.setIfInBounds_toArray, List.set_cons_zero, List.set_cons_succ]
  refine wpAnyH_take (i := 8) (oi := { dst := some 40, op := Op.nilCheck (Operand.tmp 39), type := 0, pos := "tape.go:123", after := #[{ on := 7, ground := Ground.data }, { on := 5, ground := Ground.guard }], guard := some (5, false) }) (v := .pointer (some ⟨t, 0, none⟩)) rfl (by kernel_rfl) (by kernel_rfl) (by kernel_rfl) (fun _ _ _ h => (h : False).elim) (Or.inl ⟨by rfl, fun W1 hW1 => ?_⟩) hHeld ?_
  · obtain ⟨s1, s2⟩ := hW1; go_simp
  simp only [Act.put, List.setIfInBounds_toArray, List.set_cons_zero, List.set_cons_succ]
  refine wpAnyH_take (i := 9) (oi := { dst := some 41, op := Op.fieldAddr 89 (Operand.tmp 40) 1, type := 0, pos := "tape.go:123", after := #[{ on := 8, ground := Ground.data }, { on := 5, ground := Ground.guard }], guard := some (5, false) }) (v := .pointer (some ⟨t, 1, none⟩)) rfl (by kernel_rfl) (by kernel_rfl) (by kernel_rfl) (fun _ _ _ h => (h : False).elim) (Or.inl ⟨by rfl, fun W1 hW1 => ?_⟩) hHeld ?_
  · obtain ⟨s1, s2⟩ := hW1; go_simp
  simp only [Act.put, List.setIfInBounds_toArray, List.set_cons_zero, List.set_cons_succ]
  refine wpAnyH_take (i := 10) (oi := { dst := some 42, op := Op.load 3 (Operand.tmp 41), type := 3, pos := "tape.go:123", after := #[{ on := 9, ground := Ground.data }, { on := 5, ground := Ground.guard }], guard := some (5, false) }) (v := .int .i64 h) rfl (by kernel_rfl) (by kernel_rfl) (by kernel_rfl) (fun _ _ _ h => (h : False).elim) (Or.inl ⟨by rfl, fun W1 hW1 => ?_⟩) hHeld ?_
  · obtain ⟨s1, s2⟩ := hW1; go_simp
  simp only [Act.put, List.setIfInBounds_toArray, List.set_cons_zero, List.set_cons_succ]
  refine wpAnyH_take (i := 11) (oi := { dst := some 43, op := Op.move (Operand.tmp 7), type := 3, pos := "tape.go:123", after := #[{ on := 5, ground := Ground.guard }], guard := some (5, false) }) (v := .int .i64 r) rfl (by kernel_rfl) (by kernel_rfl) (by kernel_rfl) (fun _ _ _ h => (h : False).elim) (Or.inl ⟨by rfl, fun W1 hW1 => ?_⟩) hHeld ?_
  · obtain ⟨s1, s2⟩ := hW1; go_simp
  simp only [Act.put, List.setIfInBounds_toArray, List.set_cons_zero, List.set_cons_succ]
  refine wpAnyH_take (i := 12) (oi := { dst := some 44, op := Op.move (Operand.tmp 8), type := 3, pos := "tape.go:123", after := #[{ on := 5, ground := Ground.guard }], guard := some (5, false) }) (v := .int .i64 u) rfl (by kernel_rfl) (by kernel_rfl) (by kernel_rfl) (fun _ _ _ h => (h : False).elim) (Or.inl ⟨by rfl, fun W1 hW1 => ?_⟩) hHeld ?_
  · obtain ⟨s1, s2⟩ := hW1; go_simp
  simp only [Act.put, List.setIfInBounds_toArray, List.set_cons_zero, List.set_cons_succ]
  refine wpAnyH_ready (rs := [13]) (by kernel_rfl) (by simp) ?_
  refine AllReadyH.cons (o := { dst := some 45, op := Op.call { callee := Callee.value (Operand.func 49), args := #[Operand.tmp 42, Operand.tmp 43, Operand.tmp 44], argTypes := #[3, 3, 3] }, type := 55, pos := "tape.go:123", after := #[{ on := 10, ground := Ground.data }, { on := 11, ground := Ground.data }, { on := 12, ground := Ground.data }, { on := 5, ground := Ground.chain }, { on := 5, ground := Ground.guard }], guard := some (5, false) }) rfl (fun K hK => ?_) AllReadyH.nil
  go_simp
  refine (HSUP.out _).mono ?_
  rintro e w5 ⟨rfl, hb5⟩
  have r1 := (hb5.cell (p := ⟨t, 1, none⟩) tl).trans c41; have r2 : w5.rangeAt g 0 (sc s) := rangeAt_keep hr4 (hb5.block _ gl)
  have B5 := Lib.hid (bthen (bdrew B4.out) hb5); clear hb5
  dsimp only
  clear hHeld
  refine hK.out _ _ ⟨r1, r2⟩ (fun hHeld => ?_)
  clear hK K
  try simp only [Act.put, List.setIfInBounds_toArray, List.set_cons_zero, List.set_cons_succ]
  refine wpAnyH_take (i := 14) (oi := { dst := some 46, op := Op.binOp BinOp.neq 55 (Operand.tmp 38) (Operand.tmp 45) 55, type := 4, pos := "tape.go:123", after := #[{ on := 6, ground := Ground.data }, { on := 13, ground := Ground.data }, { on := 5, ground := Ground.guard }], guard := some (5, false) }) (v := .bool true) rfl (by kernel_rfl) (by kernel_rfl) (by kernel_rfl) (fun _ _ _ h => (h : False).elim) (Or.inl ⟨by rfl, fun W1 hW1 => ?_⟩) hHeld ?_
  · obtain ⟨s1, s2⟩ := hW1; go_simp
  simp only [Act.put, List.setIfInBounds_toArray, List.set_cons_zero, List.set_cons_succ]
  refine wpAnyH_take (i := 15) (oi := { dst := some 47, op := Op.pick (Operand.tmp 37) (Operand.const (Value.bool true)) (Operand.tmp 46), type := 4, pos := "tape.go:123", after := #[{ on := 5, ground := Ground.data }, { on := 14, ground := Ground.data }], guard := none }) (v := .bool true) rfl (by kernel_rfl) (by kernel_rfl) (by kernel_rfl) (fun _ _ _ h => (h : False).elim) (Or.inl ⟨by rfl, fun W1 hW1 => ?_⟩) hHeld ?_
  · obtain ⟨s1, s2⟩ := hW1; go_simp
  simp only [Act.put, List.setIfInBounds_toArray, List.set_cons_zero, List.set_cons_succ]
  refine wpAnyH_take (i := 16) (oi := { dst := some 48, op := Op.move (Operand.tmp 47), type := 4, pos := "tape.go:123", after := #[{ on := 15, ground := Ground.data }, { on := 13, ground := Ground.chain }], guard := none }) (v := .bool true) rfl (by kernel_rfl) (by kernel_rfl) (by kernel_rfl) (fun _ _ _ h => (h : False).elim) (Or.inl ⟨by rfl, fun W1 hW1 => ?_⟩) hHeld ?_
  · obtain ⟨s1, s2⟩ := hW1; go_simp
  simp only [Act.put, List.setIfInBounds_toArray, List.set_cons_zero, List.set_cons_succ]
  refine wpAnyH_take (i := 17) (oi := { dst := some 49, op := Op.move (Operand.tmp 8), type := 3, pos := "tape.go:123", after := #[{ on := 16, ground := Ground.guard }], guard := some (16, false) }) (v := undef) rfl (by kernel_rfl) (by kernel_rfl) (by kernel_rfl) (fun _ _ _ h => (h : False).elim) (Or.inr ⟨by rfl, rfl⟩) hHeld ?_
  simp only [Act.put, List.setIfInBounds_toArray, List.set_cons_zero, List.set_cons_succ]
  refine wpAnyH_take (i := 18) (oi := { dst := some 50, op := Op.move (Operand.tmp 4), type := 28, pos := "tape.go:123", after := #[{ on := 16, ground := Ground.guard }], guard := some (16, false) }) (v := undef) rfl (by kernel_rfl) (by kernel_rfl) (by kernel_rfl) (fun _ _ _ h => (h : False).elim) (Or.inr ⟨by rfl, rfl⟩) hHeld ?_
  simp only [Act.put, List.setIfInBounds_toArray, List.set_cons_zero, List.set_cons_succ]
  refine wpAnyH_take (i := 19) (oi := { dst := some 51, op := Op.call { callee := Callee.value (Operand.func 50), args := #[Operand.tmp 50], argTypes := #[28] }, type := 3, pos := "tape.go:123", after := #[{ on := 18, ground := Ground.data }, { on := 16, ground := Ground.chain }, { on := 16, ground := Ground.guard }], guard := some (16, false) }) (v := undef) rfl (by kernel_rfl) (by kernel_rfl) (by kernel_rfl) (fun _ _ _ h => (h : False).elim) (Or.inr ⟨by rfl, rfl⟩) hHeld ?_
  simp only [Act.put, List.setIfInBounds_toArray, List.set_cons_zero, List.set_cons_succ]
  refine wpAnyH_take (i := 20) (oi := { dst := some 52, op := Op.binOp BinOp.gtr 3 (Operand.tmp 49) (Operand.tmp 51) 3, type := 4, pos := "tape.go:123", after := #[{ on := 17, ground := Ground.data }, { on := 19, ground := Ground.data }, { on := 16, ground := Ground.guard }], guard := some (16, false) }) (v := undef) rfl (by kernel_rfl) (by kernel_rfl) (by kernel_rfl) (fun _ _ _ h => (h : False).elim) (Or.inr ⟨by rfl, rfl⟩) hHeld ?_
  simp only [Act.put, List.setIfInBounds_toArray, List.set_cons_zero, List.set_cons_succ]
  refine wpAnyH_take (i := 21) (oi := { dst := some 53, op := Op.pick (Operand.tmp 48) (Operand.const (Value.bool true)) (Operand.tmp 52), type := 4, pos := "tape.go:123", after := #[{ on := 16, ground := Ground.data }, { on := 20, ground := Ground.data }], guard := none }) (v := .bool true) rfl (by kernel_rfl) (by kernel_rfl) (by kernel_rfl) (fun _ _ _ h => (h : False).elim) (Or.inl ⟨by rfl, fun W1 hW1 => ?_⟩) hHeld ?_
  · obtain ⟨s1, s2⟩ := hW1; go_simp
  simp only [Act.put, List.setIfInBounds_toArray, List.set_cons_zero, List.set_cons_succ]
  refine wpAnyH_done (by kernel_rfl) ?_ _
  refine NoPanic.normal ?_
  all_goals
    go_wp2
    go_ret2
    have e := HOP.out
    rw [if_neg (by omega), if_neg HB2.out] at e
    unfold OpenPost
    rw [e]
    exact ⟨B5.out, rfl⟩

set_option maxRecDepth 100000 in
set_option maxHeartbeats 4000000 in
theorem open_c (d sb mb n : Nat) (sf : List Sec) (df : Int → Option Sec) (w : World) (H : DiskIs w d sb mb n sf df) (hn : 3 ≤ n) (hby : BytesS sf df) (hA : ¬ 1 < (curS sf df 0).getD 0 0) (hB : curS sf df 0 = superB ((curS sf df 0).getD 0 0) (numB (((curS sf df 0).drop 1).take 4)) (numB (((curS sf df 0).drop 5).take 4))) (hC : (allB n : Int) < numB (((curS sf df 0).drop 5).take 4)) :
    Calls Try.prog 16 #[.pointer (some ⟨d, 0, none⟩)] w (OpenPost w d sb mb n sf df) := by
  have hsm := H.small
  obtain ⟨s, HS⟩ : ∃ s, Hid (s = curS sf df 0) := ⟨_, Lib.hid rfl⟩
  have hs64 : s.length = 64 := by rw [HS.out]; exact curS_len H.len H.each H.sup (by omega)
  have hsb : okB s := by rw [HS.out]; exact hby.cur 0
  obtain ⟨r, hr⟩ : ∃ r : Nat, numB ((s.drop 1).take 4) = r := ⟨(numB ((s.drop 1).take 4)).toNat, by have := numB_nonneg (okB_take (okB_drop hsb 1) 4); omega⟩
  obtain ⟨u, hu⟩ : ∃ u : Nat, numB ((s.drop 5).take 4) = u := ⟨(numB ((s.drop 5).take 4)).toNat, by have := numB_nonneg (okB_take (okB_drop hsb 5) 4); omega⟩
  have hrl : r < 4294967296 := by have h1 := numB_lt _ (okB_take (okB_drop hsb 1) 4); rw [show ((s.drop 1).take 4).length = 4 by simp; omega] at h1; omega
  have hul : u < 4294967296 := by have h1 := numB_lt _ (okB_take (okB_drop hsb 5) 4); rw [show ((s.drop 5).take 4).length = 4 by simp; omega] at h1; omega
  obtain ⟨h, hh⟩ : ∃ h : Nat, s.getD 0 0 = h := ⟨(s.getD 0 0).toNat, by have := (hsb (s.getD 0 0) (by rw [List.getD_eq_getElem?_getD, List.getElem?_eq_getElem (by omega : 0 < s.length)]; exact List.getElem_mem _)).1; omega⟩
  have hh256 : h < 256 := by have := (hsb (s.getD 0 0) (by rw [List.getD_eq_getElem?_getD, List.getElem?_eq_getElem (by omega : 0 < s.length)]; exact List.getElem_mem _)).2; omega
  have hop : openP n sf df = if 1 < (h : Int) then none else if s = superB h r u then (if (allB n : Int) < u then none else match splitB u ((halfB n sf df h).take u) with | none => none | some L => if (L.length : Int) = r then some (h, L) else none) else none := by
    unfold openP
    rw [← HS.out, hh, hr, hu]
    simp only [Int.toNat_natCast]
    rfl
  have hs0 : (sc s)[0]? = some (.int .u8 h) := by
    have := hh
    rw [List.getD_eq_getElem?_getD, List.getElem?_eq_getElem (by omega : 0 < s.length)] at this
    simp only [Option.getD_some] at this
    simp [sc, List.getElem?_map, List.getElem?_eq_getElem (by omega : 0 < s.length), this]
  have HOP := Lib.hid hop; have HS64 := Lib.hid hs64; have HSB := Lib.hid hsb; have HR := Lib.hid hr; have HU := Lib.hid hu; have HBY := Lib.hid hby; have HS0 := Lib.hid hs0
  have HD := Lib.hid H
  have HOPH := Lib.hid hh
  clear hop hs64 hsb hr hu hby hs0 H hh
  obtain ⟨z, HZ, hz⟩ := zsec_named
  have Hz := Lib.hid hz; clear hz
  go_enter Try.func16, Try.ntmps16
  go_wp2_with (first
    | (go_at_call 42; refine (len_any d sb mb n sf df _ HD.out).mono ?_; rintro e w1 ⟨rfl, rfl⟩)
    | (go_at_call 39; refine (read_in d sb mb n sf df 0 _ (HD.out.alloc _) (by omega)).mono ?_; rintro e w2 ⟨rfl, hb2⟩; rw [← HS.out]
       have K2 := Lib.hid ((Blk.new w1 (TC0 d) 89).below hb2); have B2 := Lib.hid (bthen (balloc (Below.refl w1.heap.size w1) _) hb2); have D2 := Lib.hid ((HD.out.alloc _).below hb2); clear hb2)
    | ((with_reducible refine sec_alloc secT1 HZ rfl rfl ?_); try simp only [World.size_alloc])
    | ((with_reducible refine is_store 55 (x := .tmp 5) rfl ?_); refine sec_store secT1 rfl _ _ rfl w2.heap.size 0 s HS64.out rfl rfl ((Blk.new _ _ _).secThere Hz.out) ?_;
       have bW : Below w2.heap.size w2 ((w2.alloc (.cells (sc z).toArray 55)).setCells w2.heap.size 0 (sc s)) := below_cells ((Below.refl _ _).alloc (Nat.le_refl _) _) (Nat.le_refl _) _ _;
       have Jw3 := Lib.hid ((Blk.new w2 (sc z).toArray 55).secStore (s' := s) (Hz.out.trans HS64.out.symm));
       have K3 := Lib.hid (K2.out.below bW);
       have B3 := Lib.hid (bthen B2.out bW);
       have D3 := Lib.hid (D2.out.below bW);
       have zw3 := bW.size; clear bW; generalize ((w2.alloc (.cells (sc z).toArray 55)).setCells w2.heap.size 0 (sc s)) = w3 at *))
  have rd1 := Lib.hid (sec_rd Jw3.out HS64.out 1 4 (by omega)); have rd5 := Lib.hid (sec_rd Jw3.out HS64.out 5 4 (by omega))
  have n1 : ∀ k, Calls Try.prog 48 #[.slice (some ⟨w2.heap.size, 1, none⟩) 4 63] (w3.drewN k) fun e w' => e = .returned (.int .i64 r) ∧ w' = w3.drewN k := fun k => by
    have := number_any (some ⟨w2.heap.size, 1, none⟩) 4 63 _ (w3.drewN k) (rd1.out.keep (fun _ _ _ _ => rfl) (Nat.le_refl _)) (by omega) (okB_take (okB_drop HSB.out 1) 4)
    rwa [HR.out] at this
  have n5 : ∀ k, Calls Try.prog 48 #[.slice (some ⟨w2.heap.size, 5, none⟩) 4 59] (w3.drewN k) fun e w' => e = .returned (.int .i64 u) ∧ w' = w3.drewN k := fun k => by
    have := number_any (some ⟨w2.heap.size, 5, none⟩) 4 59 _ (w3.drewN k) (rd5.out.keep (fun _ _ _ _ => rfl) (Nat.le_refl _)) (by omega) (okB_take (okB_drop HSB.out 5) 4)
    rwa [HU.out] at this
  have N1 := Lib.hid n1; have N5 := Lib.hid n5; clear n1 n5
  have c5 : w3.cell? ⟨w2.heap.size, 0, none⟩ = some (.int .u8 h) := by rw [Jw3.out.cell]; simpa using HS0.out
  have f1 := K3.out.fr 1
  have k1 : w3.cell? ⟨w1.heap.size, 1, none⟩ = some (.int .i64 0) := by rw [K3.out.cell]; rfl
  have kl := K3.out.lt
  go_quiet (first
    | (go_at_call 48; with_reducible refine Calls.quiet_of_same (N1.out _))
    | (go_at_call 48; with_reducible refine Calls.quiet_of_same (N5.out _)))
  rename_i nq
  go_wp2
  have hne : w2.heap.size ≠ w1.heap.size := by have := K2.out.lt; omega
  have K4 := Lib.hid (show Blk ((w3.drewN nq).setCell ⟨w1.heap.size, 1, none⟩ (.int .i64 h)) w1.heap.size (TC d h (.slice none 0 0) 0 (.slice none 0 0) false 0) 89 from (K3.out.keep (w' := w3.drewN nq) rfl).set 1 _)
  have J4 := Lib.hid ((Jw3.out.keep (w' := w3.drewN nq) rfl).setOther hne 1 (.int .i64 h))
  obtain ⟨dl1, dl2, dl3⟩ := HD.out.lt
  have HDL := Lib.hid HD.out.lt
  have D4 := Lib.hid (D3.out.keep (w' := (w3.drewN nq).setCell ⟨w1.heap.size, 1, none⟩ (.int .i64 h)) (Below.heap_setCell _ _ _ _ (by show d ≠ w1.heap.size; omega)) (Below.heap_setCell _ _ _ _ (by show sb ≠ w1.heap.size; omega)) (Below.heap_setCell _ _ _ _ (by show mb ≠ w1.heap.size; omega)))
  have B4 := Lib.hid ((below_drewN B3.out nq).setCell (p := ⟨w1.heap.size, 1, none⟩) (Nat.le_refl _) (.int .i64 h))
  clear c5 f1 k1 kl N1 N5 rd1 rd5 K3 Jw3 D3 B3 K2 B2 D2 zw3
  generalize hw4 : (w3.drewN nq).setCell ⟨w1.heap.size, 1, none⟩ (.int .i64 h) = w4 at *
  clear hw4
  generalize hg : w2.heap.size = g at *
  clear hg
  obtain ⟨t, ht⟩ : ∃ t, t = w1.heap.size := ⟨_, rfl⟩
  rw [← ht] at K4 ⊢
  have HT := Lib.hid ht; clear ht hne
  have c41 := K4.out.cell 1; have c42 := K4.out.cell 2
  simp [TC] at c41 c42
  have tl := K4.out.lt; have gl := J4.out.lt
  have hC2 : (allB n : Int) < u := by have e3 := HU.out; rw [← HS.out, e3] at hC; exact hC
  clear hC
  have hB2 : s = superB h r u := by have e1 := HOPH.out; have e2 := HR.out; have e3 := HU.out; rw [← HS.out, e1, e2, e3] at hB; exact hB
  have hh1 : h ≤ 1 := by have e := HOPH.out; rw [← HS.out, e] at hA; omega
  have hd : decide ((1 : Int) < (h : Int)) = false := decide_eq_false (by omega)
  clear hA
  obtain ⟨q, hq⟩ : ∃ q, superB h r u = q := ⟨_, rfl⟩
  have hq64 : q.length = 64 := by rw [← hq]; exact fillS_len _
  have hsup : ∀ W, Calls Try.prog 49 #[.int .i64 h, .int .i64 r, .int .i64 u] W fun e w' => e = .returned (.agg (sc q).toArray) ∧ Below W.heap.size W w' := fun W => by
    rw [← hq]; exact super_any h r u W (by omega) (by omega) (by omega) (by omega)
  have HSUP := Lib.hid hsup; have HQ := Lib.hid hq; have HQ64 := Lib.hid hq64
  clear hsup hq hq64
  have hu' := Try.underlying55
  have hi : (Try.prog.info? 55).map (·.size) = some (sc s).length := by rw [sc_len, HS64.out]; exact secSize
  have hl : (sc s).length = 64 := by rw [sc_len, HS64.out]
  have hone := sc_one s
  have hr4 := J4.out.sec
  have heq : ∀ W : World, (Op.equalIn 10000 55 (.agg (sc s).toArray) (.agg (sc q).toArray)).run Try.prog W = .ok true W := fun W => by
    rw [sec_eq Try.underlying55 s q HS64.out HQ64.out W]
    have : s = q := by rw [← HQ.out]; exact hB2
    simp [this]
  have HB2 := Lib.hid hB2
  clear hB hB2
  have hall : ∀ W, Below w4.heap.size w4 W → Calls Try.prog 50 #[.pointer (some ⟨t, 0, none⟩)] W fun e w' => e = .returned (.int .i64 (allB n : Nat)) ∧ w' = W := fun W hW =>
    all_any t d sb mb n sf df W ((⟨⟨_, K4.out, rfl⟩, D4.out⟩ : TapeD w4 t d sb mb n sf df).below hW) (by omega)
  have HALL := Lib.hid hall; clear hall
  have hab := allB_le hsm
  have X4 := Lib.hid (bdrew (Below.refl w4.heap.size w4))
  first | go_region_held3 (fun W => W.cell? ⟨t, 1, none⟩ = some (.int .i64 h) ∧ W.rangeAt g 0 (sc s)) (first | exact ⟨r1, r2⟩ | go_keep)
    (first
      | (go_at_call 49; refine (HSUP.out _).mono ?_; rintro e w5 ⟨rfl, hb5⟩
         have r1 := (hb5.cell (p := ⟨t, 1, none⟩) tl).trans c41; have r2 : w5.rangeAt g 0 (sc s) := rangeAt_keep hr4 (hb5.block _ gl)
         have B5 := Lib.hid (bthen (bdrew B4.out) hb5); have K5 := Lib.hid (K4.out.drew.below hb5); have D5 := Lib.hid (((D4.out.keep (w' := w4.drew) rfl rfl rfl)).below hb5); have z5 : w4.heap.size ≤ w5.heap.size := hb5.size; have B45 := Lib.hid (bthen X4.out hb5); clear hb5)
      | (go_at_call 50; refine (HALL.out _ ?_).mono ?_; exact B45.out; rintro e w6 ⟨rfl, rfl⟩)) | fail
  all_goals
    go_wp2
    go_ret2
    have e := HOP.out
    rw [if_neg (by omega), if_pos HB2.out, if_pos hC2] at e
    unfold OpenPost
    rw [e]
    exact ⟨B5.out, rfl⟩
end Go.Proofs.Ytlgimhhhlpmjcaa
