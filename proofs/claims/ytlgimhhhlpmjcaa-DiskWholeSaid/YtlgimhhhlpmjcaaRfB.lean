/- The document's disk: Is, Write, Flush. -/
import Derived.Test.YtlgimhhhlpmjcaaRfA
set_option linter.unusedVariables false
set_option linter.unusedSimpArgs false
namespace Go.Proofs.Ytlgimhhhlpmjcaa
open Go.RowKit Go.Maps Go.WideMaps Go.Shelf

theorem is_any (m ab bb cb n : Nat) (nw ol : List Sec) (dd : List Bool) (i : Int) (w : World) (h : RefIs w m ab bb cb n nw ol dd) :
    Calls Try.prog 40 #[.pointer (some ⟨m, 0, none⟩), .int .i64 i] w fun e w' => e = .returned (.bool (inD n i)) ∧ w' = w := by
  obtain ⟨c1, c2, c3, hb⟩ := h.blk
  have k0 := hb.cell 0
  simp at k0
  have hn := h.small
  clear h
  by_cases h0 : 0 ≤ i
  · by_cases h1 : i < n
    · rw [inD_of h0 h1]
      go_enter Try.func40, Try.ntmps40
      go_wp2
      go_ret
      exact ⟨by simp [h1], rfl⟩
    · have e : inD n i = false := by simp [inD, h1]
      rw [e]
      go_enter Try.func40, Try.ntmps40
      go_wp2
      go_ret
      exact ⟨by simp <;> omega, rfl⟩
  · have e : inD n i = false := by simp [inD, h0]
    have h0' : decide (0 ≤ i) = false := decide_eq_false h0
    rw [e]
    go_enter Try.func40, Try.ntmps40
    go_wp2
    go_ret
    exact ⟨rfl, rfl⟩

def RefWritePost (w : World) (m ab bb cb n : Nat) (nw ol : List Sec) (dd : List Bool) (x : Int) (e : Ending) (w' : World) : Prop :=
  e = .returned (.int .i64 x) ∧ RefIs w' m ab bb cb n nw ol dd ∧ Kept w w' (fun k => k = ab ∨ k = cb)
theorem bl_set (dd : List Bool) (i : Nat) (b : Bool) : (bl dd).setIfInBounds i (.bool b) = bl (dd.set i b) := by
  unfold bl
  rw [List.setIfInBounds_toArray, List.map_set]
theorem bl_get {dd : List Bool} {i : Nat} (h : i < dd.length) : (bl dd)[i]? = some (.bool dd[i]) := by simp [bl, h]

set_option maxRecDepth 100000 in
theorem rwrite_in (m ab bb cb n : Nat) (nw ol : List Sec) (dd : List Bool) (i : Nat) (s : Sec) (w : World) (h : RefIs w m ab bb cb n nw ol dd) (hi : i < n) (hs : s.length = 64) :
    Calls Try.prog 32 #[.pointer (some ⟨m, 0, none⟩), .int .i64 i, .agg (sc s).toArray] w (RefWritePost w m ab bb cb n (nw.set i s) ol (dd.set i true) 0) := by
  have bq : Below w.heap.size w (w.alloc (.cells (sc s).toArray 58)) := (Below.refl _ _).alloc (Nat.le_refl _) _
  have hA := h.below bq
  have his := is_any m ab bb cb n nw ol dd i _ hA
  rw [inD_of (by omega) (by omega)] at his
  have HIS := Lib.hid his; clear his
  have K := Lib.hid (Blk.new w (sc s).toArray 58)
  have HA := Lib.hid hA; have HS := Lib.hid hs; have BQ := Lib.hid bq
  obtain ⟨l1, l2, l3, l4⟩ := h.lt
  obtain ⟨c1, c2, c3, hb⟩ := hA.blk
  have NS := Lib.hid hA.ns
  have k0 := hb.cell 0; have k2 := hb.cell 2
  simp at k0 k2
  have HB := Lib.hid hb
  have hn := h.small
  have hi0 : (0 : Int) ≤ (i : Int) := by omega
  have hin : (i : Int) < n := by omega
  have hli : i < nw.length := by rw [h.la]; exact hi
  have HLI := Lib.hid hli
  have hld : i < dd.length := by rw [h.lc]; exact hi
  have HLD := Lib.hid hld
  clear hA h hb hs bq hli hld
  go_enter Try.func32, Try.ntmps32
  go_wp2_with (go_at_call 40; refine HIS.out.mono ?_; rintro e w1 ⟨rfl, rfl⟩)
  refine region_tail 7 (by kernel_rfl) (by kernel_rfl) ?_
  simp only [List.take_succ_cons, List.take_zero, List.drop_succ_cons, List.drop_zero]
  still_step; still_step; still_step; still_step; still_step
  refine sec_still_w secT2 (by rfl) _ rfl w.heap.size 0 rfl s HS.out K.out.sec ?_
  still_step
  refine wpStill_nil ?_
  refine sec_store secT2 rfl _ _ rfl ab (i * 64) s HS.out rfl rfl (HA.out.a.there i HLI.out (HA.out.ea _ (List.getElem_mem HLI.out))) ?_
  have hkp : Kept (w.alloc (.cells (sc s).toArray 58)) ((w.alloc (.cells (sc s).toArray 58)).drew.setCells ab (i * 64) (sc s)) (fun k => k = ab) := Kept.setCells (S := fun k => k = ab) (Kept.refl _ _).drew rfl _ _
  have ha3 := SecsT.store (w := (w.alloc (.cells (sc s).toArray 58)).drew) (HA.out.a.keep rfl) i HLI.out HA.out.ea s HS.out
  have HKP := Lib.hid hkp; have HA3 := Lib.hid ha3; clear hkp ha3
  have hsz : w.heap.size < ((w.alloc (.cells (sc s).toArray 58)).drew.setCells ab (i * 64) (sc s)).heap.size := by rw [size_setCells]; simp [World.drew]
  generalize (w.alloc (.cells (sc s).toArray 58)).drew.setCells ab (i * 64) (sc s) = w3 at *
  obtain ⟨n1, n2, n3, n4, n5, n6⟩ := NS.out
  have hb3 := HB.out.kept HKP.out n1
  have hc3 := HA.out.c.kept HKP.out (fun e => n4 e.symm)
  have j2 := hb3.cell 2
  have e2 := hc3.cell i
  rw [bl_get HLD.out] at e2
  have f2 := hc3.fr i
  simp at j2
  have HB3 := Lib.hid hb3; have HC3 := Lib.hid hc3
  have hcl := hc3.lt
  clear hb3 hc3 k0 k2
  go_wp2
  go_ret
  have ec : Blk (w3.setCell ⟨cb, i, none⟩ (.bool true)) cb (bl (dd.set i true)) 4 := by rw [← bl_set]; exact HC3.out.set i _
  refine ⟨rfl, ⟨⟨c1, c2, c3, HB3.out.setOther n3 _ _⟩, HA3.out.keep (Below.heap_setCell _ _ _ _ n4), (HA.out.b.keep ((Below.heap_setCell _ _ _ _ n5).trans (HKP.out.block _ HA.out.b.lt n6.symm))), ec, by rw [List.length_set]; exact HA.out.la, HA.out.lb, by rw [List.length_set]; exact HA.out.lc, hn, ?_, HA.out.eb, n6⟩, ?_⟩
  · intro x hx
    rcases List.mem_or_eq_of_mem_set hx with h | h
    · exact HA.out.ea x h
    · rw [h]; exact HS.out
  · exact (Kept.behind BQ.out (HKP.out.mono (fun k _ h => .inl h))).set (.inr rfl) _
theorem rwrite_out (m ab bb cb n : Nat) (nw ol : List Sec) (dd : List Bool) (i : Int) (s : Sec) (w : World) (h : RefIs w m ab bb cb n nw ol dd) (hi : inD n i = false) :
    Calls Try.prog 32 #[.pointer (some ⟨m, 0, none⟩), .int .i64 i, .agg (sc s).toArray] w (RefWritePost w m ab bb cb n nw ol dd 41) := by
  have bq : Below w.heap.size w (w.alloc (.cells (sc s).toArray 58)) := (Below.refl _ _).alloc (Nat.le_refl _) _
  have hA := h.below bq
  have his := is_any m ab bb cb n nw ol dd i _ hA
  rw [hi] at his
  have HIS := Lib.hid his; have HA := Lib.hid hA; have BQ := Lib.hid bq; clear his hA h bq
  go_enter Try.func32, Try.ntmps32
  go_wp2_with (go_at_call 40; refine HIS.out.mono ?_; rintro e w1 ⟨rfl, rfl⟩)
  go_ret
  exact ⟨rfl, HA.out, Kept.of_below BQ.out _⟩

def mixB (k : Nat) (dd : List Bool) : List Bool := List.replicate k false ++ dd.drop k
theorem mixB_succ {dd : List Bool} {k : Nat} (h : k < dd.length) : (mixB k dd).set k false = mixB (k + 1) dd := by
  unfold mixB
  have e : List.drop k dd = dd[k] :: List.drop (k + 1) dd := List.drop_eq_getElem_cons h
  have this : k - (List.replicate k false).length = 0 := by simp
  rw [e, List.set_append_right _ _ (by simp), this, List.replicate_succ', List.append_assoc]
  rfl
theorem mixB_len {dd : List Bool} {k : Nat} (h : k ≤ dd.length) : (mixB k dd).length = dd.length := by simp [mixB]; omega
theorem mixB_all {dd : List Bool} : mixB dd.length dd = List.replicate dd.length false := by simp [mixB]

set_option maxRecDepth 100000 in
set_option maxHeartbeats 1000000 in
theorem rflush_any (m ab bb cb n : Nat) (nw ol : List Sec) (dd : List Bool) (w : World) (h : RefIs w m ab bb cb n nw ol dd) :
    Calls Try.prog 35 #[.pointer (some ⟨m, 0, none⟩)] w fun e w' => e = .returned (.tuple #[]) ∧ RefIs w' m ab bb cb n nw nw (List.replicate n false) ∧ Kept w w' (fun k => k = bb ∨ k = cb) := by
  have hn := h.small
  have H := Lib.hid h; clear h
  obtain ⟨l1, l2, l3, l4⟩ := H.out.lt
  have NS := Lib.hid H.out.ns
  go_enter Try.func35, Try.ntmps35
  go_wp2
  go_loopw [2] (fun i wr => ∃ k : Nat, k ≤ n ∧ i = .int .i64 k ∧ Hid (RefIs wr m ab bb cb n nw (mixS k nw ol) (mixB k dd)) ∧ Hid (Kept w wr (fun k => k = bb ∨ k = cb))) (fun i _ => n - (intOf i).toNat)
  case atStart => exact ⟨0, Nat.zero_le _, rfl, H, Lib.hid (Kept.refl _ _)⟩
  case round =>
    obtain ⟨k, hk, rfl, hR, hK⟩ := hrel
    obtain ⟨c1, c2, c3, hb⟩ := hR.out.blk
    have k0 := hb.cell 0; have k1 := hb.cell 1; have k2 := hb.cell 2
    simp at k0 k1 k2
    have HB := Lib.hid hb; clear hb
    by_cases hlt : k < n
    · have hlt2 : (k : Int) < n := by omega
      have hk0 : (0 : Int) ≤ (k : Int) := by omega
      have hla : k < nw.length := by rw [H.out.la]; exact hlt
      have hlb : k < (mixS k nw ol).length := by rw [hR.out.lb]; exact hlt
      have hld : k < (mixB k dd).length := by rw [hR.out.lc]; exact hlt
      have hs64 := H.out.ea _ (List.getElem_mem hla)
      have hra := hR.out.a.2 k hla
      have hms := mixS_succ (b := ol) hla (by rw [H.out.lb]; exact hlt)
      have hmb := mixB_succ (dd := dd) (k := k) (by rw [H.out.lc]; exact hlt)
      have hths := hR.out.b.there k hlb (hR.out.eb _ (List.getElem_mem hlb))
      have hes : ∀ x ∈ nw, x.length = 64 := H.out.ea
      generalize nw[k] = s at *
      have HS := Lib.hid hs64; have HRA := Lib.hid hra; have HMS := Lib.hid hms; have HMB := Lib.hid hmb; have HT := Lib.hid hths; have HLB := Lib.hid hlb; have HLD := Lib.hid hld
      clear hs64 hra hms hmb hths hlb hld hla hes
      go_wp2
      refine region_tail 13 (by kernel_rfl) (by kernel_rfl) ?_
      simp only [List.take_succ_cons, List.take_zero, List.drop_succ_cons, List.drop_zero]
      still_step; still_step; still_step; still_step; still_step; still_step; still_step; still_step; still_step; still_step; still_step
      refine sec_still_w secT2 (by rfl) _ rfl ab (k * 64) rfl s HS.out HRA.out ?_
      still_step
      refine wpStill_nil ?_
      refine sec_store secT2 rfl _ _ rfl bb (k * 64) s HS.out rfl rfl HT.out ?_
      have hkp : Kept wr (wr.drew.setCells bb (k * 64) (sc s)) (fun x => x = bb) := Kept.setCells (S := fun x => x = bb) (Kept.refl _ _).drew rfl _ _
      have hb3 := SecsT.store (w := wr.drew) (hR.out.b.keep rfl) k HLB.out hR.out.eb s HS.out
      rw [← HMS.out] at hb3
      have HKP := Lib.hid hkp; have HB3 := Lib.hid hb3; clear hkp hb3
      have hsz : wr.heap.size ≤ (wr.drew.setCells bb (k * 64) (sc s)).heap.size := by rw [size_setCells]; exact Nat.le_refl _
      generalize wr.drew.setCells bb (k * 64) (sc s) = w3 at *
      obtain ⟨n1, n2, n3, n4, n5, n6⟩ := NS.out
      have hm3 := HB.out.kept HKP.out n2
      have hc3 := hR.out.c.kept HKP.out (fun e => n5 e.symm)
      have j2 := hm3.cell 2
      have e2 := hc3.cell k
      rw [bl_get HLD.out] at e2
      have f2 := hc3.fr k
      simp at j2
      have HM3 := Lib.hid hm3; have HC3 := Lib.hid hc3
      have hcl := hc3.lt
      clear hm3 hc3 k0 k1 k2
      go_wp2
      have ec : Blk (w3.setCell ⟨cb, k, none⟩ (.bool false)) cb (bl (mixB (k + 1) dd)) 4 := by rw [← HMB.out, ← bl_set]; exact HC3.out.set k _
      have EC := Lib.hid ec; clear ec
      try go_frame
      go_roundw
      case rel =>
        refine ⟨k + 1, by omega, by go_num, Lib.hid ⟨⟨c1, c2, c3, HM3.out.setOther n3 _ _⟩, (H.out.a.keep ?_), HB3.out.keep (Below.heap_setCell _ _ _ _ n5), EC.out, H.out.la, ?_, ?_, hn, H.out.ea, ?_, n6⟩, Lib.hid ((hK.out.trans2 (HKP.out.mono (S' := fun x => x = bb ∨ x = cb) (fun k _ h => .inl h)) (fun i _ e => e)).set (.inr rfl) _)⟩
        · exact (Below.heap_setCell _ _ _ _ n4).trans ((HKP.out.block _ hR.out.a.lt n6).trans (hK.out.block _ l2 (fun e => by rcases e with e | e; exact n6 e; exact n4 e)))
        · rw [mixS_len (by rw [H.out.la, H.out.lb]) (by rw [H.out.lb]; omega)]; exact H.out.lb
        · rw [mixB_len (by rw [H.out.lc]; omega)]; exact H.out.lc
        · exact mixS_each H.out.ea H.out.eb
      case measure => simp [intOf]; omega
    · have hkk : k = n := by omega
      subst hkk
      go_wp2
      go_end0
      refine ⟨rfl, ?_, hK.out⟩
      have := hR.out
      rw [mixS_all H.out.la H.out.lb] at this
      have e : mixB k dd = List.replicate k false := by have := mixB_all (dd := dd); rw [H.out.lc] at this; exact this
      rw [e] at this
      exact this
end Go.Proofs.Ytlgimhhhlpmjcaa
