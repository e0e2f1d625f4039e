/- ObjectsQueue: the walk. -/
import Derived.Test.YtnffkefhajodmaaObjS
import Derived.Test.YtnffkefhajodmaaObjF
set_option linter.unusedVariables false
set_option linter.unusedSimpArgs false
namespace Go.Proofs.Ytnffkefhajodmaa
open Go.RowKit

set_option maxRecDepth 100000 in
set_option maxHeartbeats 1000000 in
theorem queue_small (A : Option Addr) (n c : Nat) (xs : List ByteArray) (w : World) (h : RdS w A n xs) (hn : n ≤ 100) :
    Calls Try.prog 4 #[.slice A n c] w fun e w' => e = .returned (.bool true) ∧ Below w.heap.size w w' := by
  have hnn : ¬ (100 < (n : Int)) := by omega
  have hfl := fieldN
  have Hl := Lib.hid h.len
  have HH := Lib.hid h; clear h
  go_enter Try.func4, Try.ntmps4
  go_wp2_with fail
  refine (new_any w).mono ?_
  rintro e w1 ⟨rfl, rfl⟩
  have s1 : StIs ((w.alloc (.map #[] 0)).alloc (.cells #[.map (some w.heap.size), .int .i64 0, .slice none 0 0] 74 (0, 0))) (w.heap.size + 1) (.map (some w.heap.size)) (.slice none 0 0) 0 := Blk.newAt (w.alloc _) _ _ _ (by simp)
  have b1 : Below w.heap.size w ((w.alloc (.map #[] 0)).alloc (.cells #[.map (some w.heap.size), .int .i64 0, .slice none 0 0] 74 (0, 0))) := ((Below.refl _ _).alloc (Nat.le_refl _) _).alloc (by simp) _
  generalize hw1 : (w.alloc (.map #[] 0)).alloc (.cells #[.map (some w.heap.size), .int .i64 0, .slice none 0 0] 74 (0, 0)) = w1 at *
  clear hw1
  have S1 := Lib.hid s1; clear s1
  have B1 := Lib.hid b1; clear b1
  go_wp2
  go_loopw [5, 4] (fun i v wr => ∃ (k : Nat) (q : Value), k ≤ n ∧ i = .int .i64 k ∧ Below w.heap.size w wr ∧ Hid (StIs wr (w.heap.size + 1) (.map (some w.heap.size)) q 0) ∧ Hid (QIs wr w.heap.size q (accQ (xs.take k))) ∧ Hid (QIs wr w.heap.size v (accQ (xs.take k))) ∧ Hid (Apart v q)) (fun i _ _ => n - (intOf i).toNat)
  case atStart => exact ⟨0, .slice none 0 0, Nat.zero_le _, rfl, B1.out, S1, .inl ⟨rfl, rfl⟩, .inl ⟨rfl, rfl⟩, Apart.nil _⟩
  case round =>
    obtain ⟨k, q, hk, rfl, hb, hs, hq, hv, ha⟩ := hrel
    by_cases hlt : k < n
    · obtain ⟨b, off, rfl, hc⟩ := HH.out.at' (by omega)
      have hk1 : k < xs.length := by rw [Hl.out]; exact hlt
      have hck0 := hc k hk1
      have hbn : b < w.heap.size := World.block_lt_of_cell? w _ hck0
      have hck := (hb.cell (p := ⟨b, off + k, none⟩) hbn).trans hck0
      have hzr := hb.size
      clear hck0
      have e4 := accQ_succ xs k hk1
      have e5 := accQ_len (xs.take k)
      generalize hx : xs[k] = x at *
      generalize hqq : accQ (xs.take k) = qs at *
      clear hc hx hqq
      have E4 := Lib.hid e4; clear e4
      obtain ⟨va, vc, rfl⟩ := hv.out.form
      by_cases h60 : x.size ≤ 60
      · have h60' : ¬ (60 : Int) < (x.size : Int) := by omega
        by_cases h30 : qs.length < 30
        · have h30' : ((qs.length : Int) == 30) = false := by simp; omega
          go_wp2_with fail
          refine (do_push (w.heap.size + 1) _ q 0 0 ⟨#[]⟩ x w.heap.size qs wr hs.out hq.out h30 hzr (right6 x h60)).mono ?_
          rintro e w5 ⟨q', rfl, S5, Q5, K5, AT5⟩
          have B5 := K5.below hzr (fun j hj => by
            rcases hj with rfl | hj
            · omega
            · exact (hq.out.lo j hj.symm).1)
          have V5 : QIs w5 w.heap.size (.slice va qs.length vc) qs := hv.out.beside hs.out K5 ha.out
          have A5 : Apart (.slice va qs.length vc) q' := by
            intro j hj
            rcases AT5 with e | ⟨j', e, hj'⟩
            · rw [e]; exact ha.out j hj
            · rw [e]; intro e; have := (hv.out.lo j hj).2; injection e; omega
          have hck5 := (B5.cell (p := ⟨b, off + k, none⟩) hbn).trans hck
          have hz5 := B5.size
          have hb5 : b < w5.heap.size := by omega
          have HS5 := Lib.hid S5; have HQ5 := Lib.hid Q5; have HB5 := Lib.hid (hb.trans B5); have HV5 := Lib.hid V5; have HA5 := Lib.hid A5
          clear S5 Q5 K5 AT5 B5 V5 A5
          have R5 : Blk ((w5.alloc (.cells #[.bool false, .string ⟨#[]⟩, .int .i64 ((qs.length + 1 : Nat) : Int), .int .i64 0] 29)).alloc (.cells #[.string x] 9)) w5.heap.size #[.bool false, .string ⟨#[]⟩, .int .i64 ((qs.length + 1 : Nat) : Int), .int .i64 0] 29 := (Blk.new _ _ _).alloc _
          have N5 := Blk.newAt (w5.alloc (.cells #[.bool false, .string ⟨#[]⟩, .int .i64 ((qs.length + 1 : Nat) : Int), .int .i64 0] 29)) #[.string x] 9 (w5.heap.size + 1) (by simp)
          have HR5 := Lib.hid R5; have HN5 := Lib.hid N5; clear R5 N5
          have HVR : Hid (some w5.heap.size ≠ (Value.slice va qs.length vc).ownBlock) := fun e => by
            have := (HV5.out.lo _ e.symm).2
            omega
          have HVQ : Hid (q'.ownBlock = none ∨ q'.ownBlock ≠ (Value.slice va qs.length vc).ownBlock) := by
            show _ ∨ _
            cases hq' : q'.ownBlock with
            | none => exact .inl rfl
            | some j => exact .inr fun e => HA5.out j e.symm hq'
          go_wp2_with (at_builtin; refine list_app_q rfl (.tmp 47) (.tmp 52) rfl w.heap.size _ qs ((HV5.out.alloc _).alloc _) rfl (w5.heap.size + 1) x rfl (HN5.out.cell 0) (by omega) ?_ ?_; (simp; omega); intro g' off' cap' w6 Q6 G6 AT6; have HQ6 := Lib.hid Q6; have HG6 := Lib.hid G6; have HAT := Lib.hid AT6; clear Q6 G6 AT6; have R6 := Lib.hid (HR5.out.grown HG6.out HVR.out); have r62 := R6.out.cell 2; have r63 := R6.out.cell 3; simp at r62 r63; have S6 := Lib.hid (((HS5.out.alloc _).alloc _).grown HG6.out (HV5.out.ne HS5.out.blk (by decide))); have Q6 := Lib.hid (((HQ5.out.alloc _).alloc _).grown HG6.out HVQ.out))
          have hds := do_size (w.heap.size + 1) _ q' 0 0 ⟨#[]⟩ ⟨#[]⟩ w.heap.size (qs ++ [x]) w6 S6.out Q6.out right8
          simp only [List.length_append, List.length_cons, List.length_nil, Nat.zero_add] at hds
          refine hds.mono ?_
          clear hds
          rintro e w7 ⟨rfl, hb7⟩
          have HB7 := Lib.hid hb7; clear hb7
          go_wp2
          go_roundw
          case rel =>
            have eq1 : accQ1 qs x = qs ++ [x] := by unfold accQ1; rw [if_pos ⟨h60, h30⟩]
            have hz7 := HB7.out.size
            have hz6 := HG6.out.size
            simp only [World.size_alloc] at hz6
            refine ⟨k + 1, q', by omega, by go_num, ?_, S6.out.below HB7.out, ?_, ?_, ?_⟩
            · refine below_trans ?_ HB7.out (by omega)
              exact (((HB5.out.alloc (by omega) _).alloc (by simp; omega) _).grown HG6.out (by simp; omega) (fun j e => (HV5.out.lo j e).1))
            · rw [E4.out, eq1]; exact Q6.out.below HB7.out
            · rw [E4.out, eq1]; exact HQ6.out.below HB7.out
            · intro j hj e
              have hj' : g' = j := Option.some.inj hj
              subst hj'
              rcases HAT.out with h | h
              · exact HA5.out _ h e
              · have := (HQ5.out.lo _ e).2
                simp only [World.size_alloc] at h
                omega
          case measure => simp [intOf]; omega
        · have h30'' : ((qs.length : Int) == 30) = true := by simp; omega
          go_wp2_with fail
          refine (do_push_full (w.heap.size + 1) _ q 0 0 ⟨#[]⟩ x w.heap.size qs wr hs.out hq.out h30 (by omega) (right6 x h60)).mono ?_
          rintro e w5 ⟨rfl, hb5⟩
          have hck5 := (hb5.cell (p := ⟨b, off + k, none⟩) (by show b < _; omega)).trans hck
          have hbb5 : b < w5.heap.size := by have := hb5.size; omega
          have HB5 := Lib.hid hb5; clear hb5
          go_wp2
          go_roundw
          case rel =>
            have eq1 : accQ1 qs x = qs := by unfold accQ1; rw [if_neg (by omega)]
            refine ⟨k + 1, q, by omega, by go_num, below_trans hb (HB5.out.alloc HB5.out.size _) hzr, ?_, ?_, ?_, ha⟩
            · exact (hs.out.below HB5.out).alloc _
            · rw [E4.out, eq1]; exact (hq.out.below HB5.out).alloc _
            · rw [E4.out, eq1]; exact (hv.out.below HB5.out).alloc _
          case measure => simp [intOf]; omega
      · have h60' : (60 : Int) < (x.size : Int) := by omega
        go_wp2_with fail
        refine (do_wrong (w.heap.size + 1) 6 0 ⟨#[]⟩ x wr (right6' x h60)).mono ?_
        rintro e w5 ⟨rfl, hb5⟩
        have hck5 := (hb5.cell (p := ⟨b, off + k, none⟩) (by show b < _; omega)).trans hck
        have hbb5 : b < w5.heap.size := by have := hb5.size; omega
        have HB5 := Lib.hid hb5; clear hb5
        go_wp2
        go_roundw
        case rel =>
          have eq1 : accQ1 qs x = qs := by unfold accQ1; rw [if_neg (by omega)]
          refine ⟨k + 1, q, by omega, by go_num, below_trans hb (HB5.out.alloc HB5.out.size _) hzr, ?_, ?_, ?_, ha⟩
          · exact (hs.out.below HB5.out).alloc _
          · rw [E4.out, eq1]; exact (hq.out.below HB5.out).alloc _
          · rw [E4.out, eq1]; exact (hv.out.below HB5.out).alloc _
        case measure => simp [intOf]; omega
    · have : k = n := by omega
      subst this
      have e : xs.take k = xs := List.take_of_length_le (by rw [Hl.out]; exact Nat.le_refl _)
      rw [e] at hq hv
      have HB := Lib.hid hb; clear hb
      have e5 := accQ_len xs
      generalize accQ xs = qs at *
      clear e
      obtain ⟨va, vc, rfl⟩ := hv.out.form
      go_wp2
      go_loopw [7] (fun i wr => ∃ (j : Nat) (q : Value), j ≤ qs.length ∧ i = .int .i64 j ∧ Below w.heap.size w wr ∧ Hid (StIs wr (w.heap.size + 1) (.map (some w.heap.size)) q 0) ∧ Hid (QIs wr w.heap.size q (qs.drop j)) ∧ Hid (QIs wr w.heap.size (.slice va qs.length vc) qs) ∧ Hid (Apart (.slice va qs.length vc) q)) (fun i _ => qs.length - (intOf i).toNat)
      case atStart => exact ⟨0, q, Nat.zero_le _, rfl, HB.out, hs, hq, hv, ha⟩
      case round =>
        obtain ⟨j, q, hj, rfl, hb, hs, hq, hv, ha⟩ := hrel
        by_cases hlt2 : j < qs.length
        · have hdr : qs.drop j = qs[j] :: qs.drop (j + 1) := List.drop_eq_getElem_cons hlt2
          rw [hdr] at hq
          obtain ⟨g, off, cap, hvv, hg, hc⟩ := hv.out.at hlt2
          cases hvv
          have hzr := hb.size
          have hl : (qs.drop (j + 1)).length ≤ 1000000 := by simp; omega
          have EQ := Lib.hid (rfl : qs.drop (j + 1) = qs.drop (j + 1))
          generalize hx : qs[j] = x at *
          generalize hrest : qs.drop (j + 1) = rest at *
          have HX := Lib.hid hx
          clear hx hdr
          have HR := Lib.hid hrest; clear hrest EQ
          go_wp2_with fail
          refine (do_pop (w.heap.size + 1) _ q 0 0 ⟨#[]⟩ ⟨#[]⟩ w.heap.size x rest wr hs.out hq.out hl right7).mono ?_
          rintro e w5 ⟨q', rfl, S5, Q5, K5, AT5⟩
          have B5 := K5.below hzr (fun i hi => by
            rcases hi with rfl | hi
            · omega
            · exact (hq.out.lo i hi.symm).1)
          have V5 := hv.out.beside hs.out K5 ha.out
          have A5 : Apart (.slice (some ⟨g, off, none⟩) qs.length vc) q' := fun i hi => by rw [AT5]; exact ha.out i hi
          obtain ⟨g5, off5, cap5, hv5, hg5, hc5⟩ := V5.at hlt2
          cases hv5
          have hxj : qs[j] = x := HX.out
          rw [hxj] at hc5
          have HS5 := Lib.hid S5; have HQ5 := Lib.hid Q5; have HB5 := Lib.hid (hb.trans B5); have HV5 := Lib.hid V5; have HA5 := Lib.hid A5
          clear S5 Q5 K5 AT5 B5 V5 A5
          go_wp2
          go_quiet (fail)
          go_wp2
          go_roundw
          case rel =>
            refine ⟨j + 1, q', by omega, by go_num, below_drewN (HB5.out.alloc HB5.out.size _) _, (HS5.out.alloc _).drewN _, ?_, (HV5.out.alloc _).drewN _, HA5.out⟩
            rw [HR.out]; exact (HQ5.out.alloc _).drewN _
          case measure => simp [intOf]; omega
        · have : j = qs.length := by omega
          subst this
          rw [List.drop_length] at hq
          have HB2 := Lib.hid hb; clear hb
          go_wp2_with fail
          refine (do_pop_none (w.heap.size + 1) _ q 0 0 ⟨#[]⟩ ⟨#[]⟩ w.heap.size wr hs.out hq.out right7).mono ?_
          rintro e w5 ⟨rfl, hb5⟩
          have S5 := Lib.hid ((hs.out.below hb5).alloc (.cells #[.bool false, .string ⟨#[]⟩, .int .i64 0, .int .i64 0] 29))
          have Q5 := Lib.hid ((hq.out.below hb5).alloc (.cells #[.bool false, .string ⟨#[]⟩, .int .i64 0, .int .i64 0] 29))
          have R5 := Lib.hid (Blk.new w5 #[.bool false, .string ⟨#[]⟩, .int .i64 0, .int .i64 0] 29)
          have hz := HB2.out.size
          have B5 := Lib.hid ((below_trans HB2.out hb5 hz).alloc (by have := hb5.size; omega) (.cells #[.bool false, .string ⟨#[]⟩, .int .i64 0, .int .i64 0] 29))
          have hz5 := hb5.size
          clear hb5
          go_wp2_with (first
            | (go_at_call 13; refine (alive_any _).mono ?_; rintro e w8 ⟨rfl, hb8⟩; have R8 := Lib.hid (R5.out.below hb8); have r80 := R8.out.cell 0; have r81 := R8.out.cell 1; simp at r80 r81; have S8 := Lib.hid (S5.out.below hb8); have Q8 := Lib.hid (Q5.out.below hb8); have B8 := Lib.hid (below_trans B5.out hb8 (by simp; omega)); have hz8 := hb8.size; simp only [World.size_alloc] at hz8; have HB8 := Lib.hid hb8; clear hb8)
            | (go_at_call 14; refine (queue_empty _ _ _ _ _ _ S8.out Q8.out).mono ?_; rintro e w9 ⟨⟨a9, c9, rfl⟩, hb9⟩; have HB9 := Lib.hid hb9; clear hb9))
          go_ret
          exact ⟨rfl, below_trans B8.out HB9.out (by have := HB2.out.size; omega)⟩

theorem queue_big (A : Option Addr) (n c : Nat) (w : World) (hn : 100 < n) (hm : n ≤ 9223372036854775807) :
    Calls Try.prog 4 #[.slice A n c] w fun e w' => e = .returned (.bool true) ∧ Below w.heap.size w w' := by
  have hnn : (100 < (n : Int)) := by omega
  go_enter Try.func4, Try.ntmps4
  go_wp2_with fail
  refine (new_any w).mono ?_
  rintro e w1 ⟨rfl, rfl⟩
  go_wp2
  go_ret
  exact ⟨rfl, ((Below.refl _ _).alloc (Nat.le_refl _) _).alloc (by simp) _⟩

end Go.Proofs.Ytnffkefhajodmaa
