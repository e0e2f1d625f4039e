/- ObjectsKeys: what the walk needs. -/
import Derived.Test.YtnffkefhajodmaaObjY
import Derived.Test.YtnffkefhajodmaaObjK
import Derived.Test.YtnffkefhajodmaaObjN
set_option linter.unusedVariables false
set_option linter.unusedSimpArgs false
namespace Go.Proofs.Ytnffkefhajodmaa
open Go.RowKit Go.Maps

/-- A slice of updates, read. -/
structure RdU (w : World) (A : Option Addr) (n : Nat) (us : List AU) : Prop where
  len : us.length = n
  at' : 0 < n → ∃ b off, A = some ⟨b, off, none⟩ ∧ ∀ i (h : i < us.length), w.cell? ⟨b, off + i * 4, none⟩ = some (.int .i64 us[i].k) ∧ w.cell? ⟨b, off + i * 4 + 1, none⟩ = some (.string us[i].key) ∧ w.cell? ⟨b, off + i * 4 + 2, none⟩ = some (.string us[i].val) ∧ w.cell? ⟨b, off + i * 4 + 3, none⟩ = some (.int .i64 us[i].n)

/-- Whether an update speaks of the key, and was done. -/
def speaks (A : AS) (u : AU) (key : ByteArray) : Prop := u.key = key ∧ (doA A u).1.e = 0 ∧ 1 ≤ u.k ∧ u.k ≤ 3

theorem keep_other (A : AS) (u : AU) (key : ByteArray) (h : ¬ speaks A u key) : getE key (doA A u).2.m = getE key A.m := by
  unfold speaks at h
  unfold doA at *
  split
  · rfl
  rename_i hr
  rw [if_neg hr] at h
  split
  · rename_i h1
    split
    · rfl
    · rename_i hf
      by_cases hk : key = u.key
      · rw [if_pos h1, if_neg hf] at h
        exact absurd ⟨hk.symm, rfl, by omega, by omega⟩ h
      · exact getE_put_other hk _ _
  rename_i h1
  split
  · rename_i h2
    by_cases hk : key = u.key
    · rw [if_neg h1, if_pos h2] at h
      exact absurd ⟨hk.symm, rfl, by omega, by omega⟩ h
    · exact getE_del_other hk _
  rename_i h2
  split
  · rfl
  split
  · rfl
  split
  · rfl
  split
  · split <;> rfl
  split
  · split <;> rfl
  · rfl

theorem speaks_told (A : AS) (u : AU) (key : ByteArray) (h : speaks A u key) : (doA A u).1.is = hasE key A.m ∧ (doA A u).1.text = (getE key A.m).getD ByteArray.empty ∧
    getE key (doA A u).2.m = (if u.k = 1 then some u.val else if u.k = 2 then none else getE key A.m) := by
  obtain ⟨rfl, h2, h3, h4⟩ := h
  unfold doA at *
  by_cases hr : rightB u.k u.key u.val u.n = false
  · rw [if_pos hr] at h2
    simp [errR] at h2
  · rw [if_neg hr] at h2 ⊢
    by_cases h1 : u.k = 1
    · rw [if_pos h1] at h2 ⊢
      by_cases hf : hasE u.key A.m = false ∧ ¬ A.m.length < 30
      · rw [if_pos hf] at h2
        simp [errR] at h2
      · rw [if_neg hf, if_pos h1]
        exact ⟨rfl, rfl, getE_put_same _ _ _⟩
    · rw [if_neg h1] at h2 ⊢
      by_cases hk2 : u.k = 2
      · rw [if_pos hk2, if_neg h1, if_pos hk2]
        exact ⟨rfl, rfl, getE_del_same _ _⟩
      · rw [if_neg hk2, if_pos (by omega), if_neg h1, if_neg hk2]
        exact ⟨rfl, rfl, rfl⟩

theorem toList_inj {a b : ByteArray} (h : a.toList = b.toList) : a = b := by
  exact WideShapes.bytes_inj (by rw [← ByteArray.toList_eq, ← ByteArray.toList_eq, h])

theorem eq_tl (a b : ByteArray) : (a.toList == b.toList) = decide (a = b) := by rw [tl_bk, tl_bk, bk_beq]

set_option maxRecDepth 100000 in
set_option maxHeartbeats 2000000 in
theorem keys_law (A : Option Addr) (n c : Nat) (us : List AU) (key : ByteArray) (w : World) (h : RdU w A n us) :
    Calls Try.prog 5 #[.slice A n c, .string key] w fun e w' => e = .returned (.bool true) ∧ Below w.heap.size w w' := by
  have Hl := Lib.hid h.len
  have HH := Lib.hid h; clear h
  go_enter Try.func5, Try.ntmps5
  go_wp2_with fail
  refine (new_any w).mono ?_
  rintro e w1 ⟨rfl, rfl⟩
  have s1 : ObjIs ((w.alloc (.map #[] 0)).alloc (.cells #[.map (some w.heap.size), .int .i64 0, .slice none 0 0] 74 (0, 0))) w.heap.size (w.heap.size + 1) w.heap.size (.slice none 0 0) ⟨[], 0, []⟩ :=
    ⟨Blk.newAt (w.alloc _) _ _ _ (by simp), (MapIs.made w).alloc _, .inl ⟨rfl, rfl⟩, by omega, Nat.le_refl _, ⟨by simp, by simp, by simp, by simp, by simp, by simp, List.Pairwise.nil⟩⟩
  have b1 : Below w.heap.size w ((w.alloc (.map #[] 0)).alloc (.cells #[.map (some w.heap.size), .int .i64 0, .slice none 0 0] 74 (0, 0))) := ((Below.refl _ _).alloc (Nat.le_refl _) _).alloc (by simp) _
  generalize hw1 : (w.alloc (.map #[] 0)).alloc (.cells #[.map (some w.heap.size), .int .i64 0, .slice none 0 0] 74 (0, 0)) = w1 at *
  clear hw1
  have S1 := Lib.hid s1; clear s1
  have B1 := Lib.hid b1; clear b1
  go_wp2
  go_loopw [8, 6, 7] (fun i v is wr => ∃ (k : Nat) (qv : Value) (A : AS), k ≤ n ∧ i = .int .i64 k ∧ v = .string ((getE key A.m).getD ByteArray.empty) ∧ is = .bool (hasE key A.m) ∧ Below w.heap.size w wr ∧ Hid (ObjIs wr w.heap.size (w.heap.size + 1) w.heap.size qv A)) (fun i _ _ _ => n - (intOf i).toNat)
  case atStart => exact ⟨0, .slice none 0 0, ⟨[], 0, []⟩, Nat.zero_le _, rfl, rfl, rfl, B1.out, S1⟩
  case round =>
    obtain ⟨k, qv, A0, hk, rfl, rfl, rfl, hb, hs⟩ := hrel
    by_cases hlt : k < n ∧ k < 100
    · obtain ⟨hlt, h100⟩ := hlt
      obtain ⟨b, off, rfl, hc⟩ := HH.out.at' (by omega)
      have hk1 : k < us.length := by rw [Hl.out]; exact hlt
      obtain ⟨d0, d1, d2, d3⟩ := hc k hk1
      have hbn : b < w.heap.size := World.block_lt_of_cell? w _ d0
      have hck0 := (hb.cell (p := ⟨b, off + k * 4, none⟩) hbn).trans d0
      have hck1 := (hb.cell (p := ⟨b, off + k * 4 + 1, none⟩) hbn).trans d1
      have hck2 := (hb.cell (p := ⟨b, off + k * 4 + 2, none⟩) hbn).trans d2
      have hck3 := (hb.cell (p := ⟨b, off + k * 4 + 3, none⟩) hbn).trans d3
      have hzr := hb.size
      clear d0 d1 d2 d3 hc
      generalize us[k] = u at *
      obtain ⟨uk, ukey, uval, un⟩ := u
      dsimp only at hck0 hck1 hck2 hck3
      have h100' : (k : Int) < 100 := by omega
      have hlt' : (k : Int) < n := by omega
      have HB := Lib.hid hb; clear hb
      have R0 := Lib.hid (Blk.new wr #[.int .i64 uk, .string ukey, .string uval, .int .i64 un] 32)
      go_wp2_with fail
      refine (fits_any uk un ukey uval _).mono ?_
      rintro e w4 ⟨rfl, hb4⟩
      have O4 := Lib.hid ((hs.out.alloc (.cells #[.int .i64 uk, .string ukey, .string uval, .int .i64 un] 32)).below hb4)
      have K4 := Lib.hid (R0.out.below hb4)
      have B4 := Lib.hid ((HB.out.alloc hzr (.cells #[.int .i64 uk, .string ukey, .string uval, .int .i64 un] 32)).trans (hb4.mono (B' := w.heap.size) (by simp; omega)))
      have hz4 : w.heap.size ≤ w4.heap.size := B4.out.size
      clear hb4
      cases hf : fitsU ukey uval with
      | false =>
        go_wp2
        go_roundw
        case rel => exact ⟨k + 1, qv, A0, by omega, by go_num, rfl, rfl, B4.out, O4⟩
        case measure => simp [intOf]; omega
      | true =>
        have k40 := K4.out.cell 0; have k41 := K4.out.cell 1; have k42 := K4.out.cell 2; have k43 := K4.out.cell 3
        simp at k40 k41 k42 k43
        have hw4 := K4.out.lt
        have hot := keep_other A0 ⟨uk, ukey, uval, un⟩ key
        have htd := speaks_told A0 ⟨uk, ukey, uval, un⟩ key
        go_wp2_with fail
        refine (do_all w.heap.size (w.heap.size + 1) w.heap.size qv A0 ⟨uk, ukey, uval, un⟩ w4 O4.out).mono ?_
        rintro e w5 ⟨qv', rfl, ho5, hk5, hq5⟩
        unfold speaks at hot htd
        generalize (doA A0 ⟨uk, ukey, uval, un⟩).2 = A' at *
        generalize (doA A0 ⟨uk, ukey, uval, un⟩).1 = r at *
        obtain ⟨ris, rtext, rn, re⟩ := r
        unfold resV
        dsimp only at hot htd ⊢
        have K5 := Lib.hid (K4.out.kept hk5 (O4.out.ne K4.out (by decide) (by decide)))
        have B5 := Lib.hid (B4.out.trans (hk5.below hz4 O4.out.os_lo))
        have O5 := Lib.hid ho5
        have j0 := K5.out.cell 0; have j1 := K5.out.cell 1; have j2 := K5.out.cell 2; have j3 := K5.out.cell 3
        simp at j0 j1 j2 j3
        have hw5 := K5.out.lt
        have hz5 : w.heap.size ≤ w5.heap.size := B5.out.size
        clear hk5 hq5 ho5
        by_cases hsp : ukey = key ∧ re = 0 ∧ 1 ≤ uk ∧ uk ≤ 3
        · obtain ⟨p1, p2, p3⟩ := htd hsp
          obtain ⟨rfl, rfl, h1k, hk3⟩ := hsp
          subst p1 p2
          clear hot htd
          have HP3 := Lib.hid p3; clear p3
          by_cases k1 : uk = 1
          · subst k1
            go_wp2
            go_roundw
            case rel =>
              have e := HP3.out
              rw [if_pos rfl] at e
              exact ⟨k + 1, qv', A', by omega, by go_num, by rw [e]; rfl, by rw [hasE_eq, e]; rfl, B5.out.alloc hz5 _, O5.out.alloc _⟩
            case measure => simp [intOf]; omega
          · by_cases k2 : uk = 2
            · subst k2
              go_wp2
              go_roundw
              case rel =>
                have e := HP3.out
                rw [if_neg (by omega), if_pos rfl] at e
                exact ⟨k + 1, qv', A', by omega, by go_num, by rw [e]; rfl, by rw [hasE_eq, e]; rfl, B5.out.alloc hz5 _, O5.out.alloc _⟩
              case measure => simp [intOf]; omega
            · have k3 : uk = 3 := by omega
              subst k3
              go_wp2
              go_roundw
              case rel =>
                have e := HP3.out
                rw [if_neg (by omega), if_neg (by omega)] at e
                exact ⟨k + 1, qv', A', by omega, by go_num, by rw [e], by rw [hasE_eq, hasE_eq, e], B5.out.alloc hz5 _, O5.out.alloc _⟩
              case measure => simp [intOf]; omega
        · have e := hot hsp
          clear hot htd
          have HE := Lib.hid e; clear e
          have HSP := Lib.hid hsp; clear hsp
          go_wp2
          all_goals
            first
            | (exact absurd ⟨toList_inj ‹_›, ‹_›, ‹_›, ‹_›⟩ HSP.out)
            | (go_roundw
               case rel => exact ⟨k + 1, qv', A', by omega, by go_num, by rw [HE.out], by rw [hasE_eq, hasE_eq, HE.out], B5.out.alloc hz5 _, O5.out.alloc _⟩
               case measure => simp [intOf]; omega)
    · have hend : (if (k : Int) < n then decide ((k : Int) < 100) else false) = false := by
        by_cases h1 : (k : Int) < n
        · rw [if_pos h1, decide_eq_false_iff_not]; omega
        · rw [if_neg h1]
      have hz0 := hb.size
      have HB := Lib.hid hb; clear hb
      have hks := keys_any (w.heap.size + 1) w.heap.size qv A0.t A0.m wr hs.out.st hs.out.mp (by have := hs.out.fit.ml; omega) (fun p hp => (hs.out.fit.mks p hp).1)
      have HRI := Lib.hid hs.out.fit.ri
      have HML := Lib.hid hs.out.fit.ml
      generalize A0.m = m at *
      clear hs
      have HKS := Lib.hid hks; clear hks
      generalize hvv : (getE key m).getD ByteArray.empty = vv
      have HVV := Lib.hid hvv; clear hvv
      by_cases hkn : (k : Int) < n
      all_goals
        first
        | (have hk100 : ¬ (k : Int) < 100 := by omega)
        | (have hk100 : True := trivial)
        clear hlt hend
        go_wp2_with fail
        refine HKS.out.mono ?_
        rintro e w4 ⟨v4, rfl, ho4, hb4⟩
        obtain ⟨va, vc, rfl⟩ := entRow_form ho4
        have B4 := Lib.hid (below_trans HB.out hb4 hz0)
        have HO4 := Lib.hid (ownsRow_base ho4 hz0)
        clear ho4 hb4
        go_wp2
        go_loopw [14, 13] (fun i f wq => ∃ j : Nat, j ≤ m.length ∧ i = .int .i64 j ∧ f = .bool (hasE key (m.take j)) ∧ Below w.heap.size w wq ∧ Hid (wq.ownsRow w.heap.size 43 2 (.slice va m.length vc) m.length (entCells m))) (fun i _ _ => m.length - (intOf i).toNat)
        case atStart => exact ⟨0, Nat.zero_le _, rfl, rfl, B4.out, HO4⟩
        case round =>
          obtain ⟨j, hj, rfl, rfl, hb, ho⟩ := hrel
          by_cases hlt : j < m.length
          · obtain ⟨g, cap, hvv, hg, x1, x2⟩ := entRow_at ho.out hlt
            cases hvv
            have hzq := hb.size
            have HB2 := Lib.hid hb; clear hb
            have ht := hasE_take key m j hlt
            have hge : getE m[j].1 m = some m[j].2 := getE_mem HRI.out hlt
            have HV := Lib.hid ho; 
            cases j with
            | zero =>
              simp only [Nat.zero_mul, Nat.zero_add] at x1 x2
              generalize hkk : m[0].1 = kk at *
              generalize hvl : m[0].2 = vl at *
              clear hkk hvl
              have HGE := Lib.hid hge; clear hge
              have HT := Lib.hid ht; clear ht
              by_cases hkey : kk = key
              · subst hkey
                have hgd : vl = vv := by rw [← HVV.out, HGE.out]; rfl
                subst hgd
                have e1 : hasE kk (m.take (0 + 1)) = true := by rw [HT.out]; simp
                have HE1 := Lib.hid e1; clear e1
                go_wp2
                go_quiet (fail)
                go_wp2
                go_roundw
                case rel => exact ⟨0 + 1, by omega, by go_num, by rw [HE1.out], below_drewN HB2.out _, HV.out⟩
                case measure => first | (simp [intOf]; done) | (simp [intOf]; omega)
              · have hne : (kk.toList == key.toList) = false := by rw [eq_tl]; simp [hkey]
                have e1 : hasE key (m.take (0 + 1)) = hasE key (m.take 0) := by rw [HT.out]; simp [hkey]
                have HE1 := Lib.hid e1; clear e1
                go_wp2
                go_quiet (fail)
                go_wp2
                go_roundw
                case rel => exact ⟨0 + 1, by omega, by go_num, by rw [HE1.out], below_drewN HB2.out _, HV.out⟩
                case measure => first | (simp [intOf]; done) | (simp [intOf]; omega)
            | succ i =>
              have hi : i < m.length := by omega
              obtain ⟨l1, l2⟩ := later (rises_at HRI.out (i := i) (by omega) hlt)
              obtain ⟨g', cap', hvv, hg', y1, y2⟩ := entRow_at ho.out hi
              cases hvv
              generalize m[i].1 = pk at *
              generalize hkk : m[i + 1].1 = kk at *
              generalize hvl : m[i + 1].2 = vl at *
              clear hkk hvl
              have HGE := Lib.hid hge; clear hge
              have HT := Lib.hid ht; clear ht
              have hd : 0 < i + 1 := by omega
              have hn0 : (0 : Int) ≤ (i : Int) + 1 := by omega
              have hn1 : ((i : Int) + 1).toNat = i + 1 := by omega
              have hwr : IntKind.i64.wrap (i : Int) = (i : Int) := by have := HML.out; rw [IntKind.wrap_i64]; omega
              have hi' : (i : Int) < m.length := by omega
              have hml : (m.length : Int) ≤ 30 := by have := HML.out; omega
              by_cases hkey : kk = key
              · subst hkey
                have hgd : vl = vv := by rw [← HVV.out, HGE.out]; rfl
                subst hgd
                have e1 : hasE kk (m.take ((i + 1) + 1)) = true := by rw [HT.out]; simp
                have HE1 := Lib.hid e1; clear e1
                go_wp2
                go_quiet (fail)
                go_wp2
                go_roundw
                case rel => exact ⟨(i + 1) + 1, by omega, by go_num, by rw [HE1.out], below_drewN HB2.out _, HV.out⟩
                case measure => first | (simp [intOf]; done) | (simp [intOf]; omega)
              · have hne : (kk.toList == key.toList) = false := by rw [eq_tl]; simp [hkey]
                have e1 : hasE key (m.take ((i + 1) + 1)) = hasE key (m.take (i + 1)) := by rw [HT.out]; simp [hkey]
                have HE1 := Lib.hid e1; clear e1
                go_wp2
                go_quiet (fail)
                go_wp2
                go_roundw
                case rel => exact ⟨(i + 1) + 1, by omega, by go_num, by rw [HE1.out], below_drewN HB2.out _, HV.out⟩
                case measure => first | (simp [intOf]; done) | (simp [intOf]; omega)
          · have hjm : j = m.length := by omega
            subst hjm
            rw [List.take_length]
            have hzq := hb.size
            have HB2 := Lib.hid hb; clear hb
            have hml : (m.length : Int) ≤ 30 := by have := HML.out; omega
            go_wp2_with (go_at_call 13; refine (alive_any _).mono ?_; rintro e w8 ⟨rfl, hb8⟩; have HB8 := Lib.hid hb8; clear hb8)
            go_ret
            exact ⟨rfl, below_trans HB2.out HB8.out hzq⟩
end Go.Proofs.Ytnffkefhajodmaa
