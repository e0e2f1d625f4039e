/- The disk: Flush. -/
import Derived.Test.YtlgimhhhlpmjcaaDskB
set_option linter.unusedVariables false
set_option linter.unusedSimpArgs false
namespace Go.Proofs.Ytlgimhhhlpmjcaa
open Go.RowKit Go.Maps Go.WideMaps Go.Shelf Go.MapKept Go.ChangeMaps

theorem MapS.cleared {w : World} {b N : Nat} {D : DataW Unit} (h1 : w.ownsMap Try.prog 3 RS b N D) :
    ∃ w', (∀ ty, (Builtin.clear_ #[85] ty #[.map (some b)]).run Try.prog w = .ok (.tuple #[]) w') ∧ MapS w' b N (fun _ => none) ∧ w.grownBy w' (some b) := by
  obtain ⟨es, clock, hb, F, hsz, hD⟩ := h1
  refine ⟨setBlock w b (.map #[] clock), fun ty => ?_, ⟨.map [], ⟨#[], clock, heap_setBlock_same hb _, ⟨by simp, stamped_empty clock, by simp⟩, by simp, rfl⟩, isMap_empty, fun n => ⟨rfl, fun _ => rfl⟩⟩, ⟨rfl, rfl, rfl, by simp [setBlock], fun i _ hi => heap_setBlock_other hb _ (fun e => hi (by rw [e]))⟩⟩
  simp [Builtin.clear_, run_underlying Try.underlying85, MapKept.run_getObj_map hb, MapKept.run_setObj_map _ hb, Result.andThen]
  rfl

/-- What is safe while what is dirty is being made so: 'left' are those that are still to come. -/
def midS (n : Nat) (sf : List Sec) (df : Int → Option Sec) (left : Lit → Bool) : List Sec := (List.range n).map fun (i : Nat) => if left (.int .i64 i) then sf.getD i zsec else curS sf df i
theorem midS_len (n : Nat) (sf : List Sec) (df : Int → Option Sec) (left : Lit → Bool) : (midS n sf df left).length = n := by simp [midS]
theorem midS_start {n : Nat} {sf : List Sec} {df : Int → Option Sec} {D : DataW Unit} (hl : sf.length = n) (h : ∀ x, Maps.has D (.int .i64 x) = (df x).isSome) : midS n sf df (Maps.has D) = sf := by
  apply List.ext_getElem
  · simp [midS, hl]
  · intro i h1 h2
    simp only [midS, List.getElem_map, List.getElem_range, h, curS]
    cases df (i : Int) <;> simp [List.getD_eq_getElem?_getD, h2]
theorem midS_done {n : Nat} (sf : List Sec) (df : Int → Option Sec) {left : Lit → Bool} (h : ∀ kl, left kl = false) : midS n sf df left = flushS n sf df := by simp [midS, flushS, h]
theorem midS_step {n : Nat} (sf : List Sec) {df : Int → Option Sec} {left : Lit → Bool} {i : Nat} {s : Sec} (hd : df i = some s) :
    midS n sf df (fun z => left z && !z.sameKey (.int .i64 i)) = (midS n sf df left).set i s := by
  apply List.ext_getElem
  · simp [midS]
  · intro j h1 h2
    simp only [midS, List.getElem_map, List.getElem_range, List.getElem_set]
    by_cases e : i = j
    · subst e
      simp [Lit.sameKey, curS, hd]
    · have : ((j : Int) == (i : Int)) = false := by simp; omega
      simp [Lit.sameKey, e, this]
      have h' : ¬ (j : Int) = (i : Int) := by omega
      simp [h']
theorem midS_each {n : Nat} {sf : List Sec} {df : Int → Option Sec} (left : Lit → Bool) (hl : sf.length = n) (he : ∀ x ∈ sf, x.length = 64) (hs : ∀ i s, df i = some s → 0 ≤ i ∧ i < (n : Int) ∧ s.length = 64) : ∀ x ∈ midS n sf df left, x.length = 64 := by
  intro x hx
  unfold midS at hx
  obtain ⟨i, hi, rfl⟩ := List.mem_map.1 hx
  have hi : i < n := by simpa using hi
  split
  · have hi' : i < sf.length := by omega
    have := he sf[i] (List.getElem_mem hi')
    simpa [List.getD_eq_getElem?_getD, hi'] using this
  · exact curS_len hl he hs hi

theorem Kept.trans2 {w w1 w2 : World} {S S' : Nat → Prop} (h : Kept w w1 S) (k : Kept w1 w2 S') (hs : ∀ i, i < w.heap.size → S' i → S i) : Kept w w2 S :=
  ⟨k.os.trans h.os, k.tape.trans h.tape, k.output.trans h.output, Nat.le_trans h.size k.size, fun i hi hn => (k.block i (Nat.lt_of_lt_of_le hi h.size) (fun e => hn (hs i hi e))).trans (h.block i hi hn)⟩
theorem grownBy_cells (w : World) (b o : Nat) (vs : List Value) : w.grownBy (w.setCells b o vs) (some b) :=
  ⟨(rest_setCells b vs o w).1, (rest_setCells b vs o w).2.1, (rest_setCells b vs o w).2.2, by rw [size_setCells]; exact Nat.le_refl _, fun k _ hne => heap_setCells_other b vs o w k (fun e => hne (by rw [e]))⟩
theorem entry_of {D : DataW Unit} {df : Int → Option Sec} {kl : Lit} {x : Int} {s : Sec} {y1 : DataW Unit} {y2 : List MemPlace} (hkey : keyOf Try.prog 3 (Value.int IntKind.i64 x) = some kl) (hval : RS (Value.agg (sc s).toArray) = some (y1, y2))
    (hat : ∀ zd, D.atKey kl zd = y1) (h3 : ∀ n, (Maps.has D (.int .i64 n) = (df n).isSome) ∧ ∀ zd, D.atKey (.int .i64 n) zd = (match df n with | some p => dataS p | none => zd)) : kl = .int .i64 x ∧ df x = some s := by
  obtain ⟨x', e, rfl, _⟩ := Maps.keyOf_int_inv Try.underlying3 hkey
  injection e with _ e
  subst e
  refine ⟨rfl, ?_⟩
  rw [RS_mk] at hval
  have hval : dataS s = y1 := (Prod.mk.inj (Option.some.inj hval)).1
  cases hd : df x with
  | none =>
    have h := hat .nil
    rw [(h3 x).2, hd, ← hval] at h
    cases h
  | some p =>
    have h := hat .nil
    rw [(h3 x).2, hd, ← hval] at h
    rw [dataS_inj h]

/-- What Flush leaves. -/
def FlushPost (w : World) (d sb mb n : Nat) (sf : List Sec) (df : Int → Option Sec) (e : Ending) (w' : World) : Prop :=
  e = .returned (.int .i64 0) ∧ DiskIs w' d sb mb n (flushS n sf df) (fun _ => none) ∧ Kept w w' (fun k => k = sb ∨ k = mb)

theorem flush_nil (w : World) :
    Calls Try.prog 34 #[.pointer none] w fun e w' => e = .returned (.int .i64 1) ∧ w' = w := by
  go_enter Try.func34, Try.ntmps34
  go_wp2
  go_ret
  exact ⟨rfl, rfl⟩

set_option maxRecDepth 100000 in
set_option maxHeartbeats 1000000 in
theorem flush_any (d sb mb n : Nat) (sf : List Sec) (df : Int → Option Sec) (w : World) (h : DiskIs w d sb mb n sf df) :
    Calls Try.prog 34 #[.pointer (some ⟨d, 0, none⟩)] w (FlushPost w d sb mb n sf df) := by
  obtain ⟨z, HZ, hz⟩ := zsec_named
  have Hz := Lib.hid hz; clear hz
  have hn := h.small
  obtain ⟨hdl, hsl, hml⟩ := h.lt
  have NE := Lib.hid h.ne
  obtain ⟨⟨cap, hb⟩, hsafe, hmap, hlen, hsm, heach, hsup⟩ := h
  obtain ⟨D, h1, h2, h3⟩ := hmap
  have c1 := hb.cell 1
  simp at c1
  have HB := Lib.hid hb; have HS := Lib.hid hsafe; have H1 := Lib.hid h1; have H3 := Lib.hid h3
  have HLEN := Lib.hid hlen; have HE := Lib.hid heach; have HSUP := Lib.hid hsup
  clear hb hsafe h1 h2 h3 hlen heach hsup
  go_enter Try.func34, Try.ntmps34
  go_wp2_with (first
    | (at_range; refine wpList_range_own _ rfl _ 85 rfl 3 55 (int_keyed Try.underlying3) Try.underlying85 RS mb n D rfl H1.out ?_; intro w0 hrg0 hg0 hs0))
  go_frame
  have HR0 := Lib.hid hrg0; have HG0 := Lib.hid hg0; clear hrg0 hg0 hs0
  go_loopw [3, 4] (fun _ _ wr => ∃ (left : Lit → Bool) (cnt : Nat), Hid (wr.ranges Try.prog 3 RS mb w.heap.size n D left cnt) ∧ Hid (Blk wr d #[.slice (some ⟨sb, 0, none⟩) n cap, .map (some mb)] 87) ∧ Hid (SafeIs wr sb (midS n sf df left)) ∧ Hid (Kept w wr (fun k => k = sb)) ∧ w.heap.size < wr.heap.size)
    (fun _ _ wr => wr.rangeLeft mb w.heap.size)
  case atStart =>
    refine ⟨_, _, HR0, Lib.hid (HB.out.keep (HG0.out.block d hdl (by simp))), Lib.hid ?_, Lib.hid (Kept.of_grown HG0.out (by simp)), HR0.out.lt⟩
    rw [midS_start HLEN.out (fun x => (H3.out x).1)]
    exact HS.out.keep (HG0.out.block sb hsl (by simp))
  case round =>
    obtain ⟨left, cnt, hrg, hbk, hsf, hkp, hzr⟩ := hrel
    have c0 := hbk.out.cell 0
    have c1 := hbk.out.cell 1
    simp at c0 c1
    go_wp2_with (at_next; refine wpList_next_ranges _ rfl _ rfl 3 (int_keyed Try.underlying3) RS (Value.int .i64) (fun s : Sec => Value.agg (sc s).toArray) (fun key kl hk => by obtain ⟨x, e, _⟩ := Maps.keyOf_int_inv Try.underlying3 hk; exact ⟨x, e⟩) (fun v y hv => by obtain ⟨x, e, _⟩ := RS_form hv; exact ⟨x, e⟩) mb w.heap.size n D left cnt rfl hrg.out ?_ ?_)
    · intro _ hl0
      obtain ⟨w9, hcl, hm9, hg9⟩ := MapS.cleared hrg.out.owns
      have HM9 := Lib.hid hm9; have HG9 := Lib.hid hg9; have HL0 := Lib.hid hl0; clear hm9 hg9 hl0
      go_wp2
      go_ret
      obtain ⟨n1, n2, n3⟩ := NE.out
      have hsz := hkp.out.size
      refine ⟨rfl, ⟨⟨cap, hbk.out.keep (HG9.out.block d (by omega) (fun e => n2 (Option.some.inj e)))⟩, ?_, HM9.out, flushS_len _ _ _, hsm, ?_, fun i s hs => by cases hs⟩, ?_⟩
      · rw [← midS_done sf df HL0.out]
        exact hsf.out.keep (HG9.out.block sb (by omega) (fun e => n3 (Option.some.inj e)))
      · rw [← midS_done sf df HL0.out]
        exact midS_each left HLEN.out HE.out HSUP.out
      · exact (hkp.out.mono (fun k _ hk => .inl hk)).trans (Kept.of_grown HG9.out (fun k hk => .inr (Option.some.inj hk).symm))
    · intro x s kl y1 y2 w1 cnt1 hkey hlk hval hat hrg1 hlt1 hg1 hs1 hen
      obtain ⟨hkl, hdx⟩ := entry_of hkey hval hat H3.out
      subst hkl
      obtain ⟨hx0, hxn, hs64⟩ := HSUP.out x s hdx
      obtain ⟨i, rfl⟩ := Int.eq_ofNat_of_zero_le hx0
      have HRG1 := Lib.hid hrg1
      have HBK1 := Lib.hid (hbk.out.keep (hg1.block d (by have := hkp.out.size; omega) (fun e => by have := Option.some.inj e; omega)))
      have HSF1 := Lib.hid (hsf.out.keep (hg1.block sb (by have := hkp.out.size; omega) (fun e => by have := Option.some.inj e; omega)))
      have HKP1 := Lib.hid (hkp.out.trans2 (Kept.of_grown (S := fun k => k = w.heap.size) hg1 (fun k hk => (Option.some.inj hk).symm)) (fun i hi e => by omega))
      have HL := Lib.hid hs64; have HDX := Lib.hid hdx
      have hz1 : w.heap.size < w1.heap.size := by omega
      clear hs1 hkey hval hat hrg1 hg1 hs64 hdx hx0 c0 c1 hbk hsf hlk
      go_wp2_with (first
        | ((with_reducible refine sec_alloc secT1 HZ rfl rfl ?_); try simp only [World.size_alloc])
        | ((with_reducible refine is_store 55 (x := .tmp 4) rfl ?_); refine sec_store secT1 rfl _ _ rfl w1.heap.size 0 s HL.out rfl rfl ((Blk.new _ _ _).secThere Hz.out) ?_;
           have J2 := Lib.hid ((Blk.new w1 (sc z).toArray 55).secStore (s' := s) (Hz.out.trans HL.out.symm));
           have bW : Below w1.heap.size w1 ((w1.alloc (.cells (sc z).toArray 55)).setCells w1.heap.size 0 (sc s)) := below_cells ((Below.refl _ _).alloc (Nat.le_refl _) _) (Nat.le_refl _) _ _;
           have HBW := Lib.hid bW; clear bW;
           generalize ((w1.alloc (.cells (sc z).toArray 55)).setCells w1.heap.size 0 (sc s)) = w2 at *))
      go_frame
      have hbk2 := HBK1.out.below HBW.out
      have c0 := hbk2.cell 0
      simp at c0
      have hsb1 : sb < w1.heap.size := HSF1.out.lt
      have hrg2 := HRG1.out.kept (grownBy_of_below HBW.out none) (by simp) (by simp)
      have HRG2 := Lib.hid hrg2
      have HBK2 := Lib.hid hbk2
      have HSF2 := Lib.hid (HSF1.out.keep (HBW.out.block sb hsb1))
      have HKP2 := Lib.hid (HKP1.out.then HBW.out)
      have hz2 : w.heap.size < w2.heap.size := by have := HBW.out.size; omega
      clear hbk2 hrg2 HBK1 HRG1 HSF1 HKP1 HBW c1
      have hi0 : (0 : Int) ≤ (i : Int) := by omega
      have hin : i < n := by omega
      refine region_tail 7 (by kernel_rfl) (by kernel_rfl) ?_
      simp only [List.take_succ_cons, List.take_zero, List.drop_succ_cons, List.drop_zero]
      still_step; still_step; still_step; still_step; still_step
      refine sec_still_load secT1 rfl _ rfl w1.heap.size 0 rfl s HL.out J2.out.sec ?_
      still_step
      refine wpStill_nil ?_
      have hml : i < (midS n sf df left).length := by rw [midS_len]; exact hin
      have hall := Lib.hid (midS_each left HLEN.out HE.out HSUP.out)
      have HSF3 := Lib.hid (SafeIs.store (w := w2.drew) (HSF2.out.keep rfl) i hml hall.out s HL.out)
      refine sec_store secT1 rfl _ _ rfl sb (i * 64) s HL.out rfl rfl (HSF2.out.there i hml (hall.out _ (List.getElem_mem hml))) ?_
      go_wp2
      have hg3 : w2.grownBy (w2.drew.setCells sb (i * 64) (sc s)) (some sb) := below_grownBy (show Below w2.heap.size w2 w2.drew from ⟨rfl, rfl, rfl, Nat.le_refl _, fun _ _ => rfl⟩) (grownBy_cells _ _ _ _)
      obtain ⟨n1, n2, n3⟩ := NE.out
      have hrg3 := HRG2.out.kept hg3 (fun e => n3 (Option.some.inj e).symm) (fun e => by have := Option.some.inj e; omega)
      have HRG3 := Lib.hid hrg3
      go_frame
      go_roundw
      case rel =>
        refine ⟨_, cnt1, HRG3, Lib.hid (HBK2.out.keep (hg3.block d HBK2.out.lt (fun e => n1 (Option.some.inj e)))), Lib.hid ?_, Lib.hid (HKP2.out.trans2 (Kept.of_grown (S := fun k => k = sb) hg3 (fun k hk => (Option.some.inj hk).symm)) (fun i _ e => e)), by rw [size_setCells]; exact hz2⟩
        rw [midS_step sf HDX.out]
        exact HSF3.out
      case measure => rw [HRG3.out.left_eq, hrg.out.left_eq]; exact hlt1
end Go.Proofs.Ytlgimhhhlpmjcaa
