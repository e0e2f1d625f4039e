/- Build: its map, rising, Clone. -/
import Derived.Test.YtjalhcfphhdcbaaStrE
import Derived.Test.YtjalhcfphhdcbaaRd
import Derived.Maps.OwnOps
import Derived.Maps.OwnSet
import Derived.Shelf.SlicesE.Clone
set_option linter.unusedVariables false
set_option linter.unusedSimpArgs false
namespace Go.Proofs.Ytjalhcfphhdcbaa
open Go.RowKit Go.Maps Go.WideMaps Go.Shelf

/-- A slice of numbers, read. -/
structure RdJ (k : IntKind) (w : World) (A : Option Addr) (n : Nat) (xs : List Int) : Prop where
  len : xs.length = n
  at' : 0 < n → ∃ b off, A = some ⟨b, off, none⟩ ∧ ∀ i (h : i < xs.length), w.cell? ⟨b, off + i, none⟩ = some (.int k xs[i])
theorem RdJ.below {k : IntKind} {w w' : World} {A : Option Addr} {n : Nat} {xs : List Int} (h : RdJ k w A n xs) (hb : Below w.heap.size w w') : RdJ k w' A n xs :=
  ⟨h.len, fun hn => by
    obtain ⟨b, off, e, hc⟩ := h.at' hn
    refine ⟨b, off, e, fun i hi => ?_⟩
    rw [← hc i hi]
    exact hb.cell (World.block_lt_of_cell? w _ (hc i hi))⟩

/-- How a pair reads. -/
def dataP (p : Int × Int) : DataW Unit := .agg [.lit (.int .u64 p.1), .lit (.int .u64 p.2)]
def RB (v : Value) : Option (DataW Unit × List MemPlace) :=
  match v with
  | .agg cs => (match cs.toList with | [.int .u64 a, .int .u64 b] => some (dataP (a, b), []) | _ => none)
  | _ => none
theorem RB_mk (a b : Int) : RB (.agg #[.int .u64 a, .int .u64 b]) = some (dataP (a, b), []) := rfl
theorem RB_inv {v : Value} {p : Int × Int} {ps : List MemPlace} (h : RB v = some (dataP p, ps)) : v = .agg #[.int .u64 p.1, .int .u64 p.2] := by
  unfold RB at h
  split at h
  · rename_i cs
    split at h
    · rename_i a b hcs
      simp [dataP] at h
      obtain ⟨⟨h1, h2⟩, _⟩ := h
      have : cs = #[.int .u64 a, .int .u64 b] := by
        apply Array.toList_inj.1
        exact hcs
      rw [this, h1, h2]
    · simp at h
  · simp at h

/-- Block b is a map from streams to pairs: what it has of each. -/
def MapB (w : World) (b N : Nat) (lf : Int → Option (Int × Int)) : Prop :=
  ∃ D : DataW Unit, w.ownsMap Try.prog 3 RB b N D ∧ IsMap D ∧ ∀ n, (Maps.has D (.int .i64 n) = (lf n).isSome) ∧ ∀ zd, D.atKey (.int .i64 n) zd = (match lf n with | some p => dataP p | none => zd)
theorem MapB.keep {w w' : World} {b N : Nat} {lf : Int → Option (Int × Int)} (h : MapB w b N lf) (hb : w'.heap[b]? = w.heap[b]?) : MapB w' b N lf := by
  obtain ⟨D, ⟨es, clock, h1, h2⟩, h3⟩ := h
  exact ⟨D, ⟨es, clock, hb.trans h1, h2⟩, h3⟩
theorem MapB.lt {w : World} {b N : Nat} {lf : Int → Option (Int × Int)} (h : MapB w b N lf) : b < w.heap.size := by obtain ⟨D, h1, _⟩ := h; exact h1.lt
theorem MapB.below {w w' : World} {b N : Nat} {lf : Int → Option (Int × Int)} (h : MapB w b N lf) (hb : Below w.heap.size w w') : MapB w' b N lf := h.keep (hb.block b h.lt)
theorem MapB.alloc {w : World} {b N : Nat} {lf : Int → Option (Int × Int)} (h : MapB w b N lf) (o : Obj) : MapB (w.alloc o) b N lf := h.keep (Below.heap_alloc _ _ _ h.lt)
theorem MapB.ne {w : World} {b N : Nat} {lf : Int → Option (Int × Int)} (h : MapB w b N lf) {g t : Nat} {cs : Array Value} {fr : Nat × Nat} (hg : w.heap[g]? = some (.cells cs t fr)) : g ≠ b := by
  obtain ⟨D, ⟨es, clock, h1, _⟩, _⟩ := h
  rintro rfl
  rw [hg] at h1
  cases h1
theorem MapB.made (w : World) : MapB (w.alloc (.map #[] 0)) w.heap.size 0 (fun _ => none) :=
  ⟨_, World.ownsMap_made _ _ _ _, isMap_empty, fun n => ⟨rfl, fun _ => rfl⟩⟩

theorem zeroPair (w : World) : (zeroValue 29).run Try.prog w = .ok (.agg #[.int .u64 0, .int .u64 0]) w := by kernel_rfl
theorem MapB.look {w : World} {b N : Nat} {lf : Int → Option (Int × Int)} (h : MapB w b N lf) (n : Int) (hn : (Lit.int .i64 n).wf = true) :
    (Instr.lookup 70 (.map (some b)) (.int .i64 n) true).run Try.prog w = .ok (.tuple #[.agg #[.int .u64 ((lf n).getD (0, 0)).1, .int .u64 ((lf n).getD (0, 0)).2], .bool (lf n).isSome]) w := by
  obtain ⟨D, h1, h2, h3⟩ := h
  obtain ⟨v, ps, hrun, hv⟩ := h1.look_ok (int_keyed Try.underlying3) Try.underlying70 (zeroPair w) (RB_mk 0 0) (keyOf_int_mk Try.underlying3 hn)
  rw [hrun, (h3 n).1]
  rw [(h3 n).2] at hv
  have : RB v = some (dataP ((lf n).getD (0, 0)), ps) := by
    rw [hv]; cases lf n <;> rfl
  rw [RB_inv this]

/-- The last ones, with one stream's new. -/
def putL (lf : Int → Option (Int × Int)) (n : Int) (p : Int × Int) : Int → Option (Int × Int) := fun x => if x = n then some p else lf x
theorem MapB.put {w : World} {b N : Nat} {lf : Int → Option (Int × Int)} (h : MapB w b N lf) (n : Int) (hn : (Lit.int .i64 n).wf = true) (p : Int × Int) (hN : N < maxLen) :
    ∃ w', (Instr.mapUpdate 70 (.map (some b)) (.int .i64 n) (.agg #[.int .u64 p.1, .int .u64 p.2])).run Try.prog w = .ok () w' ∧ MapB w' b (N + 1) (putL lf n p) ∧ w.grownBy w' (some b) := by
  obtain ⟨D, h1, h2, h3⟩ := h
  obtain ⟨w', hrun, h4, h5⟩ := h1.update (int_keyed Try.underlying3) Try.underlying70 hN (keyOf_int_mk Try.underlying3 hn) (RB_mk p.1 p.2)
  refine ⟨w', hrun, ⟨_, h4, h2.put _ _, fun x => ?_⟩, h5⟩
  unfold putL
  by_cases hx : x = n
  · subst hx
    rw [if_pos rfl]
    exact ⟨has_put_same h2 (show WideAt.IsKeyLit (.int .i64 x) from trivial) _, fun zd => atKey_put_same h2 (show WideAt.IsKeyLit (.int .i64 x) from trivial) _ _⟩
  · rw [if_neg hx]
    have hne : (Lit.int .i64 x) ≠ Lit.int .i64 n := fun e => hx (by injection e)
    exact ⟨(has_put_other hne _).trans (h3 x).1, fun zd => (atKey_put_other hne _ _).trans ((h3 x).2 zd)⟩

/-- Whether streams rise. -/
def risB (l : Int) : List Int → Bool
  | [] => true
  | x :: xs => !(decide (x ≤ l) || decide (16 ≤ x)) && risB x xs
def lastI (l : Int) (xs : List Int) : Nat → Int
  | 0 => l
  | k + 1 => xs.getD k 0
theorem risB_drop (l : Int) (xs : List Int) (k : Nat) (h : k < xs.length) : risB (lastI l xs k) (xs.drop k) = (!(decide (xs[k] ≤ lastI l xs k) || decide (16 ≤ xs[k])) && risB (lastI l xs (k + 1)) (xs.drop (k + 1))) := by
  rw [List.drop_eq_getElem_cons h]
  show (_ && _) = _
  simp [lastI, List.getD_eq_getElem?_getD, h]

set_option maxRecDepth 100000 in
theorem rising_any (A : Option Addr) (n c : Nat) (xs : List Int) (w : World) (h : RdJ .i64 w A n xs) (hn : n ≤ 100) :
    Calls Try.prog 28 #[.slice A n c] w fun e w' => e = .returned (.bool (risB (-1) xs && decide (n ≤ 4))) ∧ w' = w := by
  have hlen := h.len
  have HH := Lib.hid h; clear h
  go_enter Try.func28, Try.ntmps28
  go_wp2
  go_loopw [3, 8] (fun l i wr => ∃ k : Nat, k ≤ n ∧ i = .int .i64 k ∧ l = .int .i64 (lastI (-1) xs k) ∧ wr = w ∧ Hid (risB (-1) xs = risB (lastI (-1) xs k) (xs.drop k))) (fun _ i _ => n - (intOf i).toNat)
  case atStart => exact ⟨0, Nat.zero_le _, rfl, rfl, rfl, Lib.hid rfl⟩
  case round =>
    obtain ⟨k, hk, rfl, rfl, rfl, hr⟩ := hrel
    by_cases hlt : k < n
    · obtain ⟨b, off, rfl, hc⟩ := HH.out.at' (by omega)
      have hk1 : k < xs.length := by omega
      have d0 := hc k hk1
      have hrd := risB_drop (-1) xs k hk1
      have hS : lastI (-1) xs (k + 1) = xs[k] := by simp [lastI, List.getD_eq_getElem?_getD, hk1]
      have HRD := Lib.hid hrd; have HS := Lib.hid hS; clear hrd hS hc
      generalize lastI (-1) xs k = l at *
      generalize xs[k] = x at *
      have hkn : (k : Int) < n := by omega
      have hk100 : (k : Int) < 100 := by omega
      by_cases h1 : x ≤ l
      · have E := Lib.hid (hr.out.trans (HRD.out.trans (by simp [h1] : _ = false)))
        go_wp2
        go_ret
        exact ⟨by rw [E.out]; rfl, by first | rfl | trivial⟩
      · have hd1 : decide (x ≤ l) = false := decide_eq_false h1
        by_cases h2 : 16 ≤ x
        · have E := Lib.hid (hr.out.trans (HRD.out.trans (by simp [h2] : _ = false)))
          go_wp2
          go_ret
          exact ⟨by rw [E.out]; rfl, by first | rfl | trivial⟩
        · have hd2 : decide (16 ≤ x) = false := decide_eq_false h2
          have E := Lib.hid (hr.out.trans (HRD.out.trans (by simp only [hd1, hd2, Bool.or_false, Bool.not_false, Bool.true_and] : _ = risB (lastI (-1) xs (k + 1)) (xs.drop (k + 1)))))
          go_wp2
          go_roundw
          case rel => exact ⟨k + 1, by omega, by go_num, by rw [HS.out], by first | rfl | trivial, E⟩
          case measure => simp [intOf]; omega
    · have hkk : k = n := by omega
      subst hkk
      have E : risB (-1) xs = true := by rw [hr.out, List.drop_of_length_le (by omega)]; rfl
      have E' := Lib.hid E; clear E
      go_wp2
      go_ret
      exact ⟨by rw [E'.out]; simp; omega, by first | rfl | trivial⟩

/-- slices.Clone at this dump. -/
def clRen : Ren := ⟨fun | 41 => 29 | n => n, fun | 22 => 38 | 23 => 5 | n => n, fun | n => n⟩
theorem clLays : SlLaysE0.n41 Try.prog clRen := {
  mixed := by kernel_rfl
  f41 := ⟨"slices.Clone[[]byte,byte]", by kernel_rfl, Try.func29.trans (congrArg some (by kernel_rfl))⟩
  t4 := Try.underlying4
  a4 := Try.isAgg4
  z4 := Try.sizeOf4
  v4 := Try.zeroValue4
  t22 := Try.underlying38
  a22 := Try.isAgg38
  z22 := Try.sizeOf38
  v22 := Try.zeroValue38 }
theorem u8Info : (Try.prog.info? 5).map (fun i => (i.zero, i.size, i.bytes)) = some (some (.int .u8 0), 1, 1) := by kernel_rfl

theorem clone_any (A : Option Addr) (n c : Nat) (xs : List Int) (w : World) (h : RdJ .u8 w A n xs) (hn : n ≤ 1000) :
    Calls Try.prog 29 #[.slice A n c] w fun e w' => ∃ A' c', e = .returned (.slice A' n c') ∧ Below w.heap.size w w' := by
  cases A with
  | none =>
    have hn0 : n = 0 := by
      rcases Nat.eq_zero_or_pos n with h0 | h0
      · exact h0
      · obtain ⟨_, _, e, _⟩ := h.at' h0
        cases e
    subst hn0
    refine (AnyE.slices_Clone_nil clLays 0 c w).mono ?_
    rintro e w' ⟨rfl, rfl⟩
    exact ⟨none, 0, rfl, Below.refl _ _⟩
  | some x =>
    rcases Nat.eq_zero_or_pos n with h0 | h0
    · subst h0
      go_enter Try.func29, Try.ntmps29
      have q : ∀ (w : World) (a : Option Addr) (n c n' c' : Nat), (binOp .eql 38 (.slice a n c) (.slice none n' c')).run Try.prog w = .ok (.bool a.isNone) w := fun w a n c n' c' => Lib.run_eql_slice_nil w _ _ a n c n' c' Try.underlying38
      go_wp2
      go_ret
      exact ⟨_, _, rfl, by first | exact Below.refl _ _ | exact (Below.refl _ _).alloc (Nat.le_refl _) _⟩
    · obtain ⟨b, off, hx, hc⟩ := h.at' h0
      cases hx
      obtain ⟨i, hi, hzz⟩ := Option.map_eq_some_iff.1 u8Info
      simp only [Prod.mk.injEq] at hzz
      obtain ⟨hz, hsize, hby⟩ := hzz
      have hl := h.len
      refine (AnyE.slices_Clone clLays i (.int .u8 0) 1 1 hi hz hsize hby rfl (by omega) Try.sizeOf5 b off n c (xs.map fun x => .int .u8 x) w (by simp [hl]) (by unfold maxLen; omega) (by omega) ?_ ?_).mono ?_
      · intro j u hu
        simp at hu
        obtain ⟨y, hy, rfl⟩ := hu
        have hj : j < xs.length := (List.getElem?_eq_some_iff.1 hy).1
        rw [hc j hj]
        rw [List.getElem?_eq_getElem hj] at hy
        cases hy
        rfl
      · intro u hu
        simp at hu
        obtain ⟨_, _, rfl⟩ := hu
        rfl
      · rintro e w' ⟨v', rfl, ho, _, hb⟩
        obtain ⟨a', c', rfl⟩ := row_form ho
        exact ⟨a', c', rfl, hb⟩
end Go.Proofs.Ytjalhcfphhdcbaa
