/- The disk: Fill. -/
import Derived.Test.YtlgimhhhlpmjcaaDskB
import Derived.Laws.CopyOwn
set_option linter.unusedVariables false
set_option linter.unusedSimpArgs false
namespace Go.Proofs.Ytlgimhhhlpmjcaa
open Go.RowKit Go.Maps Go.WideMaps Go.Shelf

/-- A slice of bytes, read. -/
structure RdU8 (w : World) (A : Option Addr) (n : Nat) (xs : List Int) : Prop where
  len : xs.length = n
  at' : 0 < n → ∃ b off, A = some ⟨b, off, none⟩ ∧ b < w.heap.size ∧ ∀ i (h : i < xs.length), w.cell? ⟨b, off + i, none⟩ = some (.int .u8 xs[i])
theorem RdU8.keep {w w' : World} {A : Option Addr} {n : Nat} {xs : List Int} (h : RdU8 w A n xs) (hb : ∀ b off, A = some ⟨b, off, none⟩ → b < w.heap.size → w'.heap[b]? = w.heap[b]?) (hz : w.heap.size ≤ w'.heap.size) : RdU8 w' A n xs :=
  ⟨h.len, fun hn => by
    obtain ⟨b, off, e, hlt, hc⟩ := h.at' hn
    refine ⟨b, off, e, by omega, fun i hi => ?_⟩
    rw [← hc i hi]
    exact World.cell?_of_block (a := ⟨b, off + i, none⟩) (hb b off e hlt)⟩
theorem RdU8.below {w w' : World} {A : Option Addr} {n : Nat} {xs : List Int} (h : RdU8 w A n xs) (hb : Below w.heap.size w w') : RdU8 w' A n xs := h.keep (fun b off _ hlt => hb.block b hlt) hb.size
theorem RdU8.nil (w : World) (A : Option Addr) : RdU8 w A 0 [] := ⟨rfl, fun h => by omega⟩

/-- A sector that begins with bytes. -/
def fillS (xs : List Int) : Sec := xs.take 64 ++ List.replicate (64 - xs.length) 0
theorem fillS_len (xs : List Int) : (fillS xs).length = 64 := by simp [fillS]; omega
theorem splice_fill {z : Sec} (hz : z = zsec) (xs : List Int) : splice (sc z) 0 (sc (xs.take 64)) = sc (fillS xs) := by
  subst hz
  have e : (sc zsec).drop (0 + (sc (xs.take 64)).length) = sc (List.replicate (64 - xs.length) 0) := by
    unfold sc zsec
    rw [List.length_map, List.length_take, ← List.map_drop, List.drop_replicate]
    congr 2
    omega
  unfold splice
  rw [e]
  simp [fillS, sc]

theorem is_copy {P : Program} {ops : Array Oper} {w : World} {a : Act} {o : Oper} {rest : List Oper} {Q : Exit → Act → World → Prop} {d s : Operand} {ts : Array TypeId} (ho : o.op = .call { callee := .builtin .copy, args := #[d, s], argTypes := ts }) (h : wpList P ops Q (o :: rest) a w) : wpList P ops Q (o :: rest) a w := h
theorem bytes_at {w : World} {b off : Nat} {xs : List Int} (hc : ∀ i (h : i < xs.length), w.cell? ⟨b, off + i, none⟩ = some (.int .u8 xs[i])) {j m : Nat} {v : Value} (hj : (sc (xs.take m))[j]? = some v) : w.cell? ((⟨b, off, none⟩ : Addr).add j) = some v := by
  unfold sc at hj
  rw [List.getElem?_map, List.getElem?_take] at hj
  split at hj
  · obtain ⟨x, hx, rfl⟩ := Option.map_eq_some_iff.1 hj
    obtain ⟨hlt, rfl⟩ := List.getElem?_eq_some_iff.1 hx
    rw [Addr.add_mid]
    exact hc j hlt
  · simp at hj
set_option maxRecDepth 100000 in
theorem fill_any (A : Option Addr) (n c : Nat) (xs : List Int) (w : World) (h : RdU8 w A n xs) :
    Calls Try.prog 31 #[.slice A n c] w fun e w' => e = .returned (.agg (sc (fillS xs)).toArray) ∧ Below w.heap.size w w' := by
  obtain ⟨z, HZ, hz⟩ := zsec_named
  have Hz := Lib.hid hz; clear hz
  have K := Lib.hid (Blk.new w (sc z).toArray 55)
  have K1 := Lib.hid (Blk.newAt (w.alloc (.cells (sc z).toArray 55)) (sc z).toArray 55 (w.heap.size + 1) (by simp))
  have b2 : Below w.heap.size w ((w.alloc (.cells (sc z).toArray 55)).alloc (.cells (sc z).toArray 55)) := ((Below.refl w.heap.size w).alloc (Nat.le_refl _) _).alloc (by simp) _
  have B := Lib.hid ((Below.refl w.heap.size w).alloc (Nat.le_refl _) (.cells (sc z).toArray 55))
  have H := Lib.hid (h.below b2); have B2 := Lib.hid b2
  have hl := h.len
  have K0 := Lib.hid (K.out.alloc (.cells (sc z).toArray 55))
  have hcl : (xs.take 64).length = min n 64 := by rw [List.length_take, h.len]; omega
  have HCL := Lib.hid hcl; have HL := Lib.hid hl
  clear h b2 hl hcl
  go_enter Try.func31, Try.ntmps31
  go_wp2_with (first
    | ((with_reducible refine sec_alloc secT1 HZ rfl rfl ?_); try simp only [World.size_alloc])
    | ((with_reducible refine is_copy (d := .tmp 4) rfl ?_);
       refine wpList_copy_splice rfl _ _ _ _ rfl 5 Try.underlying31 (by kernel_rfl) _ _ _ _ _ _ rfl rfl (w.heap.size + 1) 0 (sc z) 55 K1.out (sc (xs.take 64)) ?_ ?_ ?_ (sc_one _) (w.heap.size + 1) _ (Below.refl _ _) (Nat.le_refl _) ?_;
       (exact (sc_len _).trans HCL.out);
       (intro hp; refine ⟨rfl, ?_⟩; rw [sc_len, HCL.out] at hp; obtain ⟨b, off, e, hlt, hc⟩ := H.out.at' (by omega); refine ⟨_, e, ?_⟩; intro j v hj; exact bytes_at hc hj);
       (rw [sc_len, sc_len, HCL.out, Hz.out]; omega);
       intro w3 hK3 hB3;
       have K3 := Lib.hid (show Blk w3 (w.heap.size + 1) (sc (fillS xs)).toArray 55 by rw [← splice_fill HZ.out]; exact hK3.out);
       have K30 := Lib.hid (K0.out.keep (hB3.block w.heap.size (by omega)));
       have B3 := Lib.hid (B2.out.trans (hB3.mono (by omega))); clear hK3 hB3 K0 K1 B2)
    | ((with_reducible refine is_load 55 (x := .tmp 3) rfl ?_); refine sec_load secT1 rfl _ rfl (w.heap.size + 1) 0 rfl (fillS xs) (fillS_len xs) K3.out.sec ?_)
    | ((with_reducible refine is_store 55 (x := .tmp 2) rfl ?_); refine sec_store secT1 rfl _ _ rfl w.heap.size 0 (fillS xs) (fillS_len xs) rfl rfl (K30.out.secThere Hz.out) ?_))
  refine bodyPost_ret (results_cell_row rfl _ _ w.heap.size 55 _ (0, 0) _ rfl (K30.out.secStore (Hz.out.trans (fillS_len xs).symm)) Try.underlying55 rfl (secInfoSize (fillS_len xs))) rfl ?_
  exact ⟨rfl, below_cells B3.out (Nat.le_refl _) _ _⟩
theorem fill_nil (w : World) : Calls Try.prog 31 #[.slice none 0 0] w fun e w' => e = .returned (.agg (sc zsec).toArray) ∧ Below w.heap.size w w' :=
  fill_any none 0 0 [] w (RdU8.nil w none)
end Go.Proofs.Ytlgimhhhlpmjcaa
