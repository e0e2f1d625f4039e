/- stream.Build: what it computes. -/
import Derived.Test.YtjalhcfphhdcbaaStrM
set_option linter.unusedVariables false
set_option linter.unusedSimpArgs false
namespace Go.Proofs.Ytjalhcfphhdcbaa
open Go.RowKit

/-- How a slot is made. -/
structure Md where
  str : List Int
  nd : Nat
  junk : Bool
def MadeAt (w : World) (b o : Nat) (x : Md) : Prop := ∃ sA sc dA dc ds, w.cell? ⟨b, o, none⟩ = some (.slice sA x.str.length sc) ∧ w.cell? ⟨b, o + 1, none⟩ = some (.slice dA x.nd dc) ∧ w.cell? ⟨b, o + 2, none⟩ = some (.bool x.junk) ∧
  RdJ .i64 w sA x.str.length x.str ∧ RdJ .u8 w dA x.nd ds
structure RdM (w : World) (A : Option Addr) (n : Nat) (ms : List Md) : Prop where
  len : ms.length = n
  at' : 0 < n → ∃ b off, A = some ⟨b, off, none⟩ ∧ ∀ i (h : i < ms.length), MadeAt w b (off + i * 3) ms[i]
theorem MadeAt.below {w w' : World} {b o : Nat} {x : Md} (h : MadeAt w b o x) (hb : Below w.heap.size w w') : MadeAt w' b o x := by
  obtain ⟨sA, sc, dA, dc, ds, h0, h1, h2, h3, h4⟩ := h
  have hlt : b < w.heap.size := World.block_lt_of_cell? w _ h0
  exact ⟨sA, sc, dA, dc, ds, (hb.cell (p := ⟨b, o, none⟩) hlt).trans h0, (hb.cell (p := ⟨b, _, none⟩) hlt).trans h1, (hb.cell (p := ⟨b, _, none⟩) hlt).trans h2, h3.below hb, h4.below hb⟩
theorem RdM.below {w w' : World} {A : Option Addr} {n : Nat} {ms : List Md} (h : RdM w A n ms) (hb : Below w.heap.size w w') : RdM w' A n ms :=
  ⟨h.len, fun hn => by
    obtain ⟨b, off, e, hc⟩ := h.at' hn
    exact ⟨b, off, e, fun i hi => (hc i hi).below hb⟩⟩
def SmallM (ms : List Md) : Prop := ms.length ≤ 100 ∧ ∀ x ∈ ms, x.str.length ≤ 100 ∧ x.nd ≤ 1000

/-- The last two of a stream, as they are written. -/
def nn (o : Option (Int × Int)) : Int × Int := o.getD (NN, NN)
def bksOf (i : Nat) : (Int → Option (Int × Int)) → List Int → List Bk
  | _, [] => []
  | lf, n :: ns => ⟨n, (nn (lf n)).1, (nn (lf n)).2⟩ :: bksOf i (putL lf n ((i : Int), (nn (lf n)).1)) ns
def lastsOf (i : Nat) : (Int → Option (Int × Int)) → List Int → (Int → Option (Int × Int))
  | lf, [] => lf
  | lf, n :: ns => lastsOf i (putL lf n ((i : Int), (nn (lf n)).1)) ns
def okM (x : Md) : Bool := risB (-1) x.str && decide (x.str.length ≤ 4)
def slotOf (i : Nat) (lf : Int → Option (Int × Int)) (x : Md) : Sl := if okM x = true ∧ x.junk = false ∧ rightC 1 x.nd (bksOf i lf x.str) = true then ⟨1, 1, x.nd, bksOf i lf x.str⟩ else ⟨1, 2, 0, []⟩
def lfOf (i : Nat) (lf : Int → Option (Int × Int)) (x : Md) : Int → Option (Int × Int) := if okM x = true then lastsOf i lf x.str else lf
def buildP : Nat → (Int → Option (Int × Int)) → List Md → List Sl
  | _, _, [] => []
  | i, lf, x :: xs => slotOf i lf x :: buildP (i + 1) (lfOf i lf x) xs
theorem bksOf_len (i : Nat) : ∀ (ns : List Int) (lf : Int → Option (Int × Int)), (bksOf i lf ns).length = ns.length
  | [], _ => rfl
  | n :: ns, lf => by simp [bksOf, bksOf_len i ns]
theorem buildP_len : ∀ (ms : List Md) (i : Nat) (lf : Int → Option (Int × Int)), (buildP i lf ms).length = ms.length
  | [], _, _ => rfl
  | m :: ms, i, lf => by simp [buildP, buildP_len ms]

def cellsB (bs : List Bk) : List Value := bs.flatMap fun k => [.int .i64 k.s, .int .u64 k.a, .int .u64 k.b]
theorem cellsB_len (bs : List Bk) : (cellsB bs).length = bs.length * 3 := by
  induction bs with
  | nil => rfl
  | cons k ks ih => simp only [cellsB, List.flatMap_cons, List.length_append, List.length_cons] at *; simp [ih]; omega
theorem cellsB_append (bs : List Bk) (k : Bk) : cellsB (bs ++ [k]) = cellsB bs ++ [.int .i64 k.s, .int .u64 k.a, .int .u64 k.b] := by simp [cellsB]
theorem cellsB_get (bs : List Bk) : ∀ (i : Nat) (h : i < bs.length), (cellsB bs)[i * 3]? = some (.int .i64 bs[i].s) ∧ (cellsB bs)[i * 3 + 1]? = some (.int .u64 bs[i].a) ∧ (cellsB bs)[i * 3 + 2]? = some (.int .u64 bs[i].b) := by
  induction bs with
  | nil => intro i h; simp at h
  | cons k ks ih =>
    intro i h
    cases i with
    | zero => exact ⟨rfl, rfl, rfl⟩
    | succ i =>
      have := ih i (by simpa using h)
      simp only [cellsB, List.flatMap_cons, List.getElem_cons_succ] at *
      rw [show (i + 1) * 3 = i * 3 + 3 by omega, show i * 3 + 3 + 1 = i * 3 + 1 + 3 by omega, show i * 3 + 3 + 2 = i * 3 + 2 + 3 by omega]
      exact this
/-- A row of Backs of the call's own. -/
def RowB (w : World) (lo : Nat) (v : Value) (bs : List Bk) : Prop := w.ownsRow lo 69 3 v bs.length (cellsB bs)
theorem RowB.rd {w : World} {lo : Nat} {a : Option Addr} {c : Nat} {bs : List Bk} (h : RowB w lo (.slice a bs.length c) bs) : RdB w a bs.length bs :=
  ⟨rfl, fun h0 => by
    have hh := h
    obtain ⟨_, h2⟩ := h
    rcases h2 with ⟨_, h00⟩ | ⟨g, cap, cur, hv, hg, hb, _, _, _, _⟩
    · omega
    · cases hv
      refine ⟨g, 0, rfl, fun i hi => ?_⟩
      obtain ⟨e0, e1, e2⟩ := cellsB_get bs i hi
      rw [Nat.zero_add]
      exact ⟨(World.ownsRow.cellAt hh _ (by omega)).trans e0, (World.ownsRow.cellAt hh _ (by omega)).trans e1, (World.ownsRow.cellAt hh _ (by omega)).trans e2⟩⟩
theorem RowB.form {w : World} {lo : Nat} {v : Value} {bs : List Bk} (h : RowB w lo v bs) : ∃ a c, v = .slice a bs.length c := row_form h
theorem RowB.nil (w : World) (lo : Nat) : RowB w lo (.slice none 0 0) [] := World.ownsRow_nil _ _ _ _
theorem RowB.below {w w' : World} {lo : Nat} {v : Value} {bs : List Bk} (h : RowB w lo v bs) (hb : Below w.heap.size w w') : RowB w' lo v bs := ownsRow_below h hb
theorem RowB.alloc {w : World} {lo : Nat} {v : Value} {bs : List Bk} (h : RowB w lo v bs) (o : Obj) : RowB (w.alloc o) lo v bs := h.below ((Below.refl _ _).alloc (Nat.le_refl _) _)
theorem RowB.grown {w w' : World} {lo : Nat} {v : Value} {bs : List Bk} {r : Option Nat} (h : RowB w lo v bs) (hb : w.grownBy w' r) (hne : v.ownBlock = none ∨ v.ownBlock ≠ r) : RowB w' lo v bs := World.ownsRow.kept h hb hne
theorem RowB.notMap {w : World} {lo b N : Nat} {v : Value} {bs : List Bk} {lf : Int → Option (Int × Int)} (h : RowB w lo v bs) (hm : MapB w b N lf) : v.ownBlock ≠ some b := by
  rcases h.2 with ⟨rfl, _⟩ | ⟨g, cap, cur, rfl, _, hh, _⟩
  · simp [Value.ownBlock]
  · intro e
    simp [Value.ownBlock] at e
    exact hm.ne hh e
theorem row_ne2 {w : World} {b1 e1 s1 n1 b2 e2 s2 n2 : Nat} {v1 v2 : Value} {x1 x2 : List Value} (h1 : w.ownsRow b1 e1 s1 v1 n1 x1) (h2 : w.ownsRow b2 e2 s2 v2 n2 x2) (he : e1 ≠ e2) : v1.ownBlock = none ∨ v1.ownBlock ≠ v2.ownBlock := by
  rcases h1.2 with ⟨rfl, _⟩ | ⟨g, cap, cur, rfl, _, hh, _⟩
  · exact .inl rfl
  · right
    exact ownsRow_ne h2 hh he

/-- The slots that are made lie in a row, each with its Backs. -/
def Slots (w : World) (lo : Nat) (cs : List Value) (vs : List Sl) : Prop := cs.length = vs.length * 4 ∧ ∀ i (h : i < vs.length), ∃ dA dc v, cs[i * 4]? = some (.int .i64 vs[i].st) ∧ cs[i * 4 + 1]? = some (.int .i64 vs[i].kind) ∧ cs[i * 4 + 2]? = some (.slice dA vs[i].nd dc) ∧ cs[i * 4 + 3]? = some v ∧ RowB w lo v vs[i].bs
theorem Slots.grown {w w' : World} {lo : Nat} {cs : List Value} {vs : List Sl} {r : Option Nat} (h : Slots w lo cs vs) (hb : w.grownBy w' r) (hne : ∀ v bs, RowB w lo v bs → v.ownBlock = none ∨ v.ownBlock ≠ r) : Slots w' lo cs vs :=
  ⟨h.1, fun i hi => by
    obtain ⟨dA, dc, v, h0, h1, h2, h3, h4⟩ := h.2 i hi
    exact ⟨dA, dc, v, h0, h1, h2, h3, h4.grown hb (hne _ _ h4)⟩⟩
theorem Slots.push {w : World} {lo : Nat} {cs : List Value} {vs : List Sl} (h : Slots w lo cs vs) (x : Sl) (dA : Option Addr) (dc : Nat) (v : Value) (hr : RowB w lo v x.bs) :
    Slots w lo (cs ++ [.int .i64 x.st, .int .i64 x.kind, .slice dA x.nd dc, v]) (vs ++ [x]) := by
  refine ⟨by simp [h.1]; omega, fun i hi => ?_⟩
  by_cases hl : i < vs.length
  · obtain ⟨dA, dc, v, h0, h1, h2, h3, h4⟩ := h.2 i hl
    rw [List.getElem_append_left hl]
    have hc := h.1
    exact ⟨dA, dc, v, by rw [List.getElem?_append_left (by omega)]; exact h0, by rw [List.getElem?_append_left (by omega)]; exact h1, by rw [List.getElem?_append_left (by omega)]; exact h2, by rw [List.getElem?_append_left (by omega)]; exact h3, h4⟩
  · have hi' : i = vs.length := by simp at hi; omega
    subst hi'
    have hc := h.1
    have hx : (vs ++ [x])[vs.length] = x := by simp
    rw [hx]
    refine ⟨dA, dc, v, ?_, ?_, ?_, ?_, hr⟩
    · rw [List.getElem?_append_right (by omega), hc]; simp
    · rw [List.getElem?_append_right (by omega), hc]; simp
    · rw [List.getElem?_append_right (by omega), hc]; simp
    · rw [List.getElem?_append_right (by omega), hc]; simp
theorem vslotInfo : (Try.prog.info? 43).map (fun i => (i.zero, i.size, i.bytes)) = some (some (.agg #[.int .i64 0, .int .i64 0, .slice none 0 0, .slice none 0 0]), 4, 64) := by kernel_rfl
theorem backInfo : (Try.prog.info? 69).map (fun i => (i.zero, i.size, i.bytes)) = some (some (.agg #[.int .i64 0, .int .u64 0, .int .u64 0]), 3, 24) := by kernel_rfl
theorem risB_bound : ∀ (xs : List Int) (l : Int), risB l xs = true → ∀ x ∈ xs, l < x ∧ x < 16
  | [], _, _, x, hx => absurd hx (by simp)
  | y :: ys, l, h, x, hx => by
    unfold risB at h
    simp at h
    rcases List.mem_cons.1 hx with rfl | hx
    · omega
    · have := risB_bound ys y h.2 x hx
      omega
end Go.Proofs.Ytjalhcfphhdcbaa
