/- stream.Linear: what it computes. -/
import Derived.Test.YtjalhcfphhdcbaaStrA
set_option linter.unusedVariables false
set_option linter.unusedSimpArgs false
namespace Go.Proofs.Ytjalhcfphhdcbaa
open Go.RowKit

/-- A slot in memory. -/
def SlotAt (w : World) (b o : Nat) (x : Sl) : Prop := ∃ dA dc A n c, w.cell? ⟨b, o, none⟩ = some (.int .i64 x.st) ∧ w.cell? ⟨b, o + 1, none⟩ = some (.int .i64 x.kind) ∧
  w.cell? ⟨b, o + 2, none⟩ = some (.slice dA x.nd dc) ∧ w.cell? ⟨b, o + 3, none⟩ = some (.slice A n c) ∧ RdB w A n x.bs
theorem SlotAt.below {w w' : World} {b o : Nat} {x : Sl} (h : SlotAt w b o x) (hb : Below w.heap.size w w') : SlotAt w' b o x := by
  obtain ⟨dA, dc, A, n, c, h0, h1, h2, h3, h4⟩ := h
  have hlt : b < w.heap.size := World.block_lt_of_cell? w _ h0
  exact ⟨dA, dc, A, n, c, (hb.cell (p := ⟨b, o, none⟩) hlt).trans h0, (hb.cell (p := ⟨b, _, none⟩) hlt).trans h1, (hb.cell (p := ⟨b, _, none⟩) hlt).trans h2, (hb.cell (p := ⟨b, _, none⟩) hlt).trans h3, h4.below hb⟩
/-- A view, read. -/
structure RdV (w : World) (A : Option Addr) (n : Nat) (vs : List Sl) : Prop where
  len : vs.length = n
  at' : 0 < n → ∃ b off, A = some ⟨b, off, none⟩ ∧ ∀ i (h : i < vs.length), SlotAt w b (off + i * 4) vs[i]
theorem RdV.below {w w' : World} {A : Option Addr} {n : Nat} {vs : List Sl} (h : RdV w A n vs) (hb : Below w.heap.size w w') : RdV w' A n vs :=
  ⟨h.len, fun hn => by
    obtain ⟨b, off, e, hc⟩ := h.at' hn
    exact ⟨b, off, e, fun i hi => (hc i hi).below hb⟩⟩

/-- Views that are gone through: not many slots, and Backs. -/
def SmallV (vs : List Sl) : Prop := vs.length ≤ 100 ∧ ∀ x ∈ vs, x.bs.length ≤ 100

/-- What is read behind what was read. -/
def cont (acc : List Nat) (r : List Nat × Int) : List Nat × Int := if r.2 = 0 then (acc ++ r.1, 0) else ([], r.2)
theorem cont_nil (r : List Nat × Int) (h : r.2 = 0 ∨ r.1 = []) : cont [] r = r := by
  unfold cont
  obtain ⟨l, e⟩ := r
  split
  · rename_i h1; simp at h1; subst h1; simp
  · rename_i h1; simp at h h1; simp [h.resolve_left h1]
theorem cont_cont (a b : List Nat) (r : List Nat × Int) : cont a (cont b r) = cont (a ++ b) r := by
  obtain ⟨l, e⟩ := r
  unfold cont
  by_cases h : e = 0
  · subst h; simp
  · simp [h]
/-- A stream's addresses, one by one. -/
def linR (s : Int) : Nat → List Sl → List Nat × Int
  | _, [] => ([], 0)
  | a, x :: xs => if missE x.st = 0 then cont (if (ofS s x).2 then [a] else []) (linR s (a + 1) xs) else ([], missE x.st)
theorem linR_fine (s : Int) (a : Nat) (xs : List Sl) : (linR s a xs).2 = 0 ∨ (linR s a xs).1 = [] := by
  cases xs with
  | nil => exact .inl rfl
  | cons x xs =>
    unfold linR
    split
    · unfold cont; split
      · exact .inl rfl
      · exact .inr rfl
    · exact .inr rfl
def linP (s : Int) (vs : List Sl) (f : Nat) : List Nat × Int := linR s f (vs.drop f)
theorem linP_step (s : Int) (vs : List Sl) (k : Nat) (h : k < vs.length) : linP s vs k = if missE vs[k].st = 0 then cont (if (ofS s vs[k]).2 then [k] else []) (linP s vs (k + 1)) else ([], missE vs[k].st) := by
  unfold linP
  rw [List.drop_eq_getElem_cons h]
  rfl
theorem linP_end (s : Int) (vs : List Sl) (k : Nat) (h : vs.length ≤ k) : linP s vs k = ([], 0) := by
  unfold linP
  rw [List.drop_of_length_le h]
  rfl

def U (l : List Nat) : List Value := l.map fun a : Nat => Value.int .u64 (a : Int)
theorem u64Info : (Try.prog.info? 23).map (fun i => (i.zero, i.size, i.bytes)) = some (some (.int .u64 0), 1, 8) := by kernel_rfl
theorem ownsRow_ne {w : World} {base e size n g t : Nat} {v : Value} {xs : List Value} {cs : Array Value} (h : w.ownsRow base e size v n xs) (hg : Blk w g cs t) (ht : t ≠ e) : some g ≠ v.ownBlock := by
  rcases h.2 with ⟨rfl, _⟩ | ⟨g', cap, cur, rfl, hb, hh, _⟩
  · simp [Value.ownBlock]
  · intro he
    simp [Value.ownBlock] at he
    subst he
    rw [Blk, hh] at hg
    simp at hg
    exact ht hg.2.symm
/-- A list of addresses of the call's own. -/
def RowU (w : World) (lo : Nat) (v : Value) (l : List Nat) : Prop := w.ownsRow lo 23 1 v l.length (U l)
theorem RowU.nil (w : World) (lo : Nat) : RowU w lo (.slice none 0 0) [] := World.ownsRow_nil _ _ _ _
theorem RowU.below {w w' : World} {lo : Nat} {v : Value} {l : List Nat} (h : RowU w lo v l) (hb : Below w.heap.size w w') : RowU w' lo v l := ownsRow_below h hb
theorem RowU.alloc {w : World} {lo : Nat} {v : Value} {l : List Nat} (h : RowU w lo v l) (o : Obj) : RowU (w.alloc o) lo v l := h.below ((Below.refl _ _).alloc (Nat.le_refl _) _)
theorem RowU.lo {w : World} {lo lo' : Nat} {v : Value} {l : List Nat} (h : RowU w lo v l) (hl : lo' ≤ lo) : RowU w lo' v l := ownsRow_base h hl

theorem U_append (l : List Nat) (k : Nat) : U l ++ [.int .u64 (k : Int)] = U (l ++ [k]) := by simp [U]

set_option maxRecDepth 100000 in
theorem linear_any (A : Option Addr) (n c : Nat) (vs : List Sl) (s f : Int) (w : World) (h : RdV w A n vs) (hs : SmallV vs) (hf : 0 ≤ f) :
    Calls Try.prog 14 #[.slice A n c, .int .i64 s, .int .u64 f] w fun e w' =>
      ∃ v, e = .returned (.tuple #[v, .int .i64 (linP s vs f.toNat).2]) ∧ RowU w' w.heap.size v (linP s vs f.toNat).1 ∧ Below w.heap.size w w' := by
  have hlen := h.len
  have hn100 : n ≤ 100 := by have := hs.1; omega
  have hwn : IntKind.u64.wrap (n : Int) = n := by rw [IntKind.wrap_u64]; omega
  have HH := Lib.hid h; have HS := Lib.hid hs; clear h hs
  by_cases hfn : f < n
  · obtain ⟨k0, rfl⟩ : ∃ k0 : Nat, f = k0 := ⟨f.toNat, by omega⟩
    have hk0 : k0 < n := by omega
    have e0 : linP s vs (k0 : Int).toNat = cont [] (linP s vs k0) := (cont_nil _ (linR_fine s k0 _)).symm
    have E0 := Lib.hid e0; clear e0
    go_enter Try.func14, Try.ntmps14
    go_wp2
    go_loopw [8, 9] (fun o i wr => ∃ (k : Nat) (acc : List Nat), k ≤ n ∧ i = .int .u64 k ∧ acc.length ≤ k ∧ Below w.heap.size w wr ∧ Hid (RowU wr w.heap.size o acc) ∧ Hid (linP s vs (k0 : Int).toNat = cont acc (linP s vs k))) (fun _ i _ => n - (intOf i).toNat)
    case atStart => exact ⟨k0, [], by omega, rfl, by simp, Below.refl _ _, Lib.hid (RowU.nil _ _), E0⟩
    case round =>
      obtain ⟨k, acc, hk, rfl, hal, hb, hr, he⟩ := hrel
      by_cases hlt : k < n
      · have hk1 : k < vs.length := by omega
        obtain ⟨b, off, rfl, hc⟩ := (HH.out.below hb).at' (by omega)
        have hst := linP_step s vs k hk1
        have hsm := HS.out.2 vs[k] (List.getElem_mem hk1)
        have hsl := hc k hk1
        have HX := Lib.hid hst; clear hst hc
        generalize vs[k] = x at *
        obtain ⟨st, kind, nd, bs⟩ := x
        obtain ⟨dA, dc, A', n', c', d0, d1, d2, d3, hrb⟩ := hsl
        dsimp only at d0 d1 d2 d3 hrb hsm
        have hn' : n' ≤ 100 := by rw [← hrb.len]; exact hsm
        have hkk : IntKind.u64.wrap ((k : Int) + 1) = k + 1 := by rw [IntKind.wrap_u64]; omega
        have hzr := hb.size
        have HB := Lib.hid hb; have HRB := Lib.hid hrb; clear hb hrb
        have hkn : (k : Int) < n := by omega
        have hk100 : (k : Int) < 100 := by omega
        go_wp2_with fail
        refine (missing_any st kind _ _ _).mono ?_
        rintro e w2 ⟨rfl, hb2⟩
        have R2 := Lib.hid (hr.out.below hb2)
        have HRB2 := Lib.hid (HRB.out.below hb2)
        have B2 := Lib.hid (HB.out.trans (hb2.mono hzr))
        have hbr := World.block_lt_of_cell? wr _ d0
        have c0 := (hb2.cell (p := ⟨b, off + k * 4, none⟩) hbr).trans d0
        have c1 := (hb2.cell (p := ⟨b, off + k * 4 + 1, none⟩) hbr).trans d1
        have c2 := (hb2.cell (p := ⟨b, off + k * 4 + 2, none⟩) hbr).trans d2
        have c3 := (hb2.cell (p := ⟨b, off + k * 4 + 3, none⟩) hbr).trans d3
        have hz2 := B2.out.size
        clear hb2 d0 d1 d2 d3
        by_cases hm : missE st = 0
        · have hX := HX.out.trans (if_pos hm)
          rw [hm]
          have hof := of_any st kind dA nd dc A' n' c' bs s w2 HRB2.out hn'
          have HOF := Lib.hid hof; have HX' := Lib.hid hX; clear hof hX
          go_wp2_with fail
          refine HOF.out.mono ?_
          rintro e w3 ⟨rfl, hb3⟩
          have R3 := Lib.hid (R2.out.below hb3)
          have B3 := Lib.hid (B2.out.trans (hb3.mono hz2))
          have hz3 := B3.out.size
          clear hb3
          generalize ofS s ⟨st, kind, nd, bs⟩ = q at *
          obtain ⟨⟨q1, q2⟩, is⟩ := q
          cases is with
          | true =>
            go_wp2_with (at_builtin; refine list_app rfl (.tmp 39) (.tmp 41) 33 rfl w.heap.size 23 (.int .u64 0) 1 8 u64Info Try.underlying33 rfl (by omega) u8 acc.length _ rfl ((R3.out.alloc _).alloc _) ⟨w3.heap.size + 1, 0, none⟩ 1 1 [.int .u64 (k : Int)] rfl rfl ?_ ?_ ?_ ?_ ?_ ?_; (intro j u hj; match j, hj with | 0, hj => (simp at hj; subst hj; exact (Blk.newAt (w3.alloc _) #[.int .u64 (k : Int)] 23 (w3.heap.size + 1) (by simp)).cell 0)); (intro u hu; simp at hu; rcases hu with rfl; rfl); (unfold maxLen; omega); (omega); (simp; omega); intro v4 w4 O4 G4; rw [U_append] at O4; have HO4 := Lib.hid O4; have HG4 := Lib.hid G4; clear O4 G4)
            go_roundw
            case rel =>
              refine ⟨k + 1, acc ++ [k], by omega, by go_num, by simp; omega, ?_, Lib.hid ?_, Lib.hid (by rw [he.out, HX'.out]; exact cont_cont _ _ _)⟩
              · exact ((B3.out.alloc hz3 _).alloc (by simp; omega) _).grown HG4.out (by simp; omega) (fun j hj => (R3.out.lt j hj).1)
              · have := HO4.out; unfold RowU; simpa using this
            case measure => simp [intOf]; omega
          | false =>
            go_wp2
            go_roundw
            case rel => exact ⟨k + 1, acc, by omega, by go_num, by omega, B3.out.alloc hz3 _, Lib.hid (R3.out.alloc _), Lib.hid (by rw [he.out, HX'.out]; exact cont_cont _ _ _ |>.trans (by simp))⟩
            case measure => simp [intOf]; omega
        · have hX := HX.out.trans (if_neg hm)
          have E : linP s vs (k0 : Int).toNat = ([], missE st) := by rw [he.out, hX]; unfold cont; rw [if_neg hm]
          have E' := Lib.hid E; clear hX E
          go_wp2
          go_ret2
          exact ⟨_, by rw [E'.out]; rfl, by rw [E'.out]; exact RowU.nil _ _, B2.out⟩
      · have hkn : k = n := by omega
        subst hkn
        have E : linP s vs (k0 : Int).toNat = (acc, 0) := by rw [he.out, linP_end s vs k (by omega)]; unfold cont; simp
        have E' := Lib.hid E; have HB := Lib.hid hb; clear E hb
        go_wp2
        go_ret2
        exact ⟨_, by rw [E'.out]; rfl, by rw [E'.out]; exact hr.out, HB.out⟩
  · have E : linP s vs f.toNat = ([], 0) := linP_end s vs _ (by omega)
    rw [E]
    go_enter Try.func14, Try.ntmps14
    go_wp2
    refine wp_loop_rounds 1 ?_
    rw [rounds_succ]
    go_wp2
    go_ret2
    exact ⟨_, rfl, RowU.nil _ _, Below.refl _ _⟩
end Go.Proofs.Ytjalhcfphhdcbaa
