/- bits.Pack: the very bytes. -/
import Derived.Test.YtnffkefhajodmaaBitsB
import Derived.Test.YtnffkefhajodmaaPlainBytes
set_option linter.unusedVariables false
set_option linter.unusedSimpArgs false
namespace Go.Proofs.Ytnffkefhajodmaa
open Go.RowKit

def packBytes (ws vs : List Int) : List Nat := toBytes (packBits ws vs)

/-- Each number in its width. -/
def inW : List Int → List Int → Prop
  | n :: ws, v :: vs => (0 ≤ n ∧ n ≤ 64 ∧ 0 ≤ v ∧ v < 2 ^ n.toNat) ∧ inW ws vs
  | [], [] => True
  | _, _ => False

theorem inW_ok {ws vs : List Int} (h : inW ws vs) : packOk ws vs := by
  induction ws generalizing vs with
  | nil =>
    cases vs with
    | nil => exact ⟨fun n hn => by simp at hn, rfl, fun i h1 => by simp at h1⟩
    | cons v vs => exact h.elim
  | cons n ws ih =>
    cases vs with
    | nil => exact h.elim
    | cons v vs =>
      obtain ⟨⟨a0, a1, a2, a3⟩, h'⟩ := h
      obtain ⟨k1, k2, k3⟩ := ih h'
      have a4 : v.toNat < 2 ^ n.toNat := by
        have e : ((v.toNat : Nat) : Int) = v := Int.toNat_of_nonneg a2
        have e2 : (((2 ^ n.toNat : Nat)) : Int) = 2 ^ n.toNat := by rw [Int.natCast_pow]; rfl
        omega
      have a5 : (2 : Nat) ^ n.toNat ≤ 2 ^ 64 := Nat.pow_le_pow_right (by omega) (by omega)
      refine ⟨?_, by simp [k2], ?_⟩
      · intro x hx
        rcases List.mem_cons.1 hx with rfl | hx
        · exact ⟨a0, a1⟩
        · exact k1 x hx
      · intro i h1 h2
        cases i with
        | zero =>
          have := bitLen_le a4 (by omega)
          simp only [List.getElem_cons_zero]
          refine ⟨a2, ?_, by omega⟩
          have e : ((v.toNat : Nat) : Int) = v := Int.toNat_of_nonneg a2
          have a6 : v.toNat < 2 ^ 64 := Nat.lt_of_lt_of_le a4 a5
          omega
        | succ i => exact k3 i (by simpa using h1) (by simpa using h2)

theorem RdI.ofBlk {k : IntKind} {w : World} {g t : Nat} {xs : List Int} (h : Blk w g (xs.map (Value.int k)).toArray t) (hn : xs.length ≤ 140737488355328) : RdI k w (some ⟨g, 0, none⟩) xs.length xs :=
  ⟨rfl, hn, fun _ => ⟨g, 0, rfl, fun i hi => by rw [h.cell]; simp [hi]⟩⟩

theorem Packed.bytes {w : World} {g : Nat} {ws vs : List Int} (h : Packed w g ws vs) (hp : packOk ws vs) : Bytes w g (packBytes ws vs) ∧ (packBytes ws vs).length = pbytes ws := by
  obtain ⟨ys, h1, h2, h3, h4⟩ := h
  have hl := packBits_length hp.1 hp.2.1
  have h0 := wsum_nonneg hp.1
  have hl2 : (packBytes ws vs).length = pbytes ws := by
    unfold packBytes pbytes; rw [toBytes_length, hl]; omega
  have e : ys = packBytes ws vs := by
    refine bits8_inj h3 (toBytes_small _) ?_
    rw [h4]; unfold packBytes; rw [toBytes_bits, hl]
    congr 2
    unfold pbytes; omega
  exact ⟨e ▸ h1, hl2⟩

theorem Pack_bytes (A B : Option Addr) (n c c' : Nat) (ws vs : List Int) (w : World) (h : RdI .i64 w A n ws) (h' : RdI .u64 w B n vs) (hp : inW ws vs) (hn : n ≤ 100000000000) :
    Calls Try.prog 49 #[.slice A n c, .slice B n c'] w fun e w' => ∃ g bs, e = .returned (.tuple #[.slice (some ⟨g, 0, none⟩) bs.length bs.length, .bool true]) ∧ w.heap.size ≤ g ∧ Below w.heap.size w w' ∧ Bytes w' g bs ∧ Hid (bs = packBytes ws vs) :=
  (Pack_any A B n c c' ws vs w h h' (inW_ok hp) hn).mono fun _ _ ⟨g, he, hg, hb, hq⟩ => by
    obtain ⟨q1, q2⟩ := hq.bytes (inW_ok hp)
    exact ⟨g, _, by rw [he, q2], hg, hb, q1, rfl⟩

theorem Bytes.owns {w : World} {g base : Nat} {xs : List Nat} (h : Bytes w g xs) (hb : base ≤ g) (hm : xs.length ≤ maxLen) : w.ownsRow base 5 1 (.slice (some ⟨g, 0, none⟩) xs.length xs.length) xs.length (nums8 xs) :=
  ⟨by simp [nums8], .inr ⟨g, xs.length, _, rfl, hb, h, Nat.le_refl _, hm, by simp [nums8], by simp [nums8]; exact List.take_of_length_le (by simp)⟩⟩

end Go.Proofs.Ytnffkefhajodmaa
