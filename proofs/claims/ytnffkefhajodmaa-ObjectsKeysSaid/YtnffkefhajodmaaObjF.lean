/- objects: the live question. -/
import Derived.Test.YtnffkefhajodmaaObjE
import Derived.Test.YtnffkefhajodmaaObjC
set_option linter.unusedVariables false
set_option linter.unusedSimpArgs false
namespace Go.Proofs.Ytnffkefhajodmaa
open Go.RowKit

def bytesStr (ys : List Nat) : ByteArray := ⟨(ys.map UInt8.ofNat).toArray⟩
theorem own_string {w : World} {base n : Nat} {v : Value} {ys : List Nat} (h : w.ownsRow base 5 1 v n (nums8 ys)) : (convert 54 9 v).run Try.prog w = .ok (.string (bytesStr ys)) w := by
  have hl : ys.length = n := by have := h.1; simpa [nums8] using this
  rcases h.2 with ⟨rfl, rfl⟩ | ⟨g, cap, cur, rfl, hb, hg, _⟩
  · have : ys = [] := List.eq_nil_of_length_eq_zero hl
    subst this
    exact run_convert_bytes_nil w 54 5 Try.underlying54 Try.underlying5 0 0 9 Try.underlying9
  · have e : bytesStr ys = strOfNums (ys.map fun x : Nat => (x : Int)) := by simp [bytesStr, strOfNums]
    rw [e]
    refine run_convert_bytes_arg w 54 5 Try.underlying54 Try.underlying5 g 0 n cap _ (by simpa using hl) (fun i hi => ?_) 9 Try.underlying9
    have hc := h.cells (g := g) rfl i (.int .u8 ((ys[i]'(by omega) : Nat) : Int)) (by simp [nums8, show i < ys.length by omega])
    have ha : (⟨g, 0, none⟩ : Addr).add i = ⟨g, 0 + i, none⟩ := by unfold Addr.add; split <;> simp_all
    rw [← ha, hc]
    simp [List.getD_eq_getElem?_getD, show i < ys.length by omega]

theorem enc_live : bytesStr (encB 1 ⟨#[107]⟩ ⟨#[118, 119]⟩ 0) = ⟨#[16, 132, 107, 118, 119]⟩ := by decide +kernel
theorem right_live : rightB 1 ⟨#[107]⟩ ⟨#[118, 119]⟩ 0 = true := by decide +kernel
theorem right_live4 : rightB 4 ⟨#[]⟩ ⟨#[]⟩ (-5) = true := by decide +kernel
theorem ovf_live : ovf 0 (-5) = false := by decide +kernel

set_option maxRecDepth 100000 in
set_option maxHeartbeats 1000000 in
theorem alive_any (w : World) : Calls Try.prog 13 #[] w fun e w' => e = .returned (.bool true) ∧ Below w.heap.size w w' := by
  go_enter Try.func13, Try.ntmps13
  go_wp2_with fail
  refine (encode_any 1 0 ⟨#[107]⟩ ⟨#[118, 119]⟩ w right_live (by omega) (by omega) (by decide) (by decide) (by omega) (by omega)).mono ?_
  rintro e w1 ⟨v, rfl, hb1, ho1⟩
  generalize hxs : encB 1 ⟨#[107]⟩ ⟨#[118, 119]⟩ 0 = xs at ho1
  have HXS := Lib.hid hxs; clear hxs
  have HB1 := Lib.hid hb1; clear hb1
  have HO1 := Lib.hid ho1; clear ho1
  go_wp2_with fail
  refine (new_any w1).mono ?_
  rintro e w2 ⟨rfl, rfl⟩
  go_wp2_with fail
  refine (do_add (w1.heap.size + 1) _ _ 0 (-5) ⟨#[]⟩ ⟨#[]⟩ _ (Blk.newAt (w1.alloc _) _ _ _ (by simp)) right_live4).mono ?_
  rintro e w3 ⟨rfl, hs3⟩
  obtain ⟨s3, g3⟩ := hs3
  have hz3 := g3.size
  simp at hz3
  have O3 : w3.ownsRow w.heap.size 5 1 v xs.length (nums8 xs) := by
    refine ((HO1.out.alloc _).alloc _).kept g3 ?_
    cases hv : v.ownBlock with
    | none => exact .inl rfl
    | some k => refine .inr ?_; intro e; have := (HO1.out.lt k hv).2; injection e; omega
  have hconv : ∀ o, (convert 54 9 v).run Try.prog (w3.alloc o) = .ok (.string ⟨#[16, 132, 107, 118, 119]⟩) (w3.alloc o) := by
    intro o; rw [own_string (O3.alloc o), ← HXS.out, enc_live]
  have hov := ovf_live
  have hw5 : wrap64 (-5) = -5 := by decide +kernel
  have S3 := Lib.hid s3
  have G3 := Lib.hid g3
  clear s3 g3 O3
  go_wp2_with (go_at_call 11; refine (total_any _ _ _ _ _ (S3.out.alloc _)).mono ?_; rintro e w4 ⟨rfl, rfl⟩)
  go_ret
  refine ⟨rfl, ?_⟩
  have hz1 := HB1.out.size
  exact ((((HB1.out.alloc hz1 _).alloc (by simp; omega) _).grown G3.out (by simp; omega) (fun k e => by injection e; omega)).alloc (by omega) _)

end Go.Proofs.Ytnffkefhajodmaa
