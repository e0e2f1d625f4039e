/- The tape: Commit. -/
import Derived.Test.YtlgimhhhlpmjcaaTapW
set_option linter.unusedVariables false
set_option linter.unusedSimpArgs false
namespace Go.Proofs.Ytlgimhhhlpmjcaa
open Go.RowKit Go.Maps Go.WideMaps Go.Shelf

def commitN : Nat → TD → TD
  | 0, p => p
  | k + 1, p => if doneP p = true then stepP p else commitN k (stepP p)
def commitP (p : TD) : TD := commitN (4 - p.dn) p
theorem stepP_dn {p : TD} (h : doneP p = false) : (stepP p).dn = p.dn + 1 := by
  unfold doneP at h
  have he : emptyP p = false := by cases h1 : emptyP p <;> simp [h1] at h ⊢
  rw [he] at h
  have hd : p.dn < 3 := by simpa using h
  unfold stepP
  rw [if_neg (by rw [he]; simp)]
  have : p.dn = 0 ∨ p.dn = 1 ∨ p.dn = 2 := by omega
  rcases this with e | e | e <;> rw [e] <;> (first | (show p.dn + 1 = _; rw [e]) | rfl)
theorem commit_any (t d sb mb : Nat) (F : Nat → Prop) (p : TD) (w : World) (H : TapeIs w F t d sb mb p) (h3 : p.dn ≤ 3) :
    Calls Try.prog 18 #[.pointer (some ⟨t, 0, none⟩)] w fun e w' => e = .returned (.int .i64 0) ∧ TPost w F t d sb mb (commitP p) w' := by
  have HH := Lib.hid H; clear H
  go_enter Try.func18, Try.ntmps18
  go_wp2
  go_loopg [3] (4 - p.dn) (fun m s3 wr => ∃ (q : TD) (G : Nat → Prop), m = 4 - q.dn ∧ q.dn ≤ 3 ∧ Hid (commitP p = commitN m q) ∧ Hid (Kept w wr F) ∧ Hid (TapeIs wr G t d sb mb q) ∧ Hid (∀ k, G k → F k ∨ w.heap.size ≤ k))
  case atStart => exact ⟨p, F, rfl, h3, Lib.hid rfl, Lib.hid (Kept.refl _ _), HH, Lib.hid (fun k hk => .inl hk)⟩
  case round =>
    obtain ⟨q, G, hm, hq3, hC, hK, hT, hG⟩ := hrel
    clear h3
    go_wp2_with fail
    refine (step_any t d sb mb G q _ hT.out hq3).mono ?_
    rintro e w1 ⟨rfl, hP⟩
    have HP := Lib.hid hP; clear hP
    cases hd : doneP q with
    | true =>
      have HC : Hid (commitP p = stepP q) := Lib.hid (by
        rw [hC.out, hm]
        obtain ⟨k, hk⟩ : ∃ k, 4 - q.dn = k + 1 := ⟨3 - q.dn, by omega⟩
        rw [hk, commitN, if_pos hd])
      go_wp2
      go_ret
      refine ⟨rfl, ?_⟩
      rw [HC.out]
      exact TPost.trans hK.out hG.out HP.out
    | false =>
      have hdn := stepP_dn hd
      obtain ⟨hk1, G1, ht1, hg1⟩ := HP.out
      have hlt : q.dn < 3 := by
        unfold doneP at hd
        have he : emptyP q = false := by cases h1 : emptyP q <;> simp [h1] at hd ⊢
        rw [he] at hd
        simpa using hd
      have HC : Hid (commitP p = commitN (4 - (stepP q).dn) (stepP q)) := Lib.hid (by
        rw [hC.out, hm]
        obtain ⟨k, hk⟩ : ∃ k, 4 - q.dn = k + 1 := ⟨3 - q.dn, by omega⟩
        rw [hk, commitN, if_neg (by rw [hd]; simp), hdn]
        congr 1
        omega)
      have HR := Lib.hid (TPost.trans hK.out hG.out ⟨hk1, G1, ht1, hg1⟩ : TPost w F t d sb mb (stepP q) w1)
      clear hk1 ht1 hg1 HP
      go_wp2
      obtain ⟨hk2, G2, ht2, hg2⟩ := HR.out
      go_roundg (4 - (stepP q).dn)
      case measure => omega
      case rel => exact ⟨stepP q, G2, rfl, by omega, HC, Lib.hid hk2, Lib.hid ht2, Lib.hid hg2⟩
end Go.Proofs.Ytlgimhhhlpmjcaa
