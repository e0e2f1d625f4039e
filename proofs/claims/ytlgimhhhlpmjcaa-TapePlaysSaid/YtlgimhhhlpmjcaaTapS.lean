/- A region that draws its order, in a round of a range over a function: by the laws that serve elsewhere. -/
import Derived.Test.YtlgimhhhlpmjcaaTapR
set_option linter.unusedVariables false
set_option linter.unusedSimpArgs false
namespace Go.Proofs.Ytlgimhhhlpmjcaa
open Go.RowKit Go.Maps Go.WideMaps Go.Shelf

def noDefer (ops : Array Oper) : Bool := ops.all fun o => match o.op with | .defer _ => false | _ => true
theorem wpOp_round {P : Program} {n l : Nat} {ops : Array Oper} {Q : Exit → Act → World → Prop} {i : Nat} {K : Act → World → Prop} {a : Act} {w : World} (hnd : noDefer ops = true) (hQ : ¬ LetsOut Q)
    (h : wpOp P ops Q i K a w) : wpOpIn (Fence.wide.inRound l) n P ops Q i K a w := by
  unfold wpOp at h
  unfold wpOpIn
  cases ho : ops[i]? with
  | none => simpa [ho] using h
  | some o =>
    simp only [ho] at h ⊢
    split at h
    · rename_i hw
      rw [if_pos hw]
      rcases h with h | ⟨_, h⟩
      · refine ⟨fun _ _ => trivial, ?_⟩
        have hd : ∀ c, o.op ≠ .defer c := by
          intro c hc
          have hi : i < ops.size := (Array.getElem?_eq_some_iff.1 ho).1
          have := (Array.all_eq_true.1 hnd) i hi
          rw [(Array.getElem?_eq_some_iff.1 ho).2] at this
          simp [hc] at this
        rw [show (Fence.wide.inRound l).round = some l from rfl, Oper.semAt_some l _ _ hd]
        unfold Oper.wp at h
        generalize (execOp a.eval o).run P w = r at h ⊢
        cases r with
        | ok x w' =>
          cases x with
          | enter f args => exact ⟨fun h => (by cases h), CallsIn.inRound l (callsIn_wide.2 h)⟩
          | row row args => exact ⟨fun h => (by cases h), fun c cs _ => by
              obtain ⟨v, w'', h1, h2⟩ := h c cs
              exact ⟨v, w'', h1, stepsIn_wide.2 h2⟩⟩
          | round l' f' t' as' b' => exact (h : False).elim
          | _ => exact h
        | halt x w' =>
          cases x <;> exact h
      · exact absurd h hQ
    · rename_i hw
      rw [if_neg hw]
      exact ⟨fun _ _ => trivial, h⟩
theorem wpAny_round {P : Program} {n l : Nat} {md : Region.Mode} {ops : Array Oper} {Q : Exit → Act → World → Prop} (hnd : noDefer ops = true) (hQ : ¬ LetsOut Q) :
    ∀ (fuel : Nat) (listed : Array Bool) (a : Act) (w : World), wpAny P md ops Q fuel listed a w → wpAnyIn (Fence.wide.inRound l) n P md ops Q fuel listed a w
  | 0, _, _, _, h => h
  | fuel + 1, _, _, _, h => ⟨h.1, fun i hi => wpOp_round hnd hQ (wpOp_mono (fun a' w' h' => wpAny_round hnd hQ fuel _ a' w' h') (h.2 i hi))⟩

/-- The region's normal end alone. -/
def OnlyN (Q : Exit → Act → World → Prop) (e : Exit) (a : Act) (w : World) : Prop := e = .normal ∧ Q .normal a w
theorem region_round {P : Program} {n l id : Nat} {ops : Array Oper} {Q : Exit → Act → World → Prop} {S : World → Prop} {a : Act} {w : World} (hm : P.follows .mixedOrders = true) (hnd : noDefer ops = true)
    (h : wpAnyH P .any ops (OnlyN Q) S ops.size (Array.replicate ops.size false) a w.drew) : (Code.region id ops true).wpIn (Fence.wide.inRound l) n P Q a w := by
  refine wpIn_mono (wpIn_region_any hm (wpAny_round hnd ?_ _ _ _ _ (wpAny_of_held _ _ _ _ h))) ?_
  · rintro ⟨a', w', h1, _⟩
    cases h1
  · rintro e a' w' ⟨rfl, h⟩
    exact h
end Go.Proofs.Ytlgimhhhlpmjcaa
