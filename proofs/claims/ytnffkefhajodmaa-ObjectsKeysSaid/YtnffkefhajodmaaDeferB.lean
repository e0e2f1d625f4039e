/- A function that defers ONE call of a builtin: what its body's walk owes. -/
import Derived.Test.YtnffkefhajodmaaKit
import Derived.Defers
set_option linter.unusedVariables false
namespace Go.Proofs.Ytnffkefhajodmaa
open Go.RowKit

/-- The body is over with one deferred call of a builtin: it runs; then the results are read. -/
def bodyPostB (P : Program) (fn : Func) (R : Ending → World → Prop) : Exit → Act → World → Prop
  | .normal, a, w | .ret, a, w => ∃ b ats ty cs args w1 v x, a.defers = [{ target := .builtin b ats ty cs, args := args }] ∧ (invoke (.builtin b ats ty cs) args).run P w = .ok (.value x) w1 ∧ (results fn a.tmps).run P w1 = .ok v w1 ∧ R (.returned v) w1
  | .outgrown, _, w => R .outgrown w
  | _, _, _ => False

theorem step_deferB {P : Program} {fr : Frame} {cs : List Frame} {w w1 : World} {b : Builtin} {ats : Array TypeId} {ty : TypeId} {co : Array Bool} {args : Array Value} {x : Value} (hm : fr.mode = .returning) (hd : fr.defers = [{ target := .builtin b ats ty co, args := args }])
    (hi : (invoke (.builtin b ats ty co) args).run P w = .ok (.value x) w1) :
    step P (lone fr cs w) = .next (lone { fr with defers := [] } cs w1) := by
  refine step_lone_go ?_
  simp [stepG, unwind, callDeferred, hm, hd, hi]

theorem calls_of_wp_b {P : Program} {f : FuncId} {fn : Func} {c : Code} {args : Array Value} {w : World} {R : Ending → World → Prop}
    (hf : P.funcs[f]? = some fn) (hb : fn.body = some c)
    (h : c.wp P (bodyPostB P fn R) { tmps := args ++ Array.replicate (fn.ntmps - args.size) undef, defers := [] } w) : Calls P f args w R := by
  intro cs
  let b : Frame := { (default : Frame) with fn := f, kind := .normal }
  have henter : Frame.enter P f args .normal =
      b.at { tmps := args ++ Array.replicate (fn.ntmps - args.size) undef, defers := [] } [.code c] := by
    simp [Frame.enter, Frame.at, hf, hb, b]
  obtain ⟨e, a', w', hq, harr⟩ := h b [] cs
  rw [← henter] at harr
  cases e with
  | normal =>
    obtain ⟨bb, ats, ty, co, ags, w1, v, x, hd, hi, hr, hR⟩ := hq
    have h1 := step_deferB (P := P) (fr := { b.at a' [] with mode := .returning }) (cs := cs) rfl hd hi
    exact ⟨.returned v, w1, { { b.at a' [] with mode := .returning } with defers := [] }, hR, Steps.trans harr (Steps.trans (.one step_end) (.one h1)), rfl, rfl, rfl, rfl, fn, hf, hr⟩
  | ret =>
    obtain ⟨bb, ats, ty, co, ags, w1, v, x, hd, hi, hr, hR⟩ := hq
    obtain ⟨todo, hs₀⟩ := harr
    have h1 := step_deferB (P := P) (fr := { b.at a' todo with mode := .returning }) (cs := cs) rfl hd hi
    exact ⟨.returned v, w1, { { b.at a' todo with mode := .returning } with defers := [] }, hR, Steps.trans hs₀ (.one h1), rfl, rfl, rfl, rfl, fn, hf, hr⟩
  | panic chain => exact hq.elim
  | exit id => exact hq.elim
  | goto l => exact hq.elim
  | outgrown => exact ⟨.outgrown, w', b, hq, harr.resolve_left (by simp [b]), rfl, trivial⟩
end Go.Proofs.Ytnffkefhajodmaa
