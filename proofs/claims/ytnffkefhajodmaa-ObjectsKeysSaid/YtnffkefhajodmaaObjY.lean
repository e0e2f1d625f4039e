/- objects: Do, whatever the update: one law, over a plain state. -/
import Derived.Test.YtnffkefhajodmaaObjR
import Derived.Test.YtnffkefhajodmaaObjV
import Derived.Test.YtnffkefhajodmaaObjC
import Derived.Test.YtnffkefhajodmaaObjS
set_option linter.unusedVariables false
set_option linter.unusedSimpArgs false
namespace Go.Proofs.Ytnffkefhajodmaa
open Go.RowKit Go.Maps

/-- A plain state of objects. -/
structure AS where
  m : Ents
  t : Int
  q : List ByteArray
/-- A plain result. -/
structure AR where
  is : Bool
  text : ByteArray
  n : Int
  e : Int
def resV (r : AR) : Value := .agg #[.bool r.is, .string r.text, .int .i64 r.n, .int .i64 r.e]
/-- An update. -/
structure AU where
  k : Int
  key : ByteArray
  val : ByteArray
  n : Int
def updV (u : AU) : Value := .agg #[.int .i64 u.k, .string u.key, .string u.val, .int .i64 u.n]

def hadR (A : AS) (key : ByteArray) : AR := ⟨hasE key A.m, (getE key A.m).getD ByteArray.empty, 0, 0⟩
def errR (e : Int) : AR := ⟨false, ⟨#[]⟩, 0, e⟩

/-- What an update does. -/
def doA (A : AS) (u : AU) : AR × AS :=
  if rightB u.k u.key u.val u.n = false then (errR 221, A)
  else if u.k = 1 then (if hasE u.key A.m = false ∧ ¬ A.m.length < 30 then (errR 152, A) else (hadR A u.key, { A with m := putE u.key u.val A.m }))
  else if u.k = 2 then (hadR A u.key, { A with m := delE u.key A.m })
  else if u.k = 3 then (hadR A u.key, A)
  else if u.k = 4 then (⟨ovf A.t u.n, ⟨#[]⟩, wrap64 (A.t + u.n), 0⟩, { A with t := wrap64 (A.t + u.n) })
  else if u.k = 5 then (⟨false, ⟨#[]⟩, A.t, 0⟩, A)
  else if u.k = 6 then (if A.q.length < 30 then (⟨false, ⟨#[]⟩, ((A.q.length + 1 : Nat) : Int), 0⟩, { A with q := A.q ++ [u.val] }) else (errR 152, A))
  else if u.k = 7 then (match A.q with | [] => (errR 0, A) | x :: r => (⟨true, x, 0, 0⟩, { A with q := r }))
  else (⟨false, ⟨#[]⟩, (A.q.length : Int), 0⟩, A)

structure FitA (A : AS) : Prop where
  ml : A.m.length ≤ 30
  ql : A.q.length ≤ 30
  mks : ∀ p ∈ A.m, p.1.size ≤ 16 ∧ p.2.size ≤ 60
  qk : ∀ x ∈ A.q, x.size ≤ 60
  tl : -9223372036854775808 ≤ A.t
  th : A.t ≤ 9223372036854775807
  ri : Rises A.m

structure ObjIs (w : World) (lo s b : Nat) (qv : Value) (A : AS) : Prop where
  st : StIs w s (.map (some b)) qv A.t
  mp : MapIs w b A.m
  qu : QIs w lo qv A.q
  ls : lo ≤ s
  lb : lo ≤ b
  fit : FitA A

/-- The blocks of a state. -/
def OS (s b : Nat) (qv : Value) : Nat → Prop := fun k => k = s ∨ k = b ∨ some k = qv.ownBlock

theorem ObjIs.keep {w w' : World} {lo s b : Nat} {qv : Value} {A : AS} (h : ObjIs w lo s b qv A) (hb : ∀ k, OS s b qv k → k < w.heap.size → w'.heap[k]? = w.heap[k]?) : ObjIs w' lo s b qv A :=
  ⟨h.st.keep (hb s (.inl rfl) h.st.lt), h.mp.keep (hb b (.inr (.inl rfl)) h.mp.lt), h.qu.keep fun k hk hlt => hb k (.inr (.inr hk.symm)) hlt, h.ls, h.lb, h.fit⟩
theorem ObjIs.below {w w' : World} {lo s b : Nat} {qv : Value} {A : AS} (h : ObjIs w lo s b qv A) (hb : Below w.heap.size w w') : ObjIs w' lo s b qv A := h.keep fun k _ hk => hb.block k hk
theorem ObjIs.alloc {w : World} {lo s b : Nat} {qv : Value} {A : AS} (h : ObjIs w lo s b qv A) (o : Obj) : ObjIs (w.alloc o) lo s b qv A := h.keep fun k _ hk => Below.heap_alloc _ _ _ hk
theorem ObjIs.drew {w : World} {lo s b : Nat} {qv : Value} {A : AS} (h : ObjIs w lo s b qv A) : ObjIs w.drew lo s b qv A := h.keep fun k _ hk => rfl
theorem ObjIs.drewN {w : World} {lo s b : Nat} {qv : Value} {A : AS} (h : ObjIs w lo s b qv A) (n : Nat) : ObjIs (w.drewN n) lo s b qv A := h.keep fun k _ hk => rfl
theorem ObjIs.lw {w : World} {lo s b : Nat} {qv : Value} {A : AS} (h : ObjIs w lo s b qv A) : lo ≤ w.heap.size := by have := h.ls; have := h.st.lt; omega
theorem ObjIs.os_lo {w : World} {lo s b : Nat} {qv : Value} {A : AS} (h : ObjIs w lo s b qv A) : ∀ k, OS s b qv k → lo ≤ k := by
  rintro k (rfl | rfl | hk)
  · exact h.ls
  · exact h.lb
  · exact (h.qu.lo k hk.symm).1
theorem ObjIs.os_lt {w : World} {lo s b : Nat} {qv : Value} {A : AS} (h : ObjIs w lo s b qv A) : ∀ k, OS s b qv k → k < w.heap.size := by
  rintro k (rfl | rfl | hk)
  · exact h.st.lt
  · exact h.mp.lt
  · exact (h.qu.lo k hk.symm).2
/-- A block of a type of its own is none of a state's. -/
theorem ObjIs.ne {w : World} {lo s b g t : Nat} {qv : Value} {A : AS} {cs : Array Value} (h : ObjIs w lo s b qv A) (hg : Blk w g cs t) (h1 : t ≠ 74) (h2 : t ≠ 9) : ¬ OS s b qv g := by
  rintro (rfl | rfl | hk)
  · have := h.st
    rw [StIs, show w.heap[g]? = _ from hg] at this
    injection this with this
    injection this with _ this
    exact h1 this
  · exact h.mp.ne hg rfl
  · exact h.qu.ne hg h2 hk

/-- What Do leaves. -/
def DoPost (w : World) (lo s b : Nat) (qv : Value) (A : AS) (u : AU) (e : Ending) (w' : World) : Prop :=
  ∃ qv', e = .returned (resV (doA A u).1) ∧ ObjIs w' lo s b qv' (doA A u).2 ∧ Kept w w' (OS s b qv) ∧ (qv'.ownBlock = qv.ownBlock ∨ ∃ g, qv'.ownBlock = some g ∧ w.heap.size ≤ g)

theorem ovf_range (x : Int) : -9223372036854775808 ≤ wrap64 x ∧ wrap64 x ≤ 9223372036854775807 := by
  simp only [wrap64]; omega

/-- Nothing of the state has turned. -/
theorem DoPost.same {w w' : World} {lo s b : Nat} {qv : Value} {A : AS} {u : AU} {e : Ending} (h : ObjIs w lo s b qv A) (hr : e = .returned (resV (doA A u).1)) (hs : (doA A u).2 = A) (hb : Below w.heap.size w w') : DoPost w lo s b qv A u e w' :=
  ⟨qv, hr, by rw [hs]; exact h.below hb, Kept.of_below hb _, .inl rfl⟩

set_option maxHeartbeats 1000000 in
theorem do_all (lo s b : Nat) (qv : Value) (A : AS) (u : AU) (w : World) (h : ObjIs w lo s b qv A) :
    Calls Try.prog 12 #[.pointer (some ⟨s, 0, none⟩), updV u] w (DoPost w lo s b qv A u) := by
  obtain ⟨k, key, val, n⟩ := u
  have hf := h.fit
  have hsb : s ≠ b := h.mp.ne h.st
  unfold updV
  dsimp only
  cases hr : rightB k key val n with
  | false =>
    refine (do_wrong s k n key val w hr).mono ?_
    rintro e w' ⟨rfl, hb⟩
    exact DoPost.same h (by simp [doA, hr]; rfl) (by simp [doA, hr]) hb
  | true =>
    have hkk : k = 1 ∨ k = 2 ∨ k = 3 ∨ k = 4 ∨ k = 5 ∨ k = 6 ∨ k = 7 ∨ k = 8 := by
      have := hr
      simp only [rightB, Bool.and_eq_true, decide_eq_true_eq] at this
      omega
    obtain ⟨z1, z2⟩ := right_key hr
    rcases hkk with rfl | rfl | rfl | rfl | rfl | rfl | rfl | rfl
    · by_cases hfull : hasE key A.m = false ∧ ¬ A.m.length < 30
      · refine (do_put_full s b qv A.t n key val A.m w h.st h.mp hfull.1 hfull.2 hr).mono ?_
        rintro e w' ⟨rfl, hb⟩
        exact DoPost.same h (by simp [doA, hr, hfull]; rfl) (by simp [doA, hr, hfull]) hb
      · refine (do_put s b qv A.t n key val A.m w h.st h.mp (by
            cases hh : hasE key A.m with
            | true => exact .inl rfl
            | false => exact .inr (by simp [hh] at hfull; omega)) (by have := hf.ml; omega) hr).mono ?_
        rintro e w' ⟨rfl, h1, h2, h3⟩
        have e1 : doA A ⟨1, key, val, n⟩ = (hadR A key, { A with m := putE key val A.m }) := by unfold doA; rw [if_neg (by simp [hr]), if_pos rfl, if_neg hfull]
        refine ⟨qv, by rw [e1]; rfl, ?_, Kept.of_grown h3 fun k hk => .inr (.inl (Option.some.inj hk).symm), .inl rfl⟩
        rw [e1]
        have hlen := length_putE (k := key) (v := val) h.mp.2
        refine ⟨h1, h2, h.qu.grown h3 (by
          rcases h.qu with ⟨e, _⟩ | ⟨g, off, cap, cur, e, _, hg, _⟩
          · rw [e]; exact .inl rfl
          · rw [e]; refine .inr fun e' => ?_
            have : g = b := Option.some.inj e'
            subst this
            obtain ⟨⟨es, clock, hb, _⟩, _⟩ := h.mp
            rw [hg] at hb; cases hb), h.ls, h.lb, ⟨?_, hf.ql, ?_, hf.qk, hf.tl, hf.th, h2.2⟩⟩
        · show (putE key val A.m).length ≤ 30
          rw [hlen]
          have := hf.ml
          cases hh : hasE key A.m with
          | true => simpa using this
          | false => simp [hh] at hfull ⊢; omega
        · intro p hp
          rcases (mem_insE _ _ _).1 hp with rfl | hp
          · exact ⟨z1, z2⟩
          · exact hf.mks p (List.mem_filter.1 hp).1
    · refine (do_drop s b qv A.t n key val A.m w h.st h.mp hr).mono ?_
      rintro e w' ⟨rfl, h1, h2, h3⟩
      have e1 : doA A ⟨2, key, val, n⟩ = (hadR A key, { A with m := delE key A.m }) := by simp [doA, hr]
      refine ⟨qv, by rw [e1]; rfl, ?_, Kept.of_grown h3 fun k hk => .inr (.inl (Option.some.inj hk).symm), .inl rfl⟩
      rw [e1]
      refine ⟨h1, h2, h.qu.grown h3 (by
          rcases h.qu with ⟨e, _⟩ | ⟨g, off, cap, cur, e, _, hg, _⟩
          · rw [e]; exact .inl rfl
          · rw [e]; refine .inr fun e' => ?_
            have : g = b := Option.some.inj e'
            subst this
            obtain ⟨⟨es, clock, hb, _⟩, _⟩ := h.mp
            rw [hg] at hb; cases hb), h.ls, h.lb, ⟨Nat.le_trans (List.length_filter_le _ _) hf.ml, hf.ql, fun p hp => hf.mks p (List.mem_filter.1 hp).1, hf.qk, hf.tl, hf.th, h2.2⟩⟩
    · refine (do_had s b qv A.t n key val A.m w h.st h.mp hr).mono ?_
      rintro e w' ⟨rfl, hb⟩
      exact DoPost.same h (by simp [doA, hr]; rfl) (by simp [doA, hr]) hb
    · refine (do_add s _ qv A.t n key val w h.st hr).mono ?_
      rintro e w' ⟨rfl, h1, h2⟩
      have e1 : doA A ⟨4, key, val, n⟩ = (⟨ovf A.t n, ⟨#[]⟩, wrap64 (A.t + n), 0⟩, { A with t := wrap64 (A.t + n) }) := by simp [doA, hr]
      refine ⟨qv, by rw [e1]; rfl, ?_, Kept.of_grown h2 fun k hk => .inl (Option.some.inj hk).symm, .inl rfl⟩
      rw [e1]
      have hw := ovf_range (A.t + n)
      exact ⟨h1, h.mp.grown h2 (fun e => hsb (Option.some.inj e).symm), h.qu.grown h2 (h.qu.ne' h.st.blk (by decide)), h.ls, h.lb, ⟨hf.ml, hf.ql, hf.mks, hf.qk, hw.1, hw.2, hf.ri⟩⟩
    · refine (do_count s _ qv A.t n key val w h.st hr).mono ?_
      rintro e w' ⟨rfl, hb⟩
      exact DoPost.same h (by simp [doA, hr]; rfl) (by simp [doA, hr]) hb
    · by_cases h30 : A.q.length < 30
      · refine (do_push s _ qv A.t n key val lo A.q w h.st h.qu h30 h.lw hr).mono ?_
        rintro e w' ⟨q', rfl, h1, h2, h3, h4⟩
        have e1 : doA A ⟨6, key, val, n⟩ = (⟨false, ⟨#[]⟩, ((A.q.length + 1 : Nat) : Int), 0⟩, { A with q := A.q ++ [val] }) := by simp [doA, hr, h30]
        refine ⟨q', by rw [e1]; rfl, ?_, h3.mono fun k _ hk => hk.elim .inl fun h => .inr (.inr h), h4⟩
        rw [e1]
        refine ⟨h1, h.mp.kept h3 ?_, h2, h.ls, h.lb, ⟨hf.ml, by simp; omega, hf.mks, ?_, hf.tl, hf.th, hf.ri⟩⟩
        · rintro (e | e)
          · exact hsb e.symm
          · rcases h.qu with ⟨e', _⟩ | ⟨g, off, cap, cur, e', _, hg, _⟩ <;> rw [e'] at e
            · cases e
            · have : b = g := Option.some.inj e
              subst this
              obtain ⟨⟨es, clock, hb, _⟩, _⟩ := h.mp
              rw [hg] at hb; cases hb
        · intro x hx
          rcases List.mem_append.1 hx with hx | hx
          · exact hf.qk x hx
          · simp at hx; subst hx; exact z2
      · refine (do_push_full s _ qv A.t n key val lo A.q w h.st h.qu h30 (by have := hf.ql; omega) hr).mono ?_
        rintro e w' ⟨rfl, hb⟩
        exact DoPost.same h (by simp [doA, hr, h30]; rfl) (by simp [doA, hr, h30]) hb
    · obtain ⟨m, t, q⟩ := A
      cases q with
      | nil =>
        refine (do_pop_none s _ qv t n key val lo w h.st h.qu hr).mono ?_
        rintro e w' ⟨rfl, hb⟩
        exact DoPost.same h (by simp [doA, hr]; rfl) (by simp [doA, hr]) hb
      | cons x r =>
        refine (do_pop s _ qv t n key val lo x r w h.st h.qu (by have := hf.ql; simp at this; omega) hr).mono ?_
        rintro e w' ⟨q', rfl, h1, h2, h3, h4⟩
        have e1 : doA ⟨m, t, x :: r⟩ ⟨7, key, val, n⟩ = (⟨true, x, 0, 0⟩, ⟨m, t, r⟩) := by simp [doA, hr]
        refine ⟨q', by rw [e1]; rfl, ?_, h3.mono fun k _ hk => hk.elim .inl fun h => .inr (.inr h), .inl h4⟩
        rw [e1]
        refine ⟨h1, h.mp.kept h3 ?_, h2, h.ls, h.lb, ⟨hf.ml, by have := hf.ql; simp at this ⊢; omega, hf.mks, fun y hy => hf.qk y (by simp [hy]), hf.tl, hf.th, hf.ri⟩⟩
        rintro (e | e)
        · exact hsb e.symm
        · rcases h.qu with ⟨e', _⟩ | ⟨g, off, cap, cur, e', _, hg, _⟩ <;> rw [e'] at e
          · cases e
          · have : b = g := Option.some.inj e
            subst this
            obtain ⟨⟨es, clock, hb, _⟩, _⟩ := h.mp
            rw [hg] at hb; cases hb
    · refine (do_size s _ qv A.t n key val lo A.q w h.st h.qu hr).mono ?_
      rintro e w' ⟨rfl, hb⟩
      exact DoPost.same h (by simp [doA, hr]; rfl) (by simp [doA, hr]) hb
end Go.Proofs.Ytnffkefhajodmaa
