/- A map from texts to texts, as a list that rises by its keys: the plain law, and how the kit's reading of a map is such a list. -/
import Derived.Maps.OwnSet
import Derived.Maps.StringElems
import Derived.Sort.KeysCollected
import Derived.WideShapes
import Derived.Laws.Strings
set_option linter.unusedVariables false
set_option linter.unusedSimpArgs false
namespace Go.Proofs.Ytnffkefhajodmaa
open Go.Maps

abbrev Ents := List (ByteArray × ByteArray)
/-- A text's bytes. -/
def bk (k : ByteArray) : List UInt8 := k.data.toList
theorem bk_inj {a b : ByteArray} (h : bk a = bk b) : a = b := by
  cases a; cases b; simp [bk] at h; rw [h]
theorem bk_beq (a b : ByteArray) : (bk a == bk b) = decide (a = b) := by
  by_cases h : a = b
  · subst h; simp
  · have : bk a ≠ bk b := fun e => h (bk_inj e)
    simp [h, this]

def insE (x : ByteArray × ByteArray) : Ents → Ents
  | [] => [x]
  | y :: r => if bytesBefore (bk x.1) (bk y.1) then x :: y :: r else y :: insE x r
def delE (k : ByteArray) (m : Ents) : Ents := m.filter fun p => !decide (p.1 = k)
def putE (k v : ByteArray) (m : Ents) : Ents := insE (k, v) (delE k m)
def getE (k : ByteArray) (m : Ents) : Option ByteArray := (m.find? fun p => decide (p.1 = k)).map (·.2)
def hasE (k : ByteArray) (m : Ents) : Bool := m.any fun p => decide (p.1 = k)
def Rises (m : Ents) : Prop := m.Pairwise fun p q => bytesBefore (bk p.1) (bk q.1) = true

theorem mem_insE (x y : ByteArray × ByteArray) : ∀ m : Ents, y ∈ insE x m ↔ y = x ∨ y ∈ m
  | [] => by simp [insE]
  | z :: r => by
    unfold insE
    split
    · simp
    · simp only [List.mem_cons, mem_insE x y r]
      constructor
      · rintro (h | h | h) <;> simp [h]
      · rintro (h | h | h) <;> simp [h]
theorem length_insE (x : ByteArray × ByteArray) : ∀ m : Ents, (insE x m).length = m.length + 1
  | [] => rfl
  | z :: r => by unfold insE; split <;> simp [length_insE x r]
theorem rises_insE (x : ByteArray × ByteArray) : ∀ m : Ents, Rises m → (∀ p ∈ m, p.1 ≠ x.1) → Rises (insE x m)
  | [], _, _ => by simp [insE, Rises]
  | z :: r, hm, hn => by
    unfold insE
    have hz := List.pairwise_cons.1 hm
    split
    · rename_i hb
      refine List.pairwise_cons.2 ⟨fun p hp => ?_, hm⟩
      rcases List.mem_cons.1 hp with rfl | hp
      · exact hb
      · exact WideShapes.bytes_trans _ _ _ hb (hz.1 p hp)
    · rename_i hb
      refine List.pairwise_cons.2 ⟨fun p hp => ?_, rises_insE x r hz.2 fun p hp => hn p (by simp [hp])⟩
      rcases (mem_insE x p r).1 hp with rfl | hp
      · rcases WideAt.bytes_total (bk z.1) (bk p.1) (fun e => hn z (by simp) (bk_inj e)) with h | h
        · exact h
        · exact absurd h hb
      · exact hz.1 p hp
theorem rises_delE (k : ByteArray) (m : Ents) (h : Rises m) : Rises (delE k m) := List.Pairwise.filter _ h
theorem delE_ne (k : ByteArray) (m : Ents) : ∀ p ∈ delE k m, p.1 ≠ k := by
  intro p hp
  have := (List.mem_filter.1 hp).2
  simpa using this
theorem rises_putE (k v : ByteArray) (m : Ents) (h : Rises m) : Rises (putE k v m) := rises_insE (k, v) _ (rises_delE k m h) (delE_ne k m)

theorem find_insE_hit {f : ByteArray × ByteArray → Bool} {x : ByteArray × ByteArray} (hx : f x = true) : ∀ m : Ents, (∀ p ∈ m, f p = false) → (insE x m).find? f = some x
  | [], _ => by simp [insE, hx]
  | y :: r, h => by
    unfold insE
    split
    · simp [hx]
    · simp [h y (by simp), find_insE_hit hx r (fun p hp => h p (by simp [hp]))]
theorem find_insE_miss {f : ByteArray × ByteArray → Bool} {x : ByteArray × ByteArray} (hx : f x = false) : ∀ m : Ents, (insE x m).find? f = m.find? f
  | [] => by simp [insE, hx]
  | y :: r => by
    unfold insE
    split
    · simp [hx]
    · cases hy : f y <;> simp [hy, find_insE_miss hx r]
theorem getE_put_same (k v : ByteArray) (m : Ents) : getE k (putE k v m) = some v := by
  unfold getE putE
  rw [find_insE_hit (by simp) _ (fun p hp => by simpa using delE_ne k m p hp)]; rfl
theorem getE_del_same (k : ByteArray) (m : Ents) : getE k (delE k m) = none := by
  unfold getE
  rw [List.find?_eq_none.2 (fun p hp => by simpa using delE_ne k m p hp)]; rfl
theorem getE_del_other {k k' : ByteArray} (h : k' ≠ k) (m : Ents) : getE k' (delE k m) = getE k' m := by
  unfold getE delE
  rw [Maps.find_filter_keep]
  intro p hp
  simp at hp ⊢
  rw [hp]; exact h
theorem getE_put_other {k k' : ByteArray} (h : k' ≠ k) (v : ByteArray) (m : Ents) : getE k' (putE k v m) = getE k' m := by
  rw [← getE_del_other h m]
  unfold getE putE
  rw [find_insE_miss (by simp; exact fun e => h e.symm)]
theorem hasE_eq (k : ByteArray) (m : Ents) : hasE k m = (getE k m).isSome := by
  unfold hasE getE
  rw [Option.isSome_map]
  induction m with
  | nil => rfl
  | cons p r ih =>
    simp only [List.any_cons, List.find?_cons]
    by_cases h : p.1 = k <;> simp [h] <;> simpa using ih
theorem hasE_false_del {k : ByteArray} {m : Ents} (h : hasE k m = false) : delE k m = m := by
  unfold delE hasE at *
  rw [List.filter_eq_self]
  intro p hp
  have := List.any_eq_false.1 h p hp
  simpa using this
theorem length_delE {k : ByteArray} : ∀ {m : Ents}, Rises m → hasE k m = true → (delE k m).length + 1 = m.length
  | [], _, h => by simp [hasE] at h
  | p :: r, hm, h => by
    have hp := List.pairwise_cons.1 hm
    by_cases hk : p.1 = k
    · have hr : hasE k r = false := by
        unfold hasE
        rw [List.any_eq_false]
        intro q hq
        have := hp.1 q hq
        simp
        intro e
        rw [e, hk, WideAt.bytes_irrefl] at this
        cases this
      have e := hasE_false_del hr
      unfold delE at *
      rw [List.filter_cons_of_neg (by simp [hk]), e]; rfl
    · have hr : hasE k r = true := by
        unfold hasE at h ⊢
        rw [List.any_cons] at h
        simpa [hk] using h
      have := length_delE hp.2 hr
      unfold delE at *
      rw [List.filter_cons_of_pos (by simp [hk])]
      simp only [List.length_cons]; omega
theorem length_putE {k v : ByteArray} {m : Ents} (hm : Rises m) : (putE k v m).length = if hasE k m then m.length else m.length + 1 := by
  unfold putE
  rw [length_insE]
  cases h : hasE k m with
  | true => rw [if_pos rfl, length_delE hm h]
  | false => rw [if_neg (by simp), hasE_false_del h]

/-! ### the kit's reading -/
section
variable {H : Type}
def lift (p : ByteArray × ByteArray) : Lit × DataW H := (.string (bk p.1), .lit (.string (bk p.2)))
def toD (m : Ents) : DataW H := .map (m.map lift)
theorem same_lift (p : ByteArray × ByteArray) (k : ByteArray) : (lift (H := H) p).1.sameKey (.string (bk k)) = decide (p.1 = k) := bk_beq _ _
theorem insert_lift (x : ByteArray × ByteArray) : ∀ m : Ents, DataW.insert (lift (H := H) x) (m.map lift) = (insE x m).map lift
  | [] => rfl
  | y :: r => by
    unfold insE DataW.insert
    simp only [List.map_cons]
    have e : (lift (H := H) x).1.before (lift (H := H) y).1 = bytesBefore (bk x.1) (bk y.1) := rfl
    rw [e]
    split
    · rfl
    · rw [List.map_cons, insert_lift x r]
theorem filter_lift (k : ByteArray) (m : Ents) : ((m.map (lift (H := H))).filter fun p => !p.1.sameKey (.string (bk k))) = (delE k m).map lift := by
  unfold delE
  rw [List.filter_map]
  congr 1
  apply List.filter_congr
  intro p _
  simp only [Function.comp, same_lift]
theorem toD_put (k v : ByteArray) (m : Ents) : (toD (H := H) m).put (.string (bk k)) (.lit (.string (bk v))) = toD (putE k v m) := by
  unfold toD
  show DataW.map (DataW.insert (lift (k, v)) _) = _
  rw [filter_lift, insert_lift]; rfl
theorem toD_del (k : ByteArray) (m : Ents) : (toD (H := H) m).del (.string (bk k)) = toD (delE k m) := by
  unfold toD
  show DataW.map _ = _
  rw [filter_lift]
theorem toD_at (k : ByteArray) (m : Ents) : (toD (H := H) m).atKey (.string (bk k)) (.lit (.string [])) = .lit (.string (bk ((getE k m).getD ByteArray.empty))) := by
  unfold toD getE
  show (match (m.map (lift (H := H))).find? (fun p => p.1.sameKey (.string (bk k))) with | some p => p.2 | none => .lit (.string [])) = _
  rw [List.find?_map]
  have e : ((fun p : Lit × DataW H => p.1.sameKey (.string (bk k))) ∘ lift) = fun p => decide (p.1 = k) := by
    funext p; exact same_lift (H := H) p k
  rw [e]
  cases m.find? (fun p => decide (p.1 = k)) <;> rfl
theorem toD_has (k : ByteArray) (m : Ents) : Maps.has (toD (H := H) m) (.string (bk k)) = hasE k m := by
  unfold toD hasE
  rw [Maps.has_eq, List.any_map]
  congr 1
  funext p; exact same_lift (H := H) p k
theorem toD_size (m : Ents) : Maps.size (toD (H := H) m) = m.length := by simp [toD, Maps.size_eq]
end

theorem before_lt : ∀ {a b : List UInt8}, bytesBefore a b = true → a < b
  | [], [], h => by simp [bytesBefore] at h
  | [], _ :: _, _ => List.nil_lt_cons _ _
  | _ :: _, [], h => by simp [bytesBefore] at h
  | a :: r, b :: s, h => by
    simp only [bytesBefore, Bool.or_eq_true, decide_eq_true_eq, Bool.and_eq_true, beq_iff_eq] at h
    rw [List.cons_lt_cons_iff]
    rcases h with h | ⟨h, h2⟩
    · exact .inl h
    · exact .inr ⟨h, before_lt h2⟩
theorem strKeys_toD {H : Type} (m : Ents) : Go.strKeys (toD (H := H) m) = m.map fun p => bk p.1 := by
  unfold toD
  show (m.map lift).map _ = _
  rw [List.map_map]; rfl
theorem sorted_keys {H : Type} {m : Ents} (hm : Rises m) {ss : List (List UInt8)} (h : ss.Perm (Go.strKeys (toD (H := H) m))) : ss.mergeSort (fun x y => decide (x ≤ y)) = m.map fun p => bk p.1 := by
  have := Go.mergeSort_of_perm h
  rw [this, strKeys_toD]
  refine List.mergeSort_of_pairwise ?_
  rw [List.pairwise_map]
  refine hm.imp fun {p q} hpq => ?_
  simp only [Go.leB, decide_eq_true_eq]
  exact List.le_of_lt (before_lt hpq)

theorem getE_mem {m : Ents} (hm : Rises m) {k : Nat} (hk : k < m.length) : getE m[k].1 m = some m[k].2 := by
  unfold getE
  have : m.find? (fun p => decide (p.1 = m[k].1)) = some m[k] := by
    rw [List.find?_eq_some_iff_getElem]
    refine ⟨by simp, k, hk, rfl, fun j hj => ?_⟩
    have := (List.pairwise_iff_getElem.1 hm) j k (by omega) hk hj
    simp
    intro e
    rw [e, WideAt.bytes_irrefl] at this
    cases this
  rw [this]; rfl

theorem less_before : ∀ a b : List UInt8, Op.bytesLess a b = bytesBefore a b
  | [], [] => rfl
  | [], _ :: _ => rfl
  | _ :: _, [] => rfl
  | a :: r, b :: s => by simp only [Op.bytesLess, bytesBefore, less_before r s]
theorem tl_bk (a : ByteArray) : a.toList = bk a := ByteArray.toList_eq a
/-- Of two keys the later one is not below, nor the same. -/
theorem later {a b : ByteArray} (h : bytesBefore (bk a) (bk b) = true) : Op.bytesLess b.toList a.toList = false ∧ (b.toList == a.toList) = false := by
  rw [tl_bk, tl_bk, less_before, bk_beq]
  refine ⟨?_, ?_⟩
  · cases hh : bytesBefore (bk b) (bk a) with
    | false => rfl
    | true => have := WideShapes.bytes_trans _ _ _ h hh; rw [WideAt.bytes_irrefl] at this; cases this
  · rw [decide_eq_false_iff_not]
    intro e
    rw [e, WideAt.bytes_irrefl] at h
    cases h
theorem rises_at {m : Ents} (hm : Rises m) {i j : Nat} (hi : i < j) (hj : j < m.length) : bytesBefore (bk m[i].1) (bk m[j].1) = true :=
  (List.pairwise_iff_getElem.1 hm) i j (by omega) hj hi
theorem hasE_take (key : ByteArray) (m : Ents) (j : Nat) (h : j < m.length) : hasE key (m.take (j + 1)) = (hasE key (m.take j) || decide (m[j].1 = key)) := by
  unfold hasE
  rw [List.take_succ_eq_append_getElem h, List.any_append]; simp
end Go.Proofs.Ytnffkefhajodmaa
