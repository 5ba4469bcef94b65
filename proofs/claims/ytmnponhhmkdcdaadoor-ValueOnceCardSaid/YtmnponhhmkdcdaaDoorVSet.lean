/- Sets of rows: sorted, each once. -/
import Derived.Test.YtmnponhhmkdcdaaDoorVDef
import Derived.Test.YtmnponhhmkdcdaaDoorKRow
namespace Go.Kin
/-! ### sets of rows -/
set_option linter.unusedSectionVars false
section
variable {α : Type} [DecidableEq α] [Inhabited α] {c : α → α → Int}
def leB (c : α → α → Int) (a b : α) : Bool := !decide (c b a < 0)
def sortL (c : α → α → Int) (x : List α) : List α := x.mergeSort (leB c)
/-- of equal ones that stand together, the first -/
def dd : Option α → List α → List α
  | _, [] => []
  | p, r :: t => if p = some r then dd p t else r :: dd (some r) t
def setL (c : α → α → Int) (x : List α) : List α := dd none (sortL c x)
theorem dd_snoc : ∀ (x : List α) (p : Option α) (a : α), dd p (x ++ [a]) = dd p x ++ (if (x.getLast?.or p) = some a then [] else [a])
  | [], p, a => by
    show (if p = some a then [] else [a]) = [] ++ if p = some a then [] else [a]
    rfl
  | r :: t, p, a => by
    have e : (r :: t).getLast?.or p = t.getLast?.or (some r) := by
      cases t with
      | nil => simp
      | cons y t =>
        rw [List.getLast?_cons_cons]
        cases h : (y :: t).getLast? with
        | none => simp at h
        | some z => rfl
    simp only [List.cons_append, dd]
    by_cases h : p = some r
    · subst h
      rw [if_pos rfl, if_pos rfl, dd_snoc t, e]
    · rw [if_neg h, if_neg h, dd_snoc t, e]; rfl
theorem dd_take {x : List α} {k : Nat} (h : k < x.length) : dd none (x.take (k + 1)) = dd none (x.take k) ++ (if 0 < k ∧ nth x (k - 1) = nth x k then [] else [nth x k]) := by
  have e : x.take (k + 1) = x.take k ++ [nth x k] := by
    rw [List.take_add_one, List.getElem?_eq_getElem h]; simp [nth_of (List.getElem?_eq_getElem h)]
  rw [e, dd_snoc]
  congr 1
  cases k with
  | zero => simp
  | succ k =>
    have e2 : (x.take (k + 1)).getLast? = some (nth x k) := by
      rw [List.getLast?_take]
      simp [show x[k]? = some (nth x k) from by rw [List.getElem?_eq_getElem (by omega)]; rw [nth_of (List.getElem?_eq_getElem (by omega))]]
    simp [e2]
theorem dd_mem : ∀ (x : List α) (p : Option α) (a : α), a ∈ dd p x ∨ p = some a ↔ a ∈ x ∨ p = some a
  | [], p, a => by simp [dd]
  | r :: t, p, a => by
    simp only [dd]
    by_cases h : p = some r
    · subst h
      rw [if_pos rfl, dd_mem t]
      simp only [List.mem_cons, Option.some.injEq]
      constructor
      · rintro (h | h)
        · exact .inl (.inr h)
        · exact .inr h
      · rintro ((h | h) | h)
        · exact .inr h.symm
        · exact .inl h
        · exact .inr h
    · rw [if_neg h]
      have := dd_mem t (some r) a
      simp only [List.mem_cons, Option.some.injEq] at this ⊢
      constructor
      · rintro ((h | h) | h)
        · exact .inl (.inl h)
        · rcases this.1 (.inl h) with h | h
          · exact .inl (.inr h)
          · exact .inl (.inl h.symm)
        · exact .inr h
      · rintro ((h | h) | h)
        · exact .inl (.inl h)
        · rcases this.2 (.inl h) with h | h
          · exact .inl (.inr h)
          · exact .inl (.inl h.symm)
        · exact .inr h
theorem set_mem (x : List α) (a : α) : a ∈ setL c x ↔ a ∈ x := by
  have := dd_mem (sortL c x) none a
  simp at this
  unfold setL
  rw [this]; unfold sortL; exact List.mem_mergeSort
/-- each less than all behind -/
def Asc (c : α → α → Int) (x : List α) : Prop := x.Pairwise fun a b => c a b < 0
theorem sort_pw (h : Ord3 c) (x : List α) : (sortL c x).Pairwise fun a b => c a b ≤ 0 := by
  refine (List.pairwise_mergeSort (le := leB c) ?_ ?_ x).imp ?_
  · intro a b d h1 h2
    simp only [leB, Bool.not_eq_true', decide_eq_false_iff_not] at *
    have h3 := h.trans a b d (by have := h.anti a b; omega) (by have := h.anti b d; omega)
    have := h.anti a d
    omega
  · intro a b
    simp only [leB, Bool.or_eq_true, Bool.not_eq_true', decide_eq_false_iff_not]
    have := h.anti a b
    omega
  · intro a b h1
    simp only [leB, Bool.not_eq_true', decide_eq_false_iff_not] at h1
    have := h.anti a b
    omega
theorem dd_asc (h : Ord3 c) : ∀ (x : List α) (p : Option α), (x.Pairwise fun a b => c a b ≤ 0) → (∀ q, p = some q → ∀ a ∈ x, c q a ≤ 0) → Asc c (dd p x) ∧ ∀ q, p = some q → ∀ a ∈ dd p x, c q a < 0
  | [], p, _, _ => by simp [dd, Asc]
  | r :: t, p, hx, hp => by
    rw [List.pairwise_cons] at hx
    simp only [dd]
    by_cases hpr : p = some r
    · subst hpr
      rw [if_pos rfl]
      exact dd_asc h t (some r) hx.2 (fun q hq a ha => by cases hq; exact hx.1 a ha)
    · rw [if_neg hpr]
      obtain ⟨h1, h2⟩ := dd_asc h t (some r) hx.2 (fun q hq a ha => by cases hq; exact hx.1 a ha)
      refine ⟨List.pairwise_cons.2 ⟨fun a ha => h2 r rfl a ha, h1⟩, fun q hq a ha => ?_⟩
      subst hq
      have hqr : c q r < 0 := by
        have h3 := hp q rfl r List.mem_cons_self
        have h4 : c q r ≠ 0 := fun e => hpr (by rw [(h.zero q r).1 e])
        omega
      rcases List.mem_cons.1 ha with rfl | ha
      · exact hqr
      · have h5 := h2 r rfl a ha
        have h6 := h.trans q r a (by omega) (by omega)
        have h7 : c q a ≠ 0 := fun e => by
          obtain rfl := (h.zero q a).1 e
          have := h.anti q r
          omega
        omega
theorem set_asc (h : Ord3 c) (x : List α) : Asc c (setL c x) := (dd_asc h _ none (sort_pw h x) (fun q hq => by cases hq)).1
theorem asc_ext (h : Ord3 c) : ∀ {x y : List α}, Asc c x → Asc c y → (∀ a, a ∈ x ↔ a ∈ y) → x = y
  | [], [], _, _, _ => rfl
  | [], b :: y, _, _, hm => by have := (hm b).2 List.mem_cons_self; cases this
  | a :: x, [], _, _, hm => by have := (hm a).1 List.mem_cons_self; cases this
  | a :: x, b :: y, hx, hy, hm => by
    unfold Asc at hx hy
    rw [List.pairwise_cons] at hx hy
    have irr : ∀ z, ¬ c z z < 0 := fun z hz => by have := (h.zero z z).2 rfl; omega
    have hab : a = b := by
      rcases List.mem_cons.1 ((hm a).1 List.mem_cons_self) with e | ha
      · exact e
      · rcases List.mem_cons.1 ((hm b).2 List.mem_cons_self) with e | hb
        · exact e.symm
        · have h1 := hx.1 b hb
          have h2 := hy.1 a ha
          have := h.anti a b
          omega
    subst hab
    congr 1
    refine asc_ext h hx.2 hy.2 fun z => ?_
    have := hm z
    simp only [List.mem_cons] at this
    constructor
    · intro hz
      rcases this.1 (.inr hz) with rfl | h1
      · exact (irr z (hx.1 z hz)).elim
      · exact h1
    · intro hz
      rcases this.2 (.inr hz) with rfl | h1
      · exact (irr z (hy.1 z hz)).elim
      · exact h1
theorem set_same (h : Ord3 c) {x y : List α} (hm : ∀ a, a ∈ x ↔ a ∈ y) : setL c x = setL c y :=
  asc_ext h (set_asc h x) (set_asc h y) fun a => by rw [set_mem, set_mem]; exact hm a
theorem set_set (h : Ord3 c) (x : List α) : setL c (setL c x) = setL c x := set_same h fun a => set_mem x a
theorem set_step (h : Ord3 c) {x : List α} {i : Nat} (h0 : 0 < i) (hi : i < (setL c x).length) : c (nth (setL c x) (i - 1)) (nth (setL c x) i) < 0 := by
  have hp := List.pairwise_iff_getElem.1 (set_asc h x) (i - 1) i (by omega) hi (by omega)
  rwa [nth_of (List.getElem?_eq_getElem (by omega)), nth_of (List.getElem?_eq_getElem hi)]
theorem dd_len : ∀ (x : List α) (p : Option α), (dd p x).length ≤ x.length
  | [], _ => Nat.le_refl _
  | r :: t, p => by
    simp only [dd]
    split
    · have := dd_len t p; simp; omega
    · have := dd_len t (some r); simp; omega
theorem set_len (x : List α) : (setL c x).length ≤ x.length := by
  have := dd_len (sortL c x) none
  unfold setL
  rwa [show (sortL c x).length = x.length from by unfold sortL; exact List.length_mergeSort x] at this
end
end Go.Kin
