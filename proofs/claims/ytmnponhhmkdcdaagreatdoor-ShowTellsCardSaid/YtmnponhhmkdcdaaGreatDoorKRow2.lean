/- Shapes of slices within slices. -/
import Derived.Test.YtmnponhhmkdcdaaGreatDoorKRow
namespace Go.Kin
open Go.RowKit
/-! ### shapes of slices within slices -/
theorem LeDs.rdc {w : World} {Z : Nat → Prop} : ∀ {ds ds' : List D} {b off : Nat}, LeDs ds ds' → RdC w Z b off ds → RdC w Z b off ds'
  | [], [], _, _, _, h => h
  | d :: ds, d' :: ds', b, off, hl, h => by
    simp only [LeDs] at hl
    simp only [RdC] at h ⊢
    obtain ⟨⟨v, h1, h2⟩, h3⟩ := h
    exact ⟨⟨v, h1, hl.1 w Z v h2⟩, LeDs.rdc hl.2 h3⟩
  | [], _ :: _, _, _, hl, _ => hl.elim
  | _ :: _, [], _, _, hl, _ => hl.elim
theorem LeDs.len : ∀ {ds ds' : List D}, LeDs ds ds' → ds.length = ds'.length
  | [], [], _ => rfl
  | d :: ds, d' :: ds', h => by simp only [LeDs] at h; simp [LeDs.len h.2]
  | [], _ :: _, h => h.elim
  | _ :: _, [], h => h.elim
theorem LeD.rows {k n : Nat} {row row' : Nat → List D} (h : ∀ i, i < n → LeDs (row i) (row' i) ∧ lfR (row' i) = true) : LeD (.sl k n n row) (.sl k n n row') := fun w Z v hv => by
  simp only [RdV] at hv ⊢
  obtain ⟨a, c, h1, h2, h3, h4, h5⟩ := hv
  refine ⟨a, c, h1, h2, h3, h4, h5.imp id ?_⟩
  rintro ⟨b, off, rfl, hz, he⟩
  exact ⟨b, off, rfl, hz, fun i hi => ⟨by rw [← (h i hi).1.len]; exact (he i hi).1, (h i hi).2, (h i hi).1.rdc (he i hi).2.2⟩⟩
theorem LeDs.refl : ∀ (ds : List D), LeDs ds ds
  | [] => trivial
  | d :: ds => ⟨LeD.refl d, LeDs.refl ds⟩
/-- a slice, its elements told one by one -/
theorem shp1_slice {te : TE} {t e : Nat} {i j : TyI} (hi : klook t te = some i) (hu : i.u = .slice e) (hj : klook e te = some j) {α : Type} [Inhabited α] {f : α → List D} {p : α → Prop} (hlf : ∀ a, lfR (f a) = true) {m : Nat} (hf : ∀ m' ds, m' < m → Shp te m' e ds → ∃ a, LeDs ds (f a) ∧ p a) {ds : List D} (h : Shp te m t ds) :
    ∃ l : List α, LeDs ds [.sl j.size l.length l.length fun i => f (nth l i)] ∧ (∀ a ∈ l, p a) ∧ l.length ≤ topLen ∧ l.length * j.bytes ≤ reachBytes := by
  cases m with
  | zero => exact h.elim
  | succ m =>
    simp only [Shp, hi, hu, hj] at h
    obtain ⟨n, row, rfl, h4, h5, h6⟩ := h
    obtain ⟨l, h1, h2⟩ := list_of (fun i hi => hf m (row i) (Nat.lt_succ_self m) (h6 i hi))
    refine ⟨l, ⟨?_, trivial⟩, fun a ha => ?_, by rw [h1]; exact h4, by rw [h1]; exact h5⟩
    · rw [h1]
      refine LeD.rows fun i hi => ⟨?_, hlf _⟩
      obtain ⟨a, ha⟩ : ∃ a, l[i]? = some a := ⟨l[i]'(by omega), by simp [h1, hi]⟩
      rw [nth_of ha]; exact (h2 i a ha).1
    · obtain ⟨i, hi⟩ := List.getElem?_of_mem ha
      exact (h2 i a hi).2
theorem argShp_slice {te : TE} {t e : Nat} {i j : TyI} (hi : klook t te = some i) (hu : i.u = .slice e) (hj : klook e te = some j) {α : Type} [Inhabited α] {f : α → List D} {p : α → Prop} (hlf : ∀ a, lfR (f a) = true) (hf : ∀ m' ds, Shp te m' e ds → ∃ a, LeDs ds (f a) ∧ p a) {x : D} (h : ArgShp te t x) :
    ∃ l : List α, LeD x (.sl j.size l.length l.length fun i => f (nth l i)) ∧ (∀ a ∈ l, p a) ∧ l.length ≤ topLen ∧ l.length * j.bytes ≤ reachBytes := by
  obtain ⟨m, ds, h1, h2⟩ := h
  obtain ⟨l, g1, g2, g3, g4⟩ := shp1_slice hi hu hj hlf (fun m' ds _ h => hf m' ds h) h1
  simp [aggT, hi, hu, aggD] at h2
  refine ⟨l, ?_, g2, g3, g4⟩
  cases ds with
  | nil => exact g1.elim
  | cons d r =>
    cases r with
    | nil =>
      simp at h2
      subst h2; exact g1.1
    | cons d' r => exact g1.2.elim
end Go.Kin
