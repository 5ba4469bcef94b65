/- Signs, words and numbers: what is found by hand is what is found. -/
import Derived.Test.YtmnponhhmkdcdaaDoorLxDef
namespace Go.Kin
open Go.Lib
def signsR : List (List UInt8) := [[93, 45, 62], [93, 61, 62], [33, 61], [60, 61], [62, 61], [45, 91], [61, 91], [40], [41], [91], [93], [44], [46], [124], [42], [43], [63], [61], [60], [62]]
/-- the longest sign with which a text begins -/
def IsBest (s r : List UInt8) : Prop := (r = [] ∧ ∀ x ∈ signsF, hasPrefix s x = false) ∨ (r ∈ signsF ∧ hasPrefix s r = true ∧ ∀ x ∈ signsF, hasPrefix s x = true → x.length ≤ r.length)
theorem signs_ne : ∀ x ∈ signsF, 0 < x.length := by decide
theorem best_isBest (s : List UInt8) : IsBest s (bestSign s) := by
  have : ∀ (l p : List (List UInt8)) (b : List UInt8), (∀ x ∈ l, x ∈ signsF) → ((b = [] ∧ ∀ x ∈ p, hasPrefix s x = false) ∨ (b ∈ signsF ∧ hasPrefix s b = true ∧ ∀ x ∈ p, hasPrefix s x = true → x.length ≤ b.length)) →
      ((l.foldl (bestStep s) b = [] ∧ ∀ x ∈ p ++ l, hasPrefix s x = false) ∨ (l.foldl (bestStep s) b ∈ signsF ∧ hasPrefix s (l.foldl (bestStep s) b) = true ∧ ∀ x ∈ p ++ l, hasPrefix s x = true → x.length ≤ (l.foldl (bestStep s) b).length)) := by
    intro l
    induction l with
    | nil => intro p b _ h; simpa using h
    | cons y r ih =>
      intro p b hm h
      have hy := hm y (List.mem_cons_self ..)
      have h2 := ih (p ++ [y]) (bestStep s b y) (fun x hx => hm x (List.mem_cons_of_mem _ hx)) (by
        unfold bestStep
        by_cases hp : hasPrefix s y = true
        · by_cases hl : b.length < y.length
          · rw [if_pos (by rw [hp, Bool.true_and]; exact decide_eq_true (by omega))]
            right
            refine ⟨hy, hp, fun x hx hx2 => ?_⟩
            rcases List.mem_append.1 hx with hx | hx
            · rcases h with ⟨_, h⟩ | ⟨_, _, h⟩
              · rw [h x hx] at hx2; cases hx2
              · have := h x hx hx2; omega
            · simp at hx; subst hx; omega
          · rw [if_neg (by rw [hp, Bool.true_and]; intro e; have := of_decide_eq_true e; omega)]
            rcases h with ⟨rfl, h⟩ | ⟨h1, h2, h3⟩
            · have := signs_ne y hy; simp at hl; subst hl; simp at this
            · right
              refine ⟨h1, h2, fun x hx hx2 => ?_⟩
              rcases List.mem_append.1 hx with hx | hx
              · exact h3 x hx hx2
              · simp at hx; subst hx; omega
        · have hp' : hasPrefix s y = false := by simpa using hp
          rw [if_neg (by rw [hp']; simp)]
          rcases h with ⟨h1, h2⟩ | ⟨h1, h2, h3⟩
          · left; refine ⟨h1, fun x hx => ?_⟩
            rcases List.mem_append.1 hx with hx | hx
            · exact h2 x hx
            · simp at hx; subst hx; exact hp'
          · right; refine ⟨h1, h2, fun x hx hx2 => ?_⟩
            rcases List.mem_append.1 hx with hx | hx
            · exact h3 x hx hx2
            · simp at hx; subst hx; rw [hp'] at hx2; cases hx2)
      simpa using h2
  have h := this signsF [] [] (fun _ h => h) (.inl ⟨rfl, fun x hx => by cases hx⟩)
  exact h
theorem prefix_take {s p : List UInt8} (h : hasPrefix s p = true) : p = s.take p.length := by
  unfold hasPrefix at h; rw [List.isPrefixOf_iff_prefix] at h
  exact List.prefix_iff_eq_take.1 h
theorem isBest_unique {s r r' : List UInt8} (h : IsBest s r) (h' : IsBest s r') : r = r' := by
  rcases h with ⟨rfl, h⟩ | ⟨h1, h2, h3⟩ <;> rcases h' with ⟨rfl, h'⟩ | ⟨h1', h2', h3'⟩
  · rfl
  · rw [h _ h1'] at h2'; cases h2'
  · rw [h' _ h1] at h2; cases h2
  · have e : r.length = r'.length := Nat.le_antisymm (h3' r h1 h2) (h3 r' h1' h2')
    rw [prefix_take h2, prefix_take h2', e]
theorem sub_fr : ∀ x ∈ signsF, x ∈ signsR := by decide
theorem sub_rf : ∀ x ∈ signsR, x ∈ signsF := by decide
theorem sorted_r : ∀ i : Fin 20, ∀ j : Fin 20, i.val ≤ j.val → (nth signsR j.val).length ≤ (nth signsR i.val).length := by decide
theorem nth_r {x : List UInt8} (h : x ∈ signsF) : ∃ j, j < 20 ∧ nth signsR j = x := by
  obtain ⟨j, hj, e⟩ := List.mem_iff_getElem.1 (sub_fr x h)
  exact ⟨j, hj, by rw [← e]; exact nth_of (List.getElem?_eq_getElem hj)⟩
theorem best_at {s : List UInt8} {i : Nat} (hi : i < 20) (hn : ∀ j, j < i → hasPrefix s (nth signsR j) = false) (hm : hasPrefix s (nth signsR i) = true) : bestSign s = nth signsR i := by
  refine isBest_unique (best_isBest s) (.inr ⟨sub_rf _ (nth_mem (by exact hi)), hm, fun x hx hx2 => ?_⟩)
  obtain ⟨j, hj, rfl⟩ := nth_r hx
  have hij : i ≤ j := by
    rcases Nat.lt_or_ge j i with h | h
    · rw [hn j h] at hx2; cases hx2
    · exact h
  exact sorted_r ⟨i, hi⟩ ⟨j, hj⟩ hij
theorem best_none {s : List UInt8} (hn : ∀ j, j < 20 → hasPrefix s (nth signsR j) = false) : bestSign s = [] := by
  refine isBest_unique (best_isBest s) (.inl ⟨rfl, fun x hx => ?_⟩)
  obtain ⟨j, hj, rfl⟩ := nth_r hx
  exact hn j hj
/-- whether a text begins with another one, as it is asked by hand -/
theorem pre_take (s p : List UInt8) : (decide ((p.length : Int) ≤ (s.length : Int)) && s.take p.length == p) = hasPrefix s p := by
  cases hp : hasPrefix s p with
  | true =>
    have h1 := hasPrefix_le hp
    have h2 := prefix_take hp
    rw [← h2]; simp; omega
  | false =>
    cases hd : decide ((p.length : Int) ≤ (s.length : Int)) with
    | false => rfl
    | true =>
      rw [Bool.true_and, beq_eq_false_iff_ne]
      intro e
      have : hasPrefix s p = true := by
        unfold hasPrefix; rw [List.isPrefixOf_iff_prefix]; exact List.prefix_iff_eq_take.2 e.symm
      rw [this] at hp; cases hp
/-! ### tokens by definition -/
theorem span_all (p : Int → Bool) : ∀ s : List UInt8, (s.take (spanN p s)).all (fun c => p c.toNat) = true
  | [] => rfl
  | c :: r => by
    simp only [spanN]
    split
    · rename_i h; simp [h, span_all p r]
    · rfl
theorem word_vertex {s : List UInt8} (hl : 0 < s.length) (h : letterI (s.getD 0 0).toNat = true) : vertexB (wordN s) = decide ((spanN signI s : Int) ≤ 20) := by
  have hs : s = s.getD 0 0 :: s.drop 1 := by have := drop_getD (s := s) (i := 0) hl; simpa using this
  have hp : 0 < spanN signI s := by
    rw [hs]; simp only [spanN]; rw [if_pos (by unfold signI; rw [h]; rfl)]; omega
  unfold vertexB
  have h1 : (wordN s).all (fun c => signI c.toNat) = true := span_all signI s
  have h2 : (wordN s == []) = false := by
    rw [beq_eq_false_iff_ne]; intro e
    have := wordN_len s; rw [e] at this; simp at this; omega
  rw [h1, h2, wordN_len]; rfl
theorem parse_kind {w : List UInt8} (h : parseE w = 0) : (parseV w).k = if hasPrefix w [34] = true then 2 else 1 := by
  have hb : parseB w = true := by
    unfold parseE at h
    cases hb : parseB w with
    | true => rfl
    | false => rw [hb] at h; simp at h
  unfold parseV parseT; rw [if_pos hb]
  split <;> rfl
theorem pre_head {s : List UInt8} {n : Nat} (hl : 0 < s.length) (hn : 0 < n) : hasPrefix (s.take n) [34] = (s.getD 0 0 == 34) := by
  cases s with
  | nil => simp at hl
  | cons c r =>
    obtain ⟨m, rfl⟩ : ∃ m, n = m + 1 := ⟨n - 1, by omega⟩
    rw [Bool.eq_iff_iff, hasPre_quote]
    simp
theorem span_pos {p : Int → Bool} {s : List UInt8} (hl : 0 < s.length) (h : p (s.getD 0 0).toNat = true) : 0 < spanN p s := by
  have hs : s = s.getD 0 0 :: s.drop 1 := by have := drop_getD (s := s) (i := 0) hl; simpa using this
  rw [hs]; simp only [spanN]; rw [if_pos h]; omega
theorem getD_drop (s : List UInt8) (a : Nat) : (s.drop a).getD 0 0 = s.getD a 0 := by simp
end Go.Kin
