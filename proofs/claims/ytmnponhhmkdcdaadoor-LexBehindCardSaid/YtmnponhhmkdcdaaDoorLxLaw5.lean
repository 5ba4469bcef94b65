/- Contracts of functions of the seat, walked. -/
import Derived.Test.YtmnponhhmkdcdaaDoorLxLaw4
namespace Go.Proofs.YtmnponhhmkdcdaaDoor
open Go.Kin Go.Lib
def blanksW : List (List UInt8) := [[32], [10], [9], [32, 32, 10]]
def pick4 (x : Int) : Int := if x.tmod 4 < 0 then x.tmod 4 + 4 else x.tmod 4
theorem pick4_in (x : Int) : 0 ≤ pick4 x ∧ pick4 x < 4 := by
  have h1 := Int.tmod_lt_of_pos x (show (0 : Int) < 4 by decide)
  have h2 := Int.lt_tmod_of_pos x (show (0 : Int) < 4 by decide)
  unfold pick4; split <;> omega
def cB (n : Int) : List UInt8 := nth blanksW (pick4 n).toNat
theorem cB_ok (n : Int) : ∃ d y, cB n = d :: y ∧ blankI ((d : UInt8).toNat : Int) = true ∧ (cB n).all (fun e => blankI e.toNat) = true ∧ (cB n).length ≤ 3 := by
  have h := pick4_in n
  have : ∀ i, i < 4 → ∃ d y, nth blanksW i = d :: y ∧ blankI ((d : UInt8).toNat : Int) = true ∧ (nth blanksW i).all (fun e => blankI e.toNat) = true ∧ (nth blanksW i).length ≤ 3 := by
    intro i hi
    match i, hi with
    | 0, _ => exact ⟨32, [], rfl, by decide, by decide, by decide⟩
    | 1, _ => exact ⟨10, [], rfl, by decide, by decide, by decide⟩
    | 2, _ => exact ⟨9, [], rfl, by decide, by decide, by decide⟩
    | 3, _ => exact ⟨32, [32, 10], rfl, by decide, by decide, by decide⟩
  exact this _ (by omega)
theorem at_in {b : List UInt8} : ∀ (n a : Nat), b.length - a < n → a ≤ b.length → ∀ t ∈ (lexAt b a).1, 0 ≤ t.a ∧ t.a ≤ b.length
  | 0, a, h, _ => absurd h (by omega)
  | n + 1, a, hn, ha => by
    intro t ht
    have hna := nextA_le ha
    cases hb : firstB (b.drop (nextA b a)) with
    | false => rw [lexAt_no ha hb] at ht; cases ht
    | true =>
      obtain ⟨t1, t2⟩ := thenA_le ha hb
      by_cases hk : (firstT (b.drop (nextA b a))).k = 5
      · rw [lexAt_end ha hb hk] at ht
        simp only [List.mem_singleton] at ht
        subst ht; rw [tokA_a]; omega
      · have hlt := t2.resolve_left hk
        rw [lexAt_on ha hb hk] at ht
        rcases List.mem_cons.1 ht with rfl | h
        · rw [tokA_a]; omega
        · exact at_in n (thenA b a) (by omega) t1 t h
theorem behind_all {s b : List UInt8} {n : Int} (h : s.length ≤ 990) (h2 : b.length ≤ 990) (e : lexE s = 0) :
    lexAll (s ++ cB n ++ b) = ((lexT s).dropLast ++ (lexAll b).1.map (shiftT (s.length + (cB n).length)), (lexAll b).2.map (s.length + (cB n).length + ·)) := by
  obtain ⟨d, y, hc, hd, hall, hl⟩ := cB_ok n
  rcases lexE_or s with ⟨h1, _⟩ | ⟨_, _, e1, e2⟩ | ⟨_, e1, _⟩
  · omega
  · have hy : d :: (y ++ b) = cB n ++ b := by rw [hc]; rfl
    have hz : s ++ cB n ++ b = s ++ d :: (y ++ b) := by rw [List.append_assoc, ← hy]
    have q := behind_first hy hd hall (s.length + 1) 0 (by omega) (Nat.zero_le _) e1
    have q2 := behind_last (z := s ++ d :: (y ++ b)) (b := b) (p := s.length + (cB n).length) (by rw [hy]; simp <;> omega) (by rw [hy, ← List.append_assoc, List.drop_left' (by simp)]) (b.length + 1) 0 (by omega) (Nat.zero_le _)
    rw [Nat.add_zero] at q2
    show lexAt _ 0 = _
    rw [hz, q, q2, e2]; rfl
  · rw [e] at e1; cases e1
theorem behind_len {s b : List UInt8} {n : Int} (h : s.length ≤ 990) (h2 : b.length ≤ 990) : (s ++ cB n ++ b).length ≤ 1983 := by
  obtain ⟨d, y, hc, hd, hall, hl⟩ := cB_ok n
  simp; omega
theorem behind_no {s b : List UInt8} {n : Int} (h : s.length ≤ 990) (h2 : b.length ≤ 990) (e : lexE s = 0) (eb : lexE b ≠ 0) : lexE b = 7 ∧ lexE (s ++ cB n ++ b) = 7 ∧ ∃ A : Nat, lexA b = A ∧ A ≤ 990 ∧ lexA (s ++ cB n ++ b) = (s.length : Int) + (cB n).length + A := by
  have hl := behind_len (n := n) h h2
  have ha := behind_all (n := n) h h2 e
  rcases lexE_or b with ⟨h1, _⟩ | ⟨_, e1, _⟩ | ⟨_, e1, _, A, e2, e3⟩
  · omega
  · exact absurd e1 eb
  · obtain ⟨A', e5, hA, _⟩ := lex_cut e1
    rw [e2] at e5
    have : A = A' := by omega
    subst this
    rw [e3] at ha
    have h3 : ¬ 2000 < ((s ++ cB n ++ b).length : Int) := by omega
    refine ⟨e1, ?_, A, e2, by omega, ?_⟩
    · unfold lexE; rw [if_neg h3, ha]; rfl
    · unfold lexA; rw [if_neg h3, ha]; simp
theorem behind_yes {s b : List UInt8} {n : Int} (h : s.length ≤ 990) (h2 : b.length ≤ 990) (e : lexE s = 0) (eb : lexE b = 0) :
    lexE (s ++ cB n ++ b) = 0 ∧ lexT (s ++ cB n ++ b) = (lexT s).dropLast ++ (lexT b).map (shiftT (s.length + (cB n).length)) ∧ 0 < (lexT s).length ∧ ∀ t ∈ lexT b, 0 ≤ t.a ∧ t.a ≤ 990 := by
  have hl := behind_len (n := n) h h2
  have ha := behind_all (n := n) h h2 e
  have h0 := between_init (s := s) (by omega) e
  have h1 := lexAt_ne (Nat.zero_le _) h0.2
  rw [← h0.1, List.drop_zero] at h1
  rcases lexE_or b with ⟨h1, _⟩ | ⟨_, _, e1, e2⟩ | ⟨_, e1, _⟩
  · omega
  · have h3 : ¬ 2000 < ((s ++ cB n ++ b).length : Int) := by omega
    rw [e1] at ha
    have hs := lex_some (s := s ++ cB n ++ b) (l := (lexT s).dropLast ++ (lexT b).map (shiftT (s.length + (cB n).length))) (decide_eq_false h3) (by rw [ha, e2]; rfl)
    refine ⟨hs.2.2, hs.1, List.length_pos_iff.2 h1, fun t ht => ?_⟩
    rw [e2] at ht
    have := at_in (b.length + 1) 0 (by omega) (Nat.zero_le _) t ht
    omega
  · rw [eb] at e1; cases e1
theorem behind_lt {T U : List Tk} {p i : Nat} (hT : 0 < T.length) (h : i < T.length - 1) : nth (T.dropLast ++ U.map (shiftT p)) i = nth T i := by
  refine nth_of ?_
  rw [List.getElem?_append_left (by simp; omega), List.getElem?_dropLast, if_pos (by omega)]
  rw [List.getElem?_eq_getElem (by omega)]
  exact congrArg some (nth_of (List.getElem?_eq_getElem (by omega))).symm
theorem behind_ge {T U : List Tk} {p i : Nat} (hT : 0 < T.length) (h : T.length - 1 ≤ i) (hi : i < (T.dropLast ++ U.map (shiftT p)).length) : nth (T.dropLast ++ U.map (shiftT p)) i = shiftT p (nth U (i + 1 - T.length)) ∧ i + 1 - T.length < U.length := by
  have hq : i + 1 - T.length < U.length := by simp at hi; omega
  refine ⟨nth_of ?_, hq⟩
  rw [List.getElem?_append_right (by simp; omega), List.getElem?_map]
  have : i - (T.dropLast).length = i + 1 - T.length := by simp; omega
  rw [this, List.getElem?_eq_getElem hq]
  have e := nth_of (List.getElem?_eq_getElem hq)
  rw [e]; rfl
end Go.Proofs.YtmnponhhmkdcdaaDoor
