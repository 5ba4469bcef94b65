/- Steps of a function body on data, and contracts of the functions of the seat, walked. -/
import Derived.Lib.Bytealg
import Derived.Lib.TrimByte
import Derived.Test.YtgnhhjojiipmgaaGreatDoorWSh
set_option linter.unusedSimpArgs false
set_option linter.unusedVariables false
set_option linter.unusedSectionVars false
namespace Go.Proofs.YtgnhhjojiipmgaaGreatDoor
open Go
/-! ### the words of a line, as functions of lists -/
/-- how many bytes at the head that are not c -/
def spn (c : UInt8) : List UInt8 → Nat
  | [] => 0
  | b :: l => if b = c then 0 else spn c l + 1
theorem spn_le (c : UInt8) : ∀ l, spn c l ≤ l.length
  | [] => Nat.le_refl _
  | b :: l => by unfold spn; split <;> simp [spn_le c l]
/-- a word ends before a space -/
def nxt : List UInt8 → Bool
  | [] => true
  | d :: _ => d == 32
/-- the word at the head of a text c :: r that begins with no space, and what is behind it -/
def wd (c : UInt8) (r : List UInt8) : Option (List UInt8 × List UInt8) :=
  if c = 34 then
    if spn 34 r < r.length ∧ nxt ((c :: r).drop (spn 34 r + 2)) = true then some ((c :: r).take (spn 34 r + 2), (c :: r).drop (spn 34 r + 2)) else none
  else if (34 : UInt8) ∈ (c :: r).take (spn 32 (c :: r)) then none else some ((c :: r).take (spn 32 (c :: r)), (c :: r).drop (spn 32 (c :: r)))
def wF : Nat → List UInt8 → Option (List (List UInt8))
  | 0, _ => some []
  | f + 1, l => match Lib.trimLeftB l 32 with
    | [] => some []
    | c :: r => match wd c r with
      | none => none
      | some (w, rest) => (wF f rest).map (w :: ·)
def wA (l : List UInt8) : Option (List (List UInt8)) := wF l.length l
theorem trim_le (l : List UInt8) : (Lib.trimLeftB l 32).length ≤ l.length := by
  unfold Lib.trimLeftB
  induction l with
  | nil => simp
  | cons a l ih => rw [List.dropWhile_cons]; split <;> simp <;> omega
theorem trim_head {l r : List UInt8} {c : UInt8} (h : Lib.trimLeftB l 32 = c :: r) : c ≠ 32 := by
  unfold Lib.trimLeftB at h
  induction l with
  | nil => simp at h
  | cons a l ih =>
    rw [List.dropWhile_cons] at h
    split at h
    · exact ih h
    · rename_i ha
      cases h
      simpa using ha
theorem trim_trim (l : List UInt8) : Lib.trimLeftB (Lib.trimLeftB l 32) 32 = Lib.trimLeftB l 32 := by
  cases h : Lib.trimLeftB l 32 with
  | nil => rfl
  | cons c r =>
    have := trim_head h
    unfold Lib.trimLeftB
    rw [List.dropWhile_cons, if_neg (by simpa using this)]
theorem wd_rest {c : UInt8} {r w rest : List UInt8} (hc : c ≠ 32) (h : wd c r = some (w, rest)) : w.length + rest.length = r.length + 1 ∧ 1 ≤ w.length ∧ w ++ rest = c :: r := by
  unfold wd at h
  by_cases h0 : c = 34
  · rw [if_pos h0] at h
    by_cases h1 : spn 34 r < r.length ∧ nxt (List.drop (spn 34 r + 2) (c :: r)) = true
    · rw [if_pos h1] at h
      cases h
      refine ⟨?_, ?_, List.take_append_drop _ _⟩
      · simp only [List.length_take, List.length_drop, List.length_cons]; omega
      · simp only [List.length_take, List.length_cons]; omega
    · rw [if_neg h1] at h; cases h
  · rw [if_neg h0] at h
    by_cases h1 : 34 ∈ List.take (spn 32 (c :: r)) (c :: r)
    · rw [if_pos h1] at h; cases h
    · rw [if_neg h1] at h
      cases h
      have h3 : 1 ≤ spn 32 (c :: r) := by unfold spn; rw [if_neg hc]; omega
      have h4 := spn_le 32 (c :: r)
      simp only [List.length_cons] at h4
      refine ⟨?_, ?_, List.take_append_drop _ _⟩
      · simp only [List.length_take, List.length_drop, List.length_cons]; omega
      · simp only [List.length_take, List.length_cons]; omega
theorem wF_fuel : ∀ (f g : Nat) (l : List UInt8), l.length ≤ f → l.length ≤ g → wF f l = wF g l
  | 0, 0, l, _, _ => rfl
  | 0, g + 1, l, h, _ => by
    have : l = [] := List.eq_nil_of_length_eq_zero (by omega)
    subst this; rfl
  | f + 1, 0, l, _, h => by
    have : l = [] := List.eq_nil_of_length_eq_zero (by omega)
    subst this; rfl
  | f + 1, g + 1, l, hf, hg => by
    have ht := trim_le l
    unfold wF
    cases h : Lib.trimLeftB l 32 with
    | nil => rfl
    | cons c r =>
      simp only
      rw [h] at ht
      simp only [List.length_cons] at ht
      cases hw : wd c r with
      | none => rfl
      | some x =>
        obtain ⟨w, rest⟩ := x
        obtain ⟨h1, h2, h3⟩ := wd_rest (trim_head h) hw
        simp only
        rw [wF_fuel f g rest (by omega) (by omega)]
theorem wA_nil {l : List UInt8} (h : Lib.trimLeftB l 32 = []) : wA l = some [] := by
  unfold wA
  cases hl : l.length with
  | zero => rfl
  | succ f => unfold wF; rw [h]
theorem wA_trim (l : List UInt8) : wA (Lib.trimLeftB l 32) = wA l := by
  unfold wA
  rw [wF_fuel (Lib.trimLeftB l 32).length l.length _ (Nat.le_refl _) (trim_le l)]
  cases hl : l.length with
  | zero => rfl
  | succ f => unfold wF; rw [trim_trim]
theorem wA_none {c : UInt8} {r : List UInt8} (hc : c ≠ 32) (h : wd c r = none) : wA (c :: r) = none := by
  have ht : Lib.trimLeftB (c :: r) 32 = c :: r := by unfold Lib.trimLeftB; rw [List.dropWhile_cons, if_neg (by simpa using hc)]
  unfold wA
  rw [List.length_cons]
  unfold wF
  rw [ht]
  simp only [h]
theorem wA_some {c : UInt8} {r w rest : List UInt8} (hc : c ≠ 32) (h : wd c r = some (w, rest)) : wA (c :: r) = (wA rest).map (w :: ·) := by
  have ht : Lib.trimLeftB (c :: r) 32 = c :: r := by unfold Lib.trimLeftB; rw [List.dropWhile_cons, if_neg (by simpa using hc)]
  obtain ⟨h1, h2, h3⟩ := wd_rest hc h
  unfold wA
  rw [List.length_cons]
  conv => lhs; unfold wF
  rw [ht]
  simp only [h]
  rw [wF_fuel r.length rest.length rest (by omega) (Nat.le_refl _)]
theorem wA_skip (r : List UInt8) : wA (32 :: r) = wA r := by
  rw [← wA_trim (32 :: r), ← wA_trim r]
  congr 1
theorem index_spn (c : UInt8) : ∀ l : List UInt8, Lib.indexByte l c = if spn c l < l.length then (spn c l : Int) else -1
  | [] => rfl
  | b :: l => by
    unfold Lib.indexByte spn
    rw [index_spn c l]
    by_cases hb : b = c
    · subst hb; simp
    · have hb2 : (b == c) = false := by simpa using hb
      rw [hb2, if_neg hb]
      simp only [List.length_cons, Bool.false_eq_true, if_false]
      by_cases hl : spn c l < l.length
      · have h1 : ((spn c l : Int) == -1) = false := by
          rw [Bool.eq_false_iff]; intro h; have := eq_of_beq h; omega
        have h2 : spn c l + 1 < l.length + 1 := by omega
        simp only [if_pos hl, if_pos h2, h1, Bool.false_eq_true, if_false]
        omega
      · have h2 : ¬ spn c l + 1 < l.length + 1 := by omega
        simp only [if_neg hl, if_neg h2]
        rfl
theorem index_end (c : UInt8) (l : List UInt8) : Lib.indexByte (l ++ [c]) c = (spn c l : Int) := by
  rw [index_spn]
  have h : spn c (l ++ [c]) = spn c l := by
    induction l with
    | nil => simp [spn]
    | cons a l ih => simp only [List.cons_append, spn, ih]
  rw [h, if_pos (by have := spn_le c l; simp; omega)]
theorem index_mem (c : UInt8) (l : List UInt8) : decide (0 ≤ Lib.indexByte l c) = decide (c ∈ l) := by
  rw [index_spn]
  have key : ∀ l : List UInt8, (spn c l < l.length ↔ c ∈ l) := by
    intro l
    induction l with
    | nil => simp [spn]
    | cons a l ih =>
      unfold spn
      by_cases ha : a = c
      · subst ha; simp
      · rw [if_neg ha, List.length_cons, Nat.succ_lt_succ_iff, ih]
        simp [Ne.symm ha]
  by_cases h : spn c l < l.length
  · rw [if_pos h, decide_eq_true (show (0 : Int) ≤ (spn c l : Int) by omega), decide_eq_true ((key l).1 h)]
  · rw [if_neg h, decide_eq_false (show ¬ (0 : Int) ≤ -1 by omega), decide_eq_false fun hm => h ((key l).2 hm)]
/-- what is counted on goes on -/
theorem spn_drop (c : UInt8) {l : List UInt8} {k : Nat} (h : k ≤ spn c l) : spn c (l.drop k) = spn c l - k := by
  induction l generalizing k with
  | nil => simp [spn]
  | cons a l ih =>
    cases k with
    | zero => simp
    | succ k =>
      unfold spn at h
      split at h
      · omega
      · rename_i ha
        rw [List.drop_succ_cons, ih (by omega)]
        conv => rhs; unfold spn
        rw [if_neg ha]; omega
theorem spn_at (c : UInt8) {l : List UInt8} {k : Nat} {b : UInt8} (hb : l[k]? = some b) (h : k ≤ spn c l) : (k < spn c l ↔ b ≠ c) := by
  induction l generalizing k with
  | nil => simp at hb
  | cons a l ih =>
    unfold spn at h ⊢
    cases k with
    | zero =>
      simp at hb; subst hb
      split <;> simp_all
    | succ k =>
      split at h
      · omega
      · rename_i ha
        rw [if_neg ha, Nat.succ_lt_succ_iff]
        exact ih (by simpa using hb) (by omega)
end Go.Proofs.YtgnhhjojiipmgaaGreatDoor
namespace Go.Kin
open Go.RowKit
/-! ### a region that draws its order -/
section
variable {R : Rn} {k : List Item} {ops : Array Oper}
def AnyW (R : Rn) (k : List Item) (ops : Array Oper) : Nat → Array Bool → Sy → Prop
  | 0, listed, s => Region.ready .any ops listed = [] ∧ Exec R k s
  | fuel + 1, listed, s => (Region.ready .any ops listed = [] → Exec R k s) ∧
     ∀ i ∈ Region.ready .any ops listed, ∀ o, ops[i]? = some o → (∃ s', OpTo R.P R.C ops o s s' ∧ AnyW R k ops fuel (listed.setIfInBounds i true) s') ∨ ∀ rest, Exec R (.inRegion ops (i :: rest) :: k) s
theorem any_sound : ∀ (fuel t : Nat) (listed : Array Bool) (s : Sy), AnyW R k ops fuel listed s →
    Exec R (.inRegion ops (Region.linearise.go .any ops fuel t listed []) :: k) s := by
  intro fuel
  induction fuel with
  | zero => intro t listed s h; simp only [Region.linearise.go]; exact Exec.one (fun _ _ => stepR_region_end) h.2
  | succ fuel ih =>
    intro t listed s h
    obtain ⟨h₀, h₁⟩ := h
    simp only [Region.linearise.go]
    change Exec R (.inRegion ops (match (Region.ready .any ops listed)[t % (Region.ready .any ops listed).length]? with
      | some i => Region.linearise.go .any ops fuel (t / (Region.ready .any ops listed).length) (listed.setIfInBounds i true) [i]
      | none => [].reverse) :: k) s
    cases hi : (Region.ready .any ops listed)[t % (Region.ready .any ops listed).length]? with
    | none =>
      have hnil : Region.ready .any ops listed = [] := by
        cases hr : Region.ready .any ops listed with
        | nil => rfl
        | cons x xs =>
          rw [hr] at hi
          have hlt : t % (x :: xs).length < (x :: xs).length := Nat.mod_lt _ (by simp)
          simp at hi
          simp at hlt
          omega
      exact Exec.one (fun _ _ => stepR_region_end) (h₀ hnil)
    | some i =>
      simp only []
      rw [linearise_go_acc, List.reverse_singleton, List.singleton_append]
      have hm := List.mem_of_getElem? hi
      obtain ⟨_, o, ho, _⟩ := mem_ready.1 hm
      rcases h₁ i hm o ho with ⟨s', h2, h3⟩ | h2
      · exact any_op ho h2 (ih _ _ _ h3)
      · exact h2 _
theorem Sat.drew {C : Ctx} {s : Sy} {a : Act} {w : World} (h : Sat C s a w) : Sat C s a { w with drawn := w.drawn + 1 } := by
  obtain ⟨E, hE⟩ := h
  exact ⟨_, hE.grow (Below.refl _ w).drew (fun _ => False) (fun _ h => h.elim)⟩
theorem exec_draw {id : Nat} {s : Sy} (hm : R.P.follows .mixedOrders = true) (h : AnyW R k ops ops.size (Array.replicate ops.size false) s) : Exec R (.code (.region id ops true) :: k) s := by
  intro a w hs
  have hst := stepR_region_draw (P := R.P) (b := R.b) (a := a) (k := k) (cs := R.cs) (w := w) (ops := ops) (id := id)
  simp only [Region.schedule, hm, Bool.true_or, if_true] at hst
  obtain ⟨m', h1, h2⟩ := any_sound ops.size _ _ s h a _ hs.drew
  exact ⟨m', h1, .head hst h2⟩
end
/-! ### the fixed results -/
structure En where
  sv : SV
  bx : Option (TypeId × List SV)
section
variable (ops : Array Oper) (n : Nat) (es : List En) (s0 : Sy)
open Classical in
/-- the state where of the first operations those are done that are listed -/
noncomputable def partS (listed : Array Bool) : Sy where
  N := s0.N
  df := s0.df
  S := fun t => if h : ∃ i, i < n ∧ dstAt ops i = some t then (if listed.getD (Classical.choose h) true = true then (match es[Classical.choose h]? with | some e => some e.sv | none => none) else none) else s0.S t
  L := fun key => if h : ∃ i, i < n ∧ dstAt ops i = some key ∧ allocAt ops i = true then (if listed.getD (Classical.choose h) true = true then (match es[Classical.choose h]? with | some e => e.bx | none => none) else none) else s0.L key
  O := s0.O
  fz := s0.fz
  pin := s0.pin
end
section
variable {R : Rn} {k : List Item} {ops : Array Oper} {f n : Nat} {late : Nat → Bool} {es : List En} {s0 : Sy}
theorem dstAt_some {i t : Nat} (h : dstAt ops i = some t) : ∃ o, ops[i]? = some o ∧ o.dst = some t := by
  unfold dstAt at h
  cases ho : ops[i]? with
  | none => simp [ho] at h
  | some o => exact ⟨o, rfl, by simpa [ho] using h⟩
theorem dstAt_of {i t : Nat} {o : Oper} (ho : ops[i]? = some o) (h : o.dst = some t) : dstAt ops i = some t := by simp [dstAt, ho, h]
theorem dstAt_uniq (hck : Checked ops f n late) {i j t : Nat} (h : dstAt ops i = some t) (h' : dstAt ops j = some t) : i = j := by
  obtain ⟨o, h1, h2⟩ := dstAt_some h
  obtain ⟨o', h3, h4⟩ := dstAt_some h'
  exact hck.single i j o o' t h1 h3 h2 h4
theorem partS_at (hck : Checked ops f n late) {listed : Array Bool} {i t : Nat} {e : En} (hi : i < n) (hd : dstAt ops i = some t) (he : es[i]? = some e) : (partS ops n es s0 listed).S t = if listed.getD i true = true then some e.sv else none := by
  have h : ∃ i, i < n ∧ dstAt ops i = some t := ⟨i, hi, hd⟩
  have hc := Classical.choose_spec h
  have : Classical.choose h = i := dstAt_uniq hck hc.2 hd
  simp only [partS, dif_pos h, this, he]
theorem partS_not {listed : Array Bool} {t : Nat} (h : ¬ ∃ i, i < n ∧ dstAt ops i = some t) : (partS ops n es s0 listed).S t = s0.S t := by
  simp only [partS, dif_neg h]
theorem partL_at (hck : Checked ops f n late) {listed : Array Bool} {i t : Nat} {e : En} (hi : i < n) (hd : dstAt ops i = some t) (ha : allocAt ops i = true) (he : es[i]? = some e) : (partS ops n es s0 listed).L t = if listed.getD i true = true then e.bx else none := by
  have h : ∃ i, i < n ∧ dstAt ops i = some t ∧ allocAt ops i = true := ⟨i, hi, hd, ha⟩
  have hc := Classical.choose_spec h
  have : Classical.choose h = i := dstAt_uniq hck hc.2.1 hd
  simp only [partS, dif_pos h, this, he]
theorem partL_not {listed : Array Bool} {t : Nat} (h : ¬ ∃ i, i < n ∧ dstAt ops i = some t ∧ allocAt ops i = true) : (partS ops n es s0 listed).L t = s0.L t := by
  simp only [partS, dif_neg h]
def isKey (ops : Array Oper) (n : Nat) (d : Nat) : Prop := ∃ i, i < n ∧ dstAt ops i = some d ∧ allocAt ops i = true
/-- what does not speak of the new boxes -/
structure Clean (ops : Array Oper) (n : Nat) (es : List En) (s0 : Sy) : Prop where
  len : es.length = n
  s : ∀ d, isKey ops n d → ∀ t sv, s0.S t = some sv → kill [] [d] sv = sv
  l : ∀ d, isKey ops n d → s0.L d = none
  lc : ∀ d, isKey ops n d → ∀ key T cs, s0.L key = some (T, cs) → killL [] [d] cs = cs
  e : ∀ i o e, i < n → ops[i]? = some o → es[i]? = some e → isAlloc o = false → e.bx = none ∧ ∀ d, isKey ops n d → kill [] [d] e.sv = e.sv
  a : ∀ i o e d, i < n → ops[i]? = some o → es[i]? = some e → isAlloc o = true → o.dst = some d → e.sv = .lp d 0 ∧ ∃ T cs, e.bx = some (T, cs) ∧ ∀ d, killL [] [d] cs = cs
  fz : ∀ d, isKey ops n d → killF [] [d] s0.fz = s0.fz
  n : ∀ i o, i < n → ops[i]? = some o → isAlloc o = true → ∃ d, o.dst = some d
def resE (o : Oper) (e : En) : Res :=
  if isAlloc o = true then ⟨e.sv, (match o.dst, e.bx with | some d, some b => [(d, b)] | _, _ => []), [], [], (match o.dst with | some d => [d] | none => [])⟩ else ⟨e.sv, [], [], [], []⟩
theorem setD {listed : Array Bool} {i j : Nat} (hj : j < listed.size) : (listed.setIfInBounds j true).getD i true = if i = j then true else listed.getD i true := by
  by_cases h : i = j
  · subst h; simp [hj]
  · simp only [h, if_false]
    cases hx : listed.getD i true with
    | false => exact set_listed.2 ⟨h, hx⟩
    | true =>
      cases hy : (listed.setIfInBounds j true).getD i true with
      | true => rfl
      | false => rw [(set_listed.1 hy).2] at hx; cases hx
theorem Sy.ext' {s s' : Sy} (h1 : s.N = s'.N) (h2 : s.df = s'.df) (h3 : ∀ t, s.S t = s'.S t) (h4 : ∀ t, s.L t = s'.L t) (h5 : ∀ t, s.O t = s'.O t) (h6 : s.fz = s'.fz) (h7 : s.pin = s'.pin) : s = s' := by
  cases s; cases s'
  simp only at h1 h2 h3 h4 h5 h6 h7
  rw [h1, h2, funext h3, funext h4, funext h5, h6, h7]
theorem part_apply (hck : Checked ops f n late) (hcl : Clean ops n es s0) {listed : Array Bool} (hs : listed.size = ops.size) {j : Nat} {o : Oper} {e : En} (hj : j < n) (ho : ops[j]? = some o) (he : es[j]? = some e) (hu : listed.getD j true = false) :
    apply o.dst (resE o e) (partS ops n es s0 listed) = partS ops n es s0 (listed.setIfInBounds j true) := by
  have hjl : j < listed.size := by rw [hs]; exact Nat.lt_of_lt_of_le hj hck.le
  have hen : ∀ i, i < n → ∃ e, es[i]? = some e := fun i hi => ⟨es[i]'(by rw [hcl.len]; exact hi), by simp [hcl.len, hi]⟩
  have hop : ∀ i, i < n → ∃ o, ops[i]? = some o := fun i hi => ⟨ops[i]'(Nat.lt_of_lt_of_le hi hck.le), by simp [Nat.lt_of_lt_of_le hi hck.le]⟩
  -- slots but the own are kept
  have hslot : ∀ t, o.dst ≠ some t → (partS ops n es s0 (listed.setIfInBounds j true)).S t = (partS ops n es s0 listed).S t := fun t ht => by
    by_cases h : ∃ i, i < n ∧ dstAt ops i = some t
    · obtain ⟨i, hi, hd⟩ := h
      obtain ⟨ei, hei⟩ := hen i hi
      have hij : i ≠ j := fun hij => ht (by subst hij; obtain ⟨o', h1, h2⟩ := dstAt_some hd; rw [ho] at h1; cases h1; exact h2)
      rw [partS_at hck hi hd hei, partS_at hck hi hd hei, setD hjl]; simp only [hij, if_false]
    · rw [partS_not h, partS_not h]
  have hown : ∀ t, o.dst = some t → (partS ops n es s0 (listed.setIfInBounds j true)).S t = some e.sv := fun t ht => by
    rw [partS_at hck hj (dstAt_of ho ht) he, setD hjl]; simp
  have hbox : ∀ t, ¬ (o.dst = some t ∧ isAlloc o = true) → (partS ops n es s0 (listed.setIfInBounds j true)).L t = (partS ops n es s0 listed).L t := fun t ht => by
    by_cases h : ∃ i, i < n ∧ dstAt ops i = some t ∧ allocAt ops i = true
    · obtain ⟨i, hi, hd, ha⟩ := h
      obtain ⟨ei, hei⟩ := hen i hi
      have hij : i ≠ j := fun hij => ht (by subst hij; obtain ⟨o', h1, h2⟩ := dstAt_some hd; rw [ho] at h1; cases h1; exact ⟨h2, by simpa [allocAt, ho] using ha⟩)
      rw [partL_at hck hi hd ha hei, partL_at hck hi hd ha hei, setD hjl]; simp only [hij, if_false]
    · rw [partL_not h, partL_not h]
  by_cases ha : isAlloc o = true
  · obtain ⟨d, hd⟩ := hcl.n j o hj ho ha
    have hkey : isKey ops n d := ⟨j, hj, dstAt_of ho hd, by simp [allocAt, ho, ha]⟩
    obtain ⟨h1, T, cs, h2, h3⟩ := hcl.a j o e d hj ho he ha hd
    have hres : resE o e = ⟨.lp d 0, [(d, T, cs)], [], [], [d]⟩ := by simp [resE, ha, hd, h1, h2]
    rw [hres]
    refine Sy.ext' rfl rfl (fun t => ?_) (fun t => ?_) (fun t => ?_) (hcl.fz d hkey) rfl
    · simp only [apply]
      by_cases hdt : o.dst = some t
      · rw [if_pos hdt, hown t hdt, h1]
      · rw [if_neg hdt, hslot t hdt]
        by_cases h : ∃ i, i < n ∧ dstAt ops i = some t
        · obtain ⟨i, hi, hdi⟩ := h
          obtain ⟨ei, hei⟩ := hen i hi
          rw [partS_at hck hi hdi hei]
          by_cases hl : listed.getD i true = true
          · rw [if_pos hl]
            obtain ⟨oi, hoi, hoid⟩ := dstAt_some hdi
            by_cases hai : isAlloc oi = true
            · rw [(hcl.a i oi ei t hi hoi hei hai hoid).1]
              have : ¬ t = d := fun e' => hdt (by rw [hd, e'])
              simp [kill, this]
            · simp only []
              rw [(hcl.e i oi ei hi hoi hei (by simpa using hai)).2 d hkey]
          · rw [if_neg hl]
        · rw [partS_not h]
          cases hx : s0.S t with
          | none => rfl
          | some sv => simp only []; rw [hcl.s d hkey t sv hx]
    · simp only [apply, klook]
      by_cases htd : t = d
      · subst htd
        simp only [if_true]
        rw [partL_at hck hj (dstAt_of ho hd) (by simp [allocAt, ho, ha]) he, setD hjl]
        simp [h2]
      · simp only [htd, if_false]
        have : ¬ ([d].contains t = true) := by simp [htd]
        rw [if_neg this, hbox t (fun hh => htd (by have := hh.1; rw [hd] at this; cases this; rfl))]
        by_cases h : ∃ i, i < n ∧ dstAt ops i = some t ∧ allocAt ops i = true
        · obtain ⟨i, hi, hdi, hai⟩ := h
          obtain ⟨ei, hei⟩ := hen i hi
          rw [partL_at hck hi hdi hai hei]
          by_cases hl : listed.getD i true = true
          · rw [if_pos hl]
            obtain ⟨oi, hoi, hoid⟩ := dstAt_some hdi
            obtain ⟨_, T', cs', h4, h5⟩ := hcl.a i oi ei t hi hoi hei (by simpa [allocAt, hoi] using hai) hoid
            rw [h4]; simp only [killE]; rw [h5 d]
          · rw [if_neg hl]; rfl
        · rw [partL_not h]
          cases hx : s0.L t with
          | none => rfl
          | some x =>
            obtain ⟨T', cs'⟩ := x
            simp only [killE]; rw [hcl.lc d hkey t T' cs' hx]
    · simp [apply, klook, partS]
  · have ha' : isAlloc o = false := by simpa using ha
    have hres : resE o e = ⟨e.sv, [], [], [], []⟩ := by simp [resE, ha']
    rw [hres]
    refine Sy.ext' rfl rfl (fun t => ?_) (fun t => ?_) (fun t => ?_) rfl rfl
    · simp only [apply]
      by_cases hdt : o.dst = some t
      · rw [if_pos hdt, hown t hdt]
      · rw [if_neg hdt, hslot t hdt]
        cases (partS ops n es s0 listed).S t <;> simp [kill_nil]
    · rw [apply_slot_L, hbox t (fun hh => ha hh.2)]
    · simp [apply, klook, partS]
/-! ### what is asked of each of the first operations -/
structure Char (ops : Array Oper) (es : List En) (s0 : Sy) (j : Nat) (S : FS) : Prop where
  at' : ∀ i e t, i < j → dstAt ops i = some t → es[i]? = some e → S t = some e.sv
  not' : ∀ t, (¬ ∃ i, i < j ∧ dstAt ops i = some t) → S t = s0.S t
def GoodAt (P : Program) (C : Ctx) (ops : Array Oper) (late kp : Nat → Bool) (es : List En) (s0 : Sy) (j : Nat) (o : Oper) (e : En) : Prop :=
  if isAlloc o = true then Ok1 P C o ⟨s0.N, s0.df, fun _ => none, fun _ => none, fun _ => none, s0.fz, s0.pin⟩ (resE o e)
  else ∃ S, Char ops es s0 j S ∧ Ok2 P C ops o ⟨s0.N, s0.df, S, (if late j = true then fun key => if kp key = true then s0.L key else none else s0.L), (if late j = true then fun _ => none else s0.O), s0.fz, s0.pin⟩ ⟨e.sv, [], [], [], []⟩
/-! ### the forced tail -/
def WalkT (P : Program) (C : Ctx) (ops : Array Oper) (lt : Nat → Bool) (kp : Nat → Bool) : Nat → List Oper → Sy → (Sy → Prop) → Prop
  | _, [], s, Q => Q s
  | i, o :: r, s, Q =>
    ∃ res, Ok2 P C ops o s res ∧ (lt (i + 1) = true → res.dl = [] ∧ res.dk = [] ∧ ∀ key, kp key = true → klook key res.nl = none) ∧ WalkT P C ops lt kp (i + 1) r (apply o.dst res s) Q
/-- the region ends here, whatever is behind -/
def EndsT (R : Rn) (k : List Item) (ops : Array Oper) (kk : Nat) (T : Sy) : Prop := ∃ o, ops[kk]? = some o ∧ ∀ s', ExtG ops o T s' → s'.fz = T.fz → s'.pin = T.pin → ∀ rest, Exec R (.inRegion ops (kk :: rest) :: k) s'
/-- where late ones may still wait -/
structure LtOk (ops : Array Oper) (f n : Nat) (late : Nat → Bool) (lt : Nat → Bool) : Prop where
  seen : ∀ kk i, n ≤ kk → i < n → late i = true → lt kk = false → ∃ j, n ≤ j ∧ j < kk ∧ reach ops f j i = true
  mono : ∀ kk, lt (kk + 1) = true → lt kk = true
open Classical in
noncomputable def bst (ops : Array Oper) (n : Nat) (T : Sy) (listed : Array Bool) : Sy where
  N := T.N
  df := T.df
  S := fun t => if ∃ i, i < n ∧ dstAt ops i = some t ∧ listed.getD i true = false then none else T.S t
  L := T.L
  O := T.O
  fz := T.fz
  pin := T.pin
theorem bst_in {T : Sy} {listed : Array Bool} {t : Nat} (h : ∃ i, i < n ∧ dstAt ops i = some t ∧ listed.getD i true = false) : (bst ops n T listed).S t = none := by simp only [bst, if_pos h]
theorem bst_out {T : Sy} {listed : Array Bool} {t : Nat} (h : ¬ ∃ i, i < n ∧ dstAt ops i = some t ∧ listed.getD i true = false) : (bst ops n T listed).S t = T.S t := by simp only [bst, if_neg h]
structure TInv (ops : Array Oper) (n : Nat) (es : List En) (s0 : Sy) (lt : Bool) (kp : Nat → Bool) (k : Nat) (T : Sy) : Prop where
  N : T.N = s0.N
  df : T.df = s0.df
  at' : lt = true → ∀ i e t, i < n → dstAt ops i = some t → es[i]? = some e → T.S t = some e.sv
  not' : lt = true → ∀ t, (¬ ∃ i, i < k ∧ dstAt ops i = some t) → T.S t = s0.S t
  l : lt = true → ∀ key, kp key = true → s0.L key ≠ none → T.L key = s0.L key
theorem dph2 {lt : Nat → Bool} {kp : Nat → Bool} (hck : Checked ops f n late) (hlen : es.length = n) (hlt : LtOk ops f n late lt) (hgood : ∀ j o e, j < n → ops[j]? = some o → es[j]? = some e → GoodAt R.P R.C ops late kp es s0 j o e) :
    ∀ (fuel kk : Nat) (listed : Array Bool) (T : Sy), n ≤ kk → kk ≤ ops.size → listed.size = ops.size → Closed ops listed → (∀ j, n ≤ j → j < ops.size → (listed.getD j true = false ↔ kk ≤ j)) → (∀ i, i < n → listed.getD i true = false → late i = true) →
    TInv ops n es s0 (lt kk) kp kk T → (WalkT R.P R.C ops lt kp kk (ops.toList.drop kk) T (Exec R k) ∨ EndsT R k ops kk T) → cnt ops listed ≤ fuel → AnyW R k ops fuel listed (bst ops n T listed) := by
  intro fuel
  induction fuel with
  | zero =>
    intro kk listed T hnk hkl hsz hclo htl hlate hT hW hc
    have hall := cnt_zero (Nat.le_zero.1 hc)
    have hbt : bst ops n T listed = T := by
      refine Sy.ext' rfl rfl (fun t => bst_out ?_) (fun _ => rfl) (fun _ => rfl) rfl rfl
      rintro ⟨i, hi, _, hu⟩
      rw [hall i (Nat.lt_of_lt_of_le hi hck.le)] at hu; cases hu
    have hk : kk = ops.size := by
      rcases Nat.lt_or_ge kk ops.size with h | h
      · have := (htl kk hnk h).2 (Nat.le_refl _); rw [hall kk h] at this; cases this
      · omega
    have hW : WalkT R.P R.C ops lt kp kk (ops.toList.drop kk) T (Exec R k) := hW.resolve_right fun ⟨o, ho, _⟩ => by rw [hk] at ho; simp at ho
    rw [hk, List.drop_eq_nil_of_le (by simp)] at hW
    rw [hbt]
    refine ⟨?_, hW⟩
    cases hr : Region.ready .any ops listed with
    | nil => rfl
    | cons j js =>
      have hj : j ∈ Region.ready .any ops listed := by rw [hr]; exact List.mem_cons_self ..
      obtain ⟨hu, o, ho, _⟩ := mem_ready.1 hj
      rw [hall j (Array.getElem?_eq_some_iff.1 ho).1] at hu; cases hu
  | succ fuel ih =>
    intro kk listed T hnk hkl hsz hclo htl hlate hT hW hc
    refine ⟨fun hr => ?_, fun j hj o ho => ?_⟩
    · have hall := ready_nil hck hsz hr
      have hbt : bst ops n T listed = T := by
        refine Sy.ext' rfl rfl (fun t => bst_out ?_) (fun _ => rfl) (fun _ => rfl) rfl rfl
        rintro ⟨i, hi, _, hu⟩
        rw [hall i (Nat.lt_of_lt_of_le hi hck.le)] at hu; cases hu
      have hk : kk = ops.size := by
        rcases Nat.lt_or_ge kk ops.size with h | h
        · have := (htl kk hnk h).2 (Nat.le_refl _); rw [hall kk h] at this; cases this
        · omega
      have hW : WalkT R.P R.C ops lt kp kk (ops.toList.drop kk) T (Exec R k) := hW.resolve_right fun ⟨o, ho, _⟩ => by rw [hk] at ho; simp at ho
      rw [hk, List.drop_eq_nil_of_le (by simp)] at hW
      rw [hbt]
      exact hW
    · obtain ⟨hu, o', ho', hafter⟩ := mem_ready.1 hj
      rw [ho] at ho'; cases ho'
      have hjl : j < ops.size := (Array.getElem?_eq_some_iff.1 ho).1
      have hjs : j < listed.size := by rw [hsz]; exact hjl
      have hrl : ∀ i, reach ops f j i = true → listed.getD i true ≠ false := fun i hi =>
        listed_not (reach_listed hclo hsz f j i (fun o' ho' e he hb => by rw [ho] at ho'; cases ho'; exact hafter e he hb) hi)
      have hcnt : cnt ops (listed.setIfInBounds j true) ≤ fuel := by have := cnt_set hsz hjl hu; omega
      have hclo' := closed_set hclo hj
      have hsz' : (listed.setIfInBounds j true).size = ops.size := by simpa using hsz
      rcases Nat.lt_or_ge j n with hjn | hjn
      · -- a late one
        have hlj := hlate j hjn hu
        have hlt' : lt kk = true := by
          cases hb : lt kk with
          | true => rfl
          | false =>
            obtain ⟨j', h1, h2, h3⟩ := hlt.seen kk j hnk hjn hlj hb
            have hdone : listed.getD j' true = true := by
              cases hx : listed.getD j' true with
              | true => rfl
              | false => have := (htl j' h1 (by omega)).1 hx; omega
            exact absurd hu (listed_not (reach_listed hclo hsz f j' j (fun o' ho' e' he' hb' => hclo j' o' ho' hdone e' he' hb') h3))
        obtain ⟨e, he⟩ : ∃ e, es[j]? = some e := ⟨es[j]'(by rw [hlen]; exact hjn), by simp [hlen, hjn]⟩
        have ha := hck.lateNot j o ho hjn hlj
        have hg := hgood j o e hjn ho he
        simp only [GoodAt, ha, Bool.false_eq_true, if_false, hlj, if_true] at hg
        obtain ⟨S, hS, hg⟩ := hg
        have hlook : ∀ t, t ∈ o.looksAt ops → S t ≠ none → (bst ops n T listed).S t = S t := fun t ht _ => by
          by_cases hex : ∃ i, i < n ∧ dstAt ops i = some t
          · obtain ⟨i, hi, hd⟩ := hex
            obtain ⟨oi, hoi, hdi⟩ := dstAt_some hd
            obtain ⟨ei, hei⟩ : ∃ e, es[i]? = some e := ⟨es[i]'(by rw [hlen]; exact hi), by simp [hlen, hi]⟩
            obtain ⟨h1, h2, _⟩ := hck.raw j i o oi t ho hoi ht hdi hjn hi
            rw [bst_out, hT.at' hlt' i ei t hi hd hei, hS.at' i ei t h1 hd hei]
            rintro ⟨i', hi', hd', hu'⟩
            have := dstAt_uniq hck hd hd'
            subst this
            exact hrl i h2 hu'
          · rw [bst_out (fun ⟨i, h1, h2, _⟩ => hex ⟨i, h1, h2⟩), hT.not' hlt', hS.not' t (fun ⟨i, h1, h2⟩ => hex ⟨i, by omega, h2⟩)]
            rintro ⟨i, hi, hd⟩
            rcases Nat.lt_or_ge i n with hin | hin
            · exact hex ⟨i, hin, hd⟩
            · obtain ⟨oi, hoi, hdi⟩ := dstAt_some hd
              have hil : i < ops.size := (Array.getElem?_eq_some_iff.1 hoi).1
              have := hck.war j i o oi t ho hoi ht hdi hjn hin
              -- the tail operation is done, so this one is
              have hdone : listed.getD i true = true := by
                cases hx : listed.getD i true with
                | true => rfl
                | false => have := (htl i hin hil).1 hx; omega
              have h3 := reach_listed hclo hsz f i j (fun o' ho' e' he' hb' => hclo i o' ho' hdone e' he' hb') this
              exact listed_not h3 hu
        have happ : apply o.dst ⟨e.sv, [], [], [], []⟩ (bst ops n T listed) = bst ops n T (listed.setIfInBounds j true) := by
          refine Sy.ext' rfl rfl (fun t => ?_) (fun t => ?_) (fun t => ?_) rfl rfl
          · simp only [apply]
            by_cases hdt : o.dst = some t
            · rw [if_pos hdt, bst_out, hT.at' hlt' j e t hjn (dstAt_of ho hdt) he]
              rintro ⟨i, hi, hd, hu'⟩
              have := dstAt_uniq hck hd (dstAt_of ho hdt)
              subst this
              exact (set_listed.1 hu').1 rfl
            · rw [if_neg hdt]
              have hiff : (∃ i, i < n ∧ dstAt ops i = some t ∧ (listed.setIfInBounds j true).getD i true = false) ↔ (∃ i, i < n ∧ dstAt ops i = some t ∧ listed.getD i true = false) := by
                constructor
                · rintro ⟨i, h1, h2, h3⟩; exact ⟨i, h1, h2, (set_listed.1 h3).2⟩
                · rintro ⟨i, h1, h2, h3⟩
                  refine ⟨i, h1, h2, set_listed.2 ⟨fun e' => ?_, h3⟩⟩
                  subst e'
                  obtain ⟨o', h4, h5⟩ := dstAt_some h2
                  rw [ho] at h4; cases h4
                  exact hdt h5
              by_cases hex : ∃ i, i < n ∧ dstAt ops i = some t ∧ listed.getD i true = false
              · rw [bst_in hex, bst_in (hiff.2 hex)]
              · rw [bst_out hex, bst_out (fun h => hex (hiff.1 h))]
                cases T.S t <;> simp [kill_nil]
          · rw [apply_slot_L]; rfl
          · rw [apply_slot_O]; rfl
        refine .inl ⟨_, ?_, ih kk _ T hnk hkl hsz' hclo' (fun i hi hil => ?_) (fun i hi hu' => hlate i hi (set_listed.1 hu').2) hT hW hcnt⟩
        · rw [← happ]
          exact hg _ ⟨hT.N, hT.df, hlook, fun key h => by
            by_cases hk : kp key = true
            · simp only [hk, if_true] at h ⊢; exact hT.l hlt' key hk h
            · simp only [hk] at h; exact (h rfl).elim, fun _ h => (h rfl).elim⟩
        · rw [set_listed]
          have := htl i hi hil
          constructor
          · rintro ⟨_, h⟩; exact this.1 h
          · intro h; exact ⟨by omega, this.2 h⟩
      · -- one of the tail
        have hkj : kk ≤ j := (htl j hjn hjl).1 hu
        have hjk : j = kk := by
          rcases Nat.lt_or_ge kk j with h | h
          · rcases hck.order j kk hjl hjn h with ⟨h1, _⟩ | h1
            · omega
            · exact absurd ((htl kk hnk (by omega)).2 (Nat.le_refl _)) (hrl kk h1)
          · omega
        subst hjk
        have hget : ops.toList.drop j = o :: ops.toList.drop (j + 1) := by
          have h1 : ops.toList[j]? = some o := by simpa using ho
          have hlt : j < ops.toList.length := by simpa using hjl
          rw [List.drop_eq_getElem_cons hlt]
          congr 1
          have := List.getElem?_eq_getElem hlt
          rw [h1] at this; cases this; rfl
        have hlook : ∀ t, t ∈ o.looksAt ops → T.S t ≠ none → (bst ops n T listed).S t = T.S t := fun t ht _ => by
          refine bst_out ?_
          rintro ⟨i, hi, hd, hu'⟩
          obtain ⟨oi, hoi, hdi⟩ := dstAt_some hd
          exact hrl i (hck.tailRaw j i o oi t ho hoi ht hdi hi hjn) hu'
        have hnot : ∀ i t, i < n → dstAt ops i = some t → o.dst ≠ some t := fun i t hi hd hdt => by
          have := dstAt_uniq hck hd (dstAt_of ho hdt); omega
        have happ : ∀ r : Res, apply o.dst r (bst ops n T listed) = bst ops n (apply o.dst r T) (listed.setIfInBounds j true) := fun r => by
          refine Sy.ext' rfl rfl (fun t => ?_) (fun t => rfl) (fun t => rfl) rfl rfl
          have hiff : (∃ i, i < n ∧ dstAt ops i = some t ∧ (listed.setIfInBounds j true).getD i true = false) ↔ (∃ i, i < n ∧ dstAt ops i = some t ∧ listed.getD i true = false) := by
            constructor
            · rintro ⟨i, h1, h2, h3⟩; exact ⟨i, h1, h2, (set_listed.1 h3).2⟩
            · rintro ⟨i, h1, h2, h3⟩; exact ⟨i, h1, h2, set_listed.2 ⟨by omega, h3⟩⟩
          by_cases hex : ∃ i, i < n ∧ dstAt ops i = some t ∧ listed.getD i true = false
          · rw [bst_in (hiff.2 hex)]
            obtain ⟨i, hi, hd, hu'⟩ := hex
            simp only [apply, if_neg (hnot i t hi hd)]
            rw [bst_in ⟨i, hi, hd, hu'⟩]
          · rw [bst_out (fun h => hex (hiff.1 h))]
            simp only [apply]
            rw [bst_out hex]
        have hnext : ∀ r : Res, (lt (j + 1) = true → r.dl = [] ∧ r.dk = [] ∧ ∀ key, kp key = true → klook key r.nl = none) → WalkT R.P R.C ops lt kp (j + 1) (ops.toList.drop (j + 1)) (apply o.dst r T) (Exec R k) → AnyW R k ops fuel (listed.setIfInBounds j true) (bst ops n (apply o.dst r T) (listed.setIfInBounds j true)) := fun r hr hW' => by
          refine ih (j + 1) _ _ (by omega) (by omega) hsz' hclo' (fun i hi hil => ?_) (fun i hi hu' => hlate i hi (set_listed.1 hu').2) ⟨hT.N, hT.df, fun hl i e t hi hd he => ?_, fun hl t ht => ?_, fun hl key hk hne => ?_⟩ (.inl hW') hcnt
          · rw [set_listed]
            have := htl i hi hil
            constructor
            · rintro ⟨h1, h⟩; have := this.1 h; omega
            · intro h; exact ⟨by omega, this.2 (by omega)⟩
          · simp only [apply, if_neg (hnot i t hi hd)]
            rw [hT.at' (hlt.mono _ hl) i e t hi hd he, (hr hl).1, (hr hl).2.1]
            simp [kill_nil]
          · simp only [apply]
            rw [if_neg (fun hdt => ht ⟨j, by omega, dstAt_of ho hdt⟩), hT.not' (hlt.mono _ hl) t (fun ⟨i, h1, h2⟩ => ht ⟨i, by omega, h2⟩), (hr hl).1, (hr hl).2.1]
            cases s0.S t <;> simp [kill_nil]
          · simp only [apply]
            rw [(hr hl).2.2 key hk, (hr hl).1, (hr hl).2.1, hT.l (hlt.mono _ hl) key hk hne]
            simp [killE_nil]
        rcases hW with hW | ⟨o', ho', hE⟩
        · rw [hget] at hW
          obtain ⟨res, hok, hr, hW'⟩ := hW
          refine .inl ⟨_, ?_, hnext res hr hW'⟩
          rw [← happ res]
          exact hok _ ⟨rfl, rfl, hlook, fun _ _ => rfl, fun _ _ => rfl⟩
        · rw [ho] at ho'; cases ho'
          exact .inr (hE _ ⟨rfl, rfl, hlook, fun _ _ => rfl, fun _ _ => rfl⟩ rfl rfl)
theorem dph1 {lt : Nat → Bool} {kp : Nat → Bool} (hck : Checked ops f n late) (hcl : Clean ops n es s0) (hlt : LtOk ops f n late lt) (hgood : ∀ j o e, j < n → ops[j]? = some o → es[j]? = some e → GoodAt R.P R.C ops late kp es s0 j o e)
    (hW : WalkT R.P R.C ops lt kp n (ops.toList.drop n) (partS ops n es s0 (Array.replicate ops.size true)) (Exec R k) ∨ EndsT R k ops n (partS ops n es s0 (Array.replicate ops.size true))) :
    ∀ (fuel : Nat) (listed : Array Bool), listed.size = ops.size → Closed ops listed → (∀ j, n ≤ j → j < ops.size → listed.getD j true = false) → cnt ops listed ≤ fuel → AnyW R k ops fuel listed (partS ops n es s0 listed) := by
  have hlen := hcl.len
  have hen : ∀ i, i < n → ∃ e, es[i]? = some e := fun i hi => ⟨es[i]'(by rw [hlen]; exact hi), by simp [hlen, hi]⟩
  have hrep : ∀ i : Nat, (Array.replicate ops.size true).getD i true = true := fun i => by
    rcases Nat.lt_or_ge i ops.size with h | h <;> simp [h]
  have hsw : ∀ (fuel : Nat) (listed : Array Bool), listed.size = ops.size → Closed ops listed → (∀ j, n ≤ j → j < ops.size → listed.getD j true = false) → cnt ops listed ≤ fuel → (∀ i, i < n → listed.getD i true = false → late i = true) → AnyW R k ops fuel listed (partS ops n es s0 listed) := by
    intro fuel listed hsz hclo htl hc hall
    have heq : partS ops n es s0 listed = bst ops n (partS ops n es s0 (Array.replicate ops.size true)) listed := by
      refine Sy.ext' rfl rfl (fun t => ?_) (fun t => ?_) (fun _ => rfl) rfl rfl
      · by_cases h : ∃ i, i < n ∧ dstAt ops i = some t
        · obtain ⟨i, hi, hd⟩ := h
          obtain ⟨e, he⟩ := hen i hi
          rw [partS_at hck hi hd he]
          cases hx : listed.getD i true with
          | false => rw [bst_in ⟨i, hi, hd, hx⟩]; rfl
          | true =>
            rw [bst_out, partS_at hck hi hd he, hrep]
            rintro ⟨i', hi', hd', hu'⟩
            have := dstAt_uniq hck hd hd'; subst this; rw [hx] at hu'; cases hu'
        · rw [partS_not h, bst_out (fun ⟨i, h1, h2, _⟩ => h ⟨i, h1, h2⟩), partS_not h]
      · show _ = (partS ops n es s0 (Array.replicate ops.size true)).L t
        by_cases h : ∃ i, i < n ∧ dstAt ops i = some t ∧ allocAt ops i = true
        · obtain ⟨i, hi, hd, ha⟩ := h
          obtain ⟨e, he⟩ := hen i hi
          rw [partL_at hck hi hd ha he, partL_at hck hi hd ha he, hrep]
          cases hx : listed.getD i true with
          | true => rfl
          | false =>
            obtain ⟨oi, hoi, hdi⟩ := dstAt_some hd
            have := hck.lateNot i oi hoi hi (hall i hi hx)
            simp [allocAt, hoi, this] at ha
        · rw [partL_not h, partL_not h]
    rw [heq]
    refine dph2 hck hlen hlt hgood fuel n listed _ (Nat.le_refl _) hck.le hsz hclo (fun j hj hjl => ⟨fun _ => hj, fun _ => htl j hj hjl⟩) hall ⟨rfl, rfl, fun _ i e t hi hd he => ?_, fun _ t ht => ?_, fun _ key _ hne => partL_not fun ⟨i, h1, h2, h3⟩ => hne (hcl.l key ⟨i, h1, h2, h3⟩)⟩ hW hc
    · rw [partS_at hck hi hd he, hrep]; rfl
    · rw [partS_not ht]
  intro fuel
  induction fuel with
  | zero =>
    intro listed hsz hclo htl hc
    have hall := cnt_zero (Nat.le_zero.1 hc)
    exact hsw 0 listed hsz hclo htl hc (fun i hi hu => by rw [hall i (Nat.lt_of_lt_of_le hi hck.le)] at hu; cases hu)
  | succ fuel ih =>
    intro listed hsz hclo htl hc
    by_cases hall : ∀ i, i < n → listed.getD i true = false → late i = true
    · exact hsw (fuel + 1) listed hsz hclo htl hc hall
    · have ⟨i0, h0⟩ := Classical.not_forall.1 hall
      simp only [Classical.not_imp] at h0
      obtain ⟨hi0, hu0, hl0⟩ := h0
      refine ⟨fun hr => ?_, fun j hj o ho => ?_⟩
      · rw [ready_nil hck hsz hr i0 (Nat.lt_of_lt_of_le hi0 hck.le)] at hu0; cases hu0
      · obtain ⟨hu, o', ho', hafter⟩ := mem_ready.1 hj
        rw [ho] at ho'; cases ho'
        have hjl : j < ops.size := (Array.getElem?_eq_some_iff.1 ho).1
        have hrl : ∀ i, reach ops f j i = true → listed.getD i true ≠ false := fun i hi =>
          listed_not (reach_listed hclo hsz f j i (fun o' ho' e he hb => by rw [ho] at ho'; cases ho'; exact hafter e he hb) hi)
        have hcnt : cnt ops (listed.setIfInBounds j true) ≤ fuel := by have := cnt_set hsz hjl hu; omega
        have hjn : j < n := by
          rcases Nat.lt_or_ge j n with h | h
          · exact h
          · rcases hck.order j i0 hjl h (by omega) with ⟨_, h2⟩ | h2
            · exact absurd h2 hl0
            · exact absurd hu0 (hrl i0 h2)
        obtain ⟨e, he⟩ := hen j hjn
        have hnext := ih (listed.setIfInBounds j true) (by simpa using hsz) (closed_set hclo hj) (fun i hi hil => set_listed.2 ⟨by omega, htl i hi hil⟩) hcnt
        have happ := part_apply hck hcl hsz hjn ho he hu
        refine .inl ⟨_, ?_, hnext⟩
        have hg := hgood j o e hjn ho he
        by_cases ha : isAlloc o = true
        · simp only [GoodAt, ha, if_true] at hg
          have hwt : o.guard = none := by
            unfold isAlloc at ha
            cases hg : o.guard with
            | none => rfl
            | some g => rw [hg] at ha; split at ha <;> simp_all
          refine opTo_of (sT := ⟨s0.N, s0.df, fun _ => none, fun _ => none, fun _ => none, s0.fz, s0.pin⟩) (ExtG.ext (ops := ops) ⟨rfl, rfl, fun _ _ h => (h rfl).elim, fun _ h => (h rfl).elim, fun _ h => (h rfl).elim⟩) hg (by simp [wantS, hwt]) happ
        · have ha' : isAlloc o = false := by simpa using ha
          simp only [GoodAt, ha', Bool.false_eq_true, if_false] at hg
          obtain ⟨S, hS, hg⟩ := hg
          have hre : resE o e = ⟨e.sv, [], [], [], []⟩ := by simp [resE, ha']
          rw [hre] at happ
          have hlook : ∀ t, t ∈ o.looksAt ops → S t ≠ none → (partS ops n es s0 listed).S t = S t := fun t ht _ => by
            by_cases hex : ∃ i, i < n ∧ dstAt ops i = some t
            · obtain ⟨i, hi, hd⟩ := hex
              obtain ⟨oi, hoi, hdi⟩ := dstAt_some hd
              obtain ⟨ei, hei⟩ := hen i hi
              obtain ⟨h1, h2, _⟩ := hck.raw j i o oi t ho hoi ht hdi hjn hi
              rw [partS_at hck hi hd hei, hS.at' i ei t h1 hd hei, if_pos]
              have := hrl i h2
              simpa using this
            · rw [partS_not hex, hS.not' t (fun ⟨i, h1, h2⟩ => hex ⟨i, by omega, h2⟩)]
          have hLe : ∀ key, s0.L key ≠ none → (partS ops n es s0 listed).L key = s0.L key := fun key hk => by
            refine partL_not fun ⟨i, h1, h2, h3⟩ => ?_
            exact hk (hcl.l key ⟨i, h1, h2, h3⟩)
          have hx : ExtG ops o ⟨s0.N, s0.df, S, (if late j = true then fun key => if kp key = true then s0.L key else none else s0.L), (if late j = true then fun _ => none else s0.O), s0.fz, s0.pin⟩ (partS ops n es s0 listed) := by
            refine ⟨rfl, rfl, hlook, ?_, ?_⟩
            · by_cases hl : late j = true
              · simp only [hl, if_true]
                intro key h
                by_cases hk : kp key = true
                · simp only [hk, if_true] at h ⊢; exact hLe key h
                · simp only [hk] at h; exact (h rfl).elim
              · simp only [hl]; exact hLe
            · by_cases hl : late j = true
              · simp only [hl, if_true]; exact fun _ h => (h rfl).elim
              · simp only [hl]; exact fun _ _ => rfl
          rw [← happ]
          exact hg _ hx
end
end Go.Kin
