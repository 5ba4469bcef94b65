/- Steps of a function body on data, and contracts of the functions of the seat, walked. -/
import Derived.OrdersHeld
import Derived.Below
import Derived.Tactics
import Derived.Test.YtonchjamoblioaaGreatDoorKSat
set_option linter.unusedSimpArgs false
set_option linter.unusedVariables false
set_option linter.unusedSectionVars false
namespace Go.Kin
open Go.RowKit
def gives (P : Program) (o : Oper) (ρ : Operand → Value) (w : World) (R : Value → World → Prop) : Prop :=
  match (execOp ρ o).run P w with
  | .ok (.value u) w' => R u w'
  | .ok .skip w' => R undef w'
  | .ok (.enter f args) w' => Calls P f args w' fun e w'' => ∃ u, e = .returned u ∧ R u w''
  | .ok (.row r args) w' => Rows P r args w' R
  | _ => False
section
variable {P : Program} {ops : Array Oper} {Q : Exit → Act → World → Prop} {S : World → Prop} {late : Nat → Bool}
theorem gives.mono {o : Oper} {ρ : Operand → Value} {w : World} {R R' : Value → World → Prop} (h : gives P o ρ w R) (hr : ∀ u w', R u w' → R' u w') : gives P o ρ w R' := by
  unfold gives at *
  generalize (execOp ρ o).run P w = r at *
  cases r with
  | ok x w' =>
    cases x <;> simp only at h ⊢
    case value u => exact hr _ _ h
    case skip => exact hr _ _ h
    case enter f args => exact Calls.mono h fun e w'' he => by obtain ⟨u, rfl, hh⟩ := he; exact ⟨u, rfl, hr _ _ hh⟩
    case row r args => exact Rows.mono h fun u w'' hh => hr _ _ hh
  | halt x w' => exact h.elim
def isAlloc (o : Oper) : Bool := match o.op, o.guard with | .alloc _, none => true | _, _ => false
def AllocIs (P : Program) (o : Oper) (zs : Array Value) (T : TypeId) : Prop :=
  ∀ w ρ, (execOp ρ o).run P w = .ok (.value (.pointer (some ⟨w.heap.size, 0, none⟩))) (w.alloc (.cells zs T))
def St (P : Program) (ops : Array Oper) (S : World → Prop) (lt : Bool) (o : Oper) (v : Value) (a : Act) : Prop :=
  (Region.wanted o (yielded ops a.tmps) = true ∧ ∀ w, (lt = false → S w) → gives P o a.eval w (fun u w' => u = v ∧ (lt = true → w' = w) ∧ Below w.heap.size w w')) ∨
  (Region.wanted o (yielded ops a.tmps) = false ∧ v = undef)
structure Ent where
  v : Value
  zs : Array Value
  T : TypeId
abbrev Al := List (Option Tmp × Array Value × TypeId)
def wpG (P : Program) (ops : Array Oper) (S : World → Prop) (late : Nat → Bool) : Nat → List Oper → Act → Al → (Act → Al → Prop) → Prop
  | _, [], a, al, R => R a al
  | i, o :: r, a, al, R =>
    if isAlloc o then ∃ zs T, AllocIs P o zs T ∧ wpG P ops S late (i + 1) r a (al ++ [(o.dst, zs, T)]) R
    else ∃ v, St P ops S (late i) o v a ∧ wpG P ops S late (i + 1) r (a.put o.dst v) al R
def Good (P : Program) (ops : Array Oper) (S : World → Prop) (late : Nat → Bool) : Nat → List Oper → List Ent → Act → Prop
  | _, [], _, _ => True
  | i, o :: r, e :: es, a =>
    if isAlloc o then AllocIs P o e.zs e.T ∧ Good P ops S late (i + 1) r es a
    else St P ops S (late i) o e.v a ∧ Good P ops S late (i + 1) r es (a.put o.dst e.v)
  | _, _ :: _, [], _ => False
def fin : List Oper → List Ent → Act → Act
  | o :: r, e :: es, a => fin r es (if isAlloc o then a else a.put o.dst e.v)
  | _, _, a => a
def als : List Oper → List Ent → Al
  | o :: r, e :: es => (if isAlloc o then [(o.dst, e.zs, e.T)] else []) ++ als r es
  | _, _ => []
theorem Good.at : ∀ {l : List Oper} {es : List Ent} {i : Nat} {a : Act}, Good P ops S late i l es a → ∀ {k : Nat} {o : Oper}, l[k]? = some o →
    ∃ e, es[k]? = some e ∧ (if isAlloc o then AllocIs P o e.zs e.T else St P ops S (late (i + k)) o e.v (fin (l.take k) es a))
  | [], _, _, _, _, k, o, ho => by simp at ho
  | _ :: _, [], _, _, h, _, _, _ => h.elim
  | x :: r, e :: es, i, a, h, 0, o, ho => by
    simp at ho; subst ho
    refine ⟨e, rfl, ?_⟩
    unfold Good at h
    by_cases ha : isAlloc x = true
    · simp only [ha, if_true] at h ⊢; exact h.1
    · simp only [ha] at h ⊢; exact h.1
  | x :: r, e :: es, i, a, h, k + 1, o, ho => by
    simp at ho
    unfold Good at h
    by_cases ha : isAlloc x = true
    · simp only [ha, if_true] at h
      obtain ⟨e', he, hh⟩ := Good.at h.2 ho
      refine ⟨e', by simpa using he, ?_⟩
      simpa [fin, ha, show i + 1 + k = i + (k + 1) from by omega] using hh
    · simp only [ha] at h
      obtain ⟨e', he, hh⟩ := Good.at h.2 ho
      refine ⟨e', by simpa using he, ?_⟩
      simpa [fin, ha, show i + 1 + k = i + (k + 1) from by omega] using hh
/-! ### the checks -/
def reach (ops : Array Oper) : Nat → Nat → Nat → Bool
  | 0, _, _ => false
  | f + 1, j, i => match ops[j]? with
    | none => false
    | some o => (o.after.toList.any fun e => Region.binds .any e && e.on == i) || o.after.toList.any fun e => Region.binds .any e && reach ops f e.on i
def looks (ops : Array Oper) (j : Nat) : List Tmp := match ops[j]? with | some o => o.looksAt ops | none => []
def dstAt (ops : Array Oper) (i : Nat) : Option Tmp := match ops[i]? with | some o => o.dst | none => none
def allocAt (ops : Array Oper) (i : Nat) : Bool := match ops[i]? with | some o => isAlloc o | none => false
def okLook (ops : Array Oper) (f n : Nat) (j i : Nat) (t : Tmp) : Bool :=
  dstAt ops i != some t || i == j || (if j < n ∧ i < n then decide (i < j) && reach ops f j i && !allocAt ops i else if i < j then reach ops f j i else reach ops f i j)
def okRegion (ops : Array Oper) (f n : Nat) (late : Nat → Bool) : Bool :=
  Region.noSelect ops && decide (n ≤ ops.size) &&
  ((List.range ops.size).all fun j =>
    ((looks ops j).all fun t => (List.range ops.size).all fun i => okLook ops f n j i t && (decide (n ≤ j) || i != j || dstAt ops i != some t)) &&
    ((List.range ops.size).all fun i => i == j || dstAt ops i == none || dstAt ops i != dstAt ops j) &&
    (match ops[j]? with | some o => o.after.toList.all fun e => !Region.binds .any e || decide (e.on < j) | none => true) &&
    (decide (j < n) || (List.range j).all fun i => (decide (i < n) && late i) || reach ops f j i) &&
    (decide (n ≤ j) || !late j || !allocAt ops j))
def Closed (ops : Array Oper) (listed : Array Bool) : Prop := ∀ j o, ops[j]? = some o → listed.getD j true = true → ∀ e ∈ o.after, Region.binds .any e = true → listed.getD e.on false = true
theorem reach_listed {listed : Array Bool} (hc : Closed ops listed) (hs : listed.size = ops.size) : ∀ (f j i : Nat), (∀ o, ops[j]? = some o → ∀ e ∈ o.after, Region.binds .any e = true → listed.getD e.on false = true) →
    reach ops f j i = true → listed.getD i false = true
  | 0, _, _, _, h => by simp [reach] at h
  | f + 1, j, i, hj, h => by
    unfold reach at h
    cases ho : ops[j]? with
    | none => simp [ho] at h
    | some o =>
      simp only [ho, Bool.or_eq_true, List.any_eq_true, Bool.and_eq_true, beq_iff_eq] at h
      rcases h with ⟨e, he, hb, rfl⟩ | ⟨e, he, hb, hr⟩
      · exact hj o ho e (by simpa using he) hb
      · have hl := hj o ho e (by simpa using he) hb
        refine reach_listed hc hs f e.on i (fun o' ho' e' he' hb' => hc e.on o' ho' ?_ e' he' hb') hr
        rcases Nat.lt_or_ge e.on listed.size with hlt | hge
        · simp [hlt] at hl ⊢; exact hl
        · simp [Array.getElem?_eq_none hge]
/-! ### what the checks say -/
structure Checked (ops : Array Oper) (f n : Nat) (late : Nat → Bool) : Prop where
  noSel : ∀ (j : Nat) (o : Oper) cs b, ops[j]? = some o → o.op ≠ .select cs b
  le : n ≤ ops.size
  raw : ∀ (j i : Nat) (oj oi : Oper) (t : Tmp), ops[j]? = some oj → ops[i]? = some oi → t ∈ oj.looksAt ops → oi.dst = some t → j < n → i < n → i < j ∧ reach ops f j i = true ∧ isAlloc oi = false
  tailRaw : ∀ (j i : Nat) (oj oi : Oper) (t : Tmp), ops[j]? = some oj → ops[i]? = some oi → t ∈ oj.looksAt ops → oi.dst = some t → i < n → n ≤ j → reach ops f j i = true
  war : ∀ (j i : Nat) (oj oi : Oper) (t : Tmp), ops[j]? = some oj → ops[i]? = some oi → t ∈ oj.looksAt ops → oi.dst = some t → j < n → n ≤ i → reach ops f i j = true
  single : ∀ (i j : Nat) (oi oj : Oper) (t : Tmp), ops[i]? = some oi → ops[j]? = some oj → oi.dst = some t → oj.dst = some t → i = j
  back : ∀ (j : Nat) (o : Oper), ops[j]? = some o → ∀ e ∈ o.after, Region.binds .any e = true → e.on < j
  order : ∀ (j i : Nat), j < ops.size → n ≤ j → i < j → (i < n ∧ late i = true) ∨ reach ops f j i = true
  lateNot : ∀ (j : Nat) (o : Oper), ops[j]? = some o → j < n → late j = true → isAlloc o = false
theorem okRegion_spec {f n : Nat} (h : okRegion ops f n late = true) : Checked ops f n late := by
  unfold okRegion at h
  simp only [Bool.and_eq_true, decide_eq_true_eq, List.all_eq_true, List.mem_range] at h
  obtain ⟨⟨h0, h1⟩, h2⟩ := h
  have lt : ∀ {j : Nat} {o : Oper}, ops[j]? = some o → j < ops.size := fun ho => (Array.getElem?_eq_some_iff.1 ho).1
  have klook : ∀ {j i : Nat} {oj oi : Oper} {t : Tmp}, ops[j]? = some oj → ops[i]? = some oi → t ∈ oj.looksAt ops → oi.dst = some t →
      okLook ops f n j i t = true ∧ (n ≤ j ∨ i ≠ j) := by
    intro j i oj oi t hj hi ht hd
    have a := ((((h2 j (lt hj)).1.1.1.1) t (by simpa [looks, hj] using ht)) i (lt hi))
    refine ⟨a.1, ?_⟩
    simpa [dstAt, hi, hd] using a.2
  refine ⟨Region.noSelect_spec h0, h1, ?_, ?_, ?_, ?_, ?_, ?_, ?_⟩
  · intro j i oj oi t hj hi ht hd hjn hin
    obtain ⟨a, b⟩ := klook hj hi ht hd
    have hne : i ≠ j := b.resolve_left (by omega)
    simpa [okLook, dstAt, allocAt, hi, hd, hjn, hin, hne, and_assoc] using a
  · intro j i oj oi t hj hi ht hd hin hjn
    obtain ⟨a, b⟩ := klook hj hi ht hd
    have hne : i ≠ j := by omega
    have hnn : ¬ j < n := by omega
    have hij : i < j := by omega
    simpa [okLook, dstAt, hi, hd, hnn, hne, hij] using a
  · intro j i oj oi t hj hi ht hd hjn hin
    obtain ⟨a, b⟩ := klook hj hi ht hd
    have hne : i ≠ j := by omega
    have hnn : ¬ i < n := by omega
    have hij : ¬ i < j := by omega
    simpa [okLook, dstAt, hi, hd, hnn, hne, hij] using a
  · intro i j oi oj t hi hj hdi hdj
    have a := ((h2 j (lt hj)).1.1.1.2) i (lt hi)
    simpa [dstAt, hi, hj, hdi, hdj] using a
  · intro j o hj e he hb
    have a := (h2 j (lt hj)).1.1.2
    simp only [hj, List.all_eq_true, Bool.or_eq_true, Bool.not_eq_true', decide_eq_true_eq] at a
    exact (a e (by simpa using he)).resolve_left (by simp [hb])
  · intro j i hj hn hi
    have a := (h2 j hj).1.2
    simp only [Bool.or_eq_true, decide_eq_true_eq, List.all_eq_true, List.mem_range, Bool.and_eq_true] at a
    exact (a.resolve_left (by omega)) i hi
  · intro j o hj hn hl
    have a := (h2 j (lt hj)).2
    simp only [Bool.or_eq_true, decide_eq_true_eq, Bool.not_eq_true', allocAt, hj] at a
    rcases a with (a | a) | a
    · omega
    · simp [a] at hl
    · exact a
/-! ### counting what has not come up -/
def cnt (ops : Array Oper) (listed : Array Bool) : Nat := ((List.range ops.size).filter fun i => !listed.getD i true).length
theorem filter_lt {p q : Nat → Bool} : ∀ (l : List Nat), (∀ x ∈ l, q x = true → p x = true) → (∃ x ∈ l, p x = true ∧ q x = false) → (l.filter q).length < (l.filter p).length
  | [], _, h => by simp at h
  | x :: l, h, hx => by
    have hle : (l.filter q).length ≤ (l.filter p).length := by
      have : ∀ l : List Nat, (∀ x ∈ l, q x = true → p x = true) → (l.filter q).length ≤ (l.filter p).length := by
        intro l
        induction l with
        | nil => simp
        | cons y l ih =>
          intro h
          have := ih (fun x hx => h x (List.mem_cons_of_mem _ hx))
          by_cases hq : q y = true
          · simp [hq, h y (List.mem_cons_self ..) hq]; exact this
          · by_cases hp : p y = true <;> simp [hq, hp] <;> omega
      exact this l (fun x hx => h x (List.mem_cons_of_mem _ hx))
    by_cases hq : q x = true
    · have hp := h x (List.mem_cons_self ..) hq
      simp only [List.filter_cons, hq, hp, if_true, List.length_cons]
      have := filter_lt l (fun x hx => h x (List.mem_cons_of_mem _ hx)) (by
        obtain ⟨y, hy, h1, h2⟩ := hx
        rcases List.mem_cons.1 hy with rfl | hy
        · simp [hq] at h2
        · exact ⟨y, hy, h1, h2⟩)
      omega
    · by_cases hp : p x = true
      · simp only [List.filter_cons, hq, hp, if_true, List.length_cons]
        simp; omega
      · simp only [List.filter_cons, hq, hp]
        refine filter_lt l (fun x hx => h x (List.mem_cons_of_mem _ hx)) ?_
        obtain ⟨y, hy, h1, h2⟩ := hx
        rcases List.mem_cons.1 hy with rfl | hy
        · exact absurd h1 hp
        · exact ⟨y, hy, h1, h2⟩
theorem cnt_set {listed : Array Bool} {j : Nat} (hs : listed.size = ops.size) (hj : j < ops.size) (hu : listed.getD j true = false) : cnt ops (listed.setIfInBounds j true) < cnt ops listed := by
  refine filter_lt _ (fun x _ hx => ?_) ⟨j, by simpa using hj, by simp at hu ⊢; exact hu, ?_⟩
  · by_cases h : j = x
    · subst h; simpa using hu
    · rw [getD_set_ne true h] at hx; exact hx
  · have : j < listed.size := by omega
    simp [this]
theorem cnt_zero {listed : Array Bool} (h : cnt ops listed = 0) : ∀ i, i < ops.size → listed.getD i true = true := by
  intro i hi
  have : (List.range ops.size).filter (fun i => !listed.getD i true) = [] := List.eq_nil_of_length_eq_zero h
  have := List.filter_eq_nil_iff.1 this i (by simpa using hi)
  simpa using this
theorem ready_nil {f n : Nat} (hck : Checked ops f n late) {listed : Array Bool} (hs : listed.size = ops.size) (h : Region.ready .any ops listed = []) : ∀ i, i < ops.size → listed.getD i true = true := by
  intro i
  induction i using Nat.strongRecOn with
  | _ i ih =>
    intro hi
    cases hu : listed.getD i true with
    | true => rfl
    | false =>
      obtain ⟨o, ho⟩ : ∃ o, ops[i]? = some o := ⟨ops[i], by simp [hi]⟩
      have : i ∈ Region.ready .any ops listed := mem_ready.2 ⟨hu, o, ho, fun e he hb => by
        have hlt := hck.back i o ho e he hb
        have := ih e.on hlt (by omega)
        have h3 : e.on < listed.size := by omega
        simp [h3] at this ⊢; exact this⟩
      rw [h] at this; cases this
theorem set_listed {listed : Array Bool} {i j : Nat} : (listed.setIfInBounds j true).getD i true = false ↔ (i ≠ j ∧ listed.getD i true = false) := by
  by_cases h : j = i
  · subst h
    rcases Nat.lt_or_ge j listed.size with h | h <;> simp [h]
  · rw [getD_set_ne true h]; exact ⟨fun hh => ⟨fun e => h e.symm, hh⟩, fun hh => hh.2⟩
theorem closed_set {listed : Array Bool} {j : Nat} (hc : Closed ops listed) (hr : j ∈ Region.ready .any ops listed) : Closed ops (listed.setIfInBounds j true) := by
  intro k o hk hl e he hb
  obtain ⟨hu, oj, hoj, hall⟩ := mem_ready.1 hr
  by_cases h : j = k
  · subst h
    rw [hoj] at hk; cases hk
    exact getD_set_true (hall e he hb)
  · rw [getD_set_ne true h] at hl
    exact getD_set_true (hc k o hk hl e he hb)
theorem listed_not {listed : Array Bool} {i : Nat} (h : listed.getD i false = true) : listed.getD i true ≠ false := by
  rcases Nat.lt_or_ge i listed.size with hl | hl
  · simp [hl] at h ⊢; exact h
  · simp [Array.getElem?_eq_none hl]
/-! ### behind the first effect -/
structure Ph2 (P : Program) (ops : Array Oper) (S : World → Prop) (late : Nat → Bool) (n k : Nat) (listed : Array Bool) (a aI : Act) : Prop where
  size : listed.size = ops.size
  clo : Closed ops listed
  tail : ∀ j, n ≤ j → j < ops.size → (listed.getD j true = false ↔ k ≤ j)
  pend : ∀ (i : Nat) (o : Oper), i < n → ops[i]? = some o → listed.getD i true = false → ∃ v, St P ops S true o v aI ∧ aI.put o.dst v = aI
  agree : ∀ t : Nat, (∀ (i : Nat) (o : Oper), i < n → ops[i]? = some o → listed.getD i true = false → o.dst ≠ some t) → a.tmps[t]? = aI.tmps[t]?
  sz : a.tmps.size = aI.tmps.size
  df : a.defers = aI.defers
/-! ### before the first effect -/
def allocd (s : Nat) (w' : World) : Al → List Nat → Act → (Act → Prop) → Prop
  | [], _, a, K => K a
  | (d, zs, T) :: r, prev, a, K => ∀ b, s ≤ b → w'.heap[b]? = some (.cells zs T) → (∀ b' ∈ prev, b ≠ b') → allocd s w' r (b :: prev) (a.put d (.pointer (some ⟨b, 0, none⟩))) K
def ptrV (b : Nat) : Value := .pointer (some ⟨b, 0, none⟩)
def putAl (ptr : Nat → Nat) : Nat → List Oper → Act → Act
  | _, [], a => a
  | i, o :: r, a => putAl ptr (i + 1) r (if isAlloc o then a.put o.dst (ptrV (ptr i)) else a)
structure Ph1 (ops : Array Oper) (S : World → Prop) (n : Nat) (es : List Ent) (a0 : Act) (w0 : World) (ptr : Nat → Nat) (listed : Array Bool) (a : Act) (w : World) : Prop where
  size : listed.size = ops.size
  clo : Closed ops listed
  tail : ∀ j, n ≤ j → j < ops.size → listed.getD j true = false
  sz : a.tmps.size = a0.tmps.size
  df : a.defers = a0.defers
  none : ∀ t : Nat, (∀ (i : Nat) (o : Oper), i < n → ops[i]? = some o → o.dst ≠ some t) → a.tmps[t]? = a0.tmps[t]?
  not : ∀ (t i : Nat) (o : Oper), i < n → ops[i]? = some o → o.dst = some t → listed.getD i true = false → a.tmps[t]? = a0.tmps[t]?
  al : ∀ (t i : Nat) (o : Oper), i < n → ops[i]? = some o → o.dst = some t → listed.getD i true = true → isAlloc o = true → a.tmps[t]? = if t < a0.tmps.size then some (ptrV (ptr i)) else .none
  val : ∀ (t i : Nat) (o : Oper), i < n → ops[i]? = some o → o.dst = some t → listed.getD i true = true → isAlloc o = false → a.tmps[t]? = (fin (ops.toList.take n) es a0).tmps[t]?
  s : S w
  below : Below w0.heap.size w0 w
  blk : ∀ (i : Nat) (o : Oper) (e : Ent), i < n → ops[i]? = some o → isAlloc o = true → listed.getD i true = true → es[i]? = some e → w0.heap.size ≤ ptr i ∧ w.heap[ptr i]? = some (.cells e.zs e.T)
  dist : ∀ (i j : Nat) (o o' : Oper), i < n → j < n → ops[i]? = some o → ops[j]? = some o' → isAlloc o = true → isAlloc o' = true → listed.getD i true = true → listed.getD j true = true → i ≠ j → ptr i ≠ ptr j
section
variable {f n : Nat} {es : List Ent} {a0 : Act}
theorem get_take {k j : Nat} {o : Oper} (h : (ops.toList.take j)[k]? = some o) : k < j ∧ ops[k]? = some o := by
  rcases Nat.lt_or_ge k j with hlt | hge
  · rw [List.getElem?_take_of_lt hlt] at h; exact ⟨hlt, by simpa using h⟩
  · rw [List.getElem?_take_eq_none hge] at h; cases h
theorem getD_replicate {i : Nat} : (Array.replicate ops.size false).getD i true = false ↔ i < ops.size := by
  rcases Nat.lt_or_ge i ops.size with h | h <;> simp [h]
def NoPanic' (Q : Exit → Act → World → Prop) : Exit → Act → World → Prop
  | .panic _, _, _ => False
  | e, a, w => Q e a w
end
end
end Go.Kin
namespace Go.Kin
open Go.RowKit
structure Rn where
  P : Program
  b : Frame
  cs : List Frame
  T : Machine → Prop
  C : Ctx
/-- whatever activation fits the state: its rest is carried out to the goal -/
def Exec (R : Rn) (k : List Item) (s : Sy) : Prop := ∀ a w, Sat R.C s a w → ∃ m', R.T m' ∧ Steps R.P (lone (R.b.atR a k) R.cs w) m'
section
variable {R : Rn} {k : List Item} {s : Sy}
theorem Exec.one {k' : List Item} (h : ∀ a w, step R.P (lone (R.b.atR a k) R.cs w) = .next (lone (R.b.atR a k') R.cs w)) (h' : Exec R k' s) : Exec R k s := fun a w hs =>
  let ⟨m', h1, h2⟩ := h' a w hs; ⟨m', h1, .head (h a w) h2⟩
theorem Exec.seq {x y : Code} (h : Exec R (.code x :: .code y :: k) s) : Exec R (.code (.seq x y) :: k) s := h.one fun _ _ => stepR_seq
theorem Exec.skip (h : Exec R k s) : Exec R (.code .skip :: k) s := h.one fun _ _ => stepR_skip
theorem Exec.label {l : Nat} (h : Exec R k s) : Exec R (.code (.label l) :: k) s := h.one fun _ _ => stepR_label
theorem Exec.inBlock {id : Nat} (h : Exec R k s) : Exec R (.inBlock id :: k) s := h.one fun _ _ => stepR_inBlock
theorem Exec.block {id : Nat} {c : Code} (h : Exec R (.code c :: .inBlock id :: k) s) : Exec R (.code (.block id c) :: k) s := h.one fun _ _ => stepR_block
theorem Exec.inLoop {c : Code} (h : Exec R (.code c :: .inLoop c :: k) s) : Exec R (.inLoop c :: k) s := h.one fun _ _ => stepR_inLoop
theorem Exec.loop1 {c : Code} (h : Exec R (.code c :: .inLoop c :: k) s) : Exec R (.code (.loop c) :: k) s := h.one fun _ _ => stepR_loop
/-- a loop, by a measure -/
theorem Exec.loop {c : Code} {X : Type} (st : X → Sy) (μ : X → Nat) (body : ∀ x, (∀ y, μ y < μ x → Exec R (.inLoop c :: k) (st y)) → Exec R (.code c :: .inLoop c :: k) (st x)) (x : X) : Exec R (.code (.loop c) :: k) (st x) := by
  have key : ∀ n x, μ x = n → Exec R (.code c :: .inLoop c :: k) (st x) := by
    intro n
    induction n using Nat.strongRecOn with
    | _ n ih => exact fun x hx => body x fun y hy => Exec.inLoop (ih _ (hx ▸ hy) y rfl)
  exact Exec.loop1 (key _ x rfl)
theorem Exec.exit {id : Nat} {k' : List Item} (hk : exitTo id k = some k') (h : Exec R k' s) : Exec R (.code (.exit id) :: k) s := h.one fun _ _ => stepR_exit hk
def evalO (S : FS) : Operand → Option SV
  | .tmp t => S t
  | .const v => some (.d (.v v))
  | .global g => some (.d (.v (.pointer (some ⟨g, 0, none⟩))))
  | .func f => some (.d (.fn f []))
theorem evalO_den {C : Ctx} {E : Env} {a : Act} {w : World} (h : SatE C E s a w) {x : Operand} {sv : SV} (hx : evalO s.S x = some sv) : DenV E w sv (a.eval x) := by
  cases x with
  | tmp t =>
    obtain ⟨v, h1, h2⟩ := h.slots t sv hx
    simpa [Act.eval, h1] using h2
  | const v => simp [evalO] at hx; subst hx; simp [DenV, RdV, Act.eval]
  | global g => simp [evalO] at hx; subst hx; simp [DenV, RdV, Act.eval]
  | func f => simp [evalO] at hx; subst hx; simp [DenV, RdV, RdL, Act.eval]
theorem Exec.cond {c : Operand} {x y : Code} {t : Bool} (hc : evalO s.S c = some (.d (.v (.bool t)))) (h : Exec R (.code (if t then x else y) :: k) s) : Exec R (.code (.cond c x y) :: k) s := fun a w hs => by
  obtain ⟨E, hE⟩ := hs
  have := evalO_den hE hc
  simp [DenV, RdV] at this
  obtain ⟨m', h1, h2⟩ := h a w ⟨E, hE⟩
  exact ⟨m', h1, .head (stepR_cond this) h2⟩
theorem Exec.cond_split {c : Operand} {x y : Code} {t : Bool} (hc : evalO s.S c = some (.d (.v (.bool t)))) (ht : t = true → Exec R (.code x :: k) s) (hf : t = false → Exec R (.code y :: k) s) : Exec R (.code (.cond c x y) :: k) s := by
  refine Exec.cond hc ?_
  cases t
  · exact hf rfl
  · exact ht rfl
end
/-! ### one operation -/
theorem gives_step {P : Program} {b : Frame} {cs : List Frame} {k : List Item} {ops : Array Oper} {i : Nat} {rest : List Nat} {o : Oper} {a : Act} {w : World} (ho : ops[i]? = some o) (hw : Region.wanted o (yielded ops a.tmps) = true)
    (hd : ∀ c, o.op ≠ .defer c) {Q : Value → World → Prop} (h : gives P o a.eval w Q) :
    ∃ u w', Q u w' ∧ Steps P (lone (b.atR a (.inRegion ops (i :: rest) :: k)) cs w) (lone (b.atR (a.put o.dst u) (.inRegion ops rest :: k)) cs w') := by
  have hg := stepGR_op (P := P) (b := b) (k := k) (cs := cs) (w := w) (rest := rest) ho hw
  rw [Oper.semAt_eq _ _ _ hd] at hg
  have hfin : ∀ v, (b.atR a (.inRegion ops (i :: rest) :: k)).finish v = b.atR (a.put o.dst v) (.inRegion ops rest :: k) := by
    intro v; rw [Frame.finish_atR, ho]; rfl
  unfold gives at h
  split at h
  · rename_i u w' hr
    refine ⟨u, w', h, .one (step_lone_go ?_)⟩
    rw [hg, ← hfin]; simp [stepG.apply, hr]
  · rename_i w' hr
    refine ⟨_, w', h, .one (step_lone_go ?_)⟩
    rw [hg, ← hfin]; simp [stepG.apply, hr]
  · rename_i f args w' hr
    obtain ⟨e, w'', fr, ⟨u, rfl, hq⟩, hsteps, _, hleave⟩ := h (b.atR a (.inRegion ops (i :: rest) :: k) :: cs)
    refine ⟨u, w'', hq, .head (m₁ := lone (Frame.enter P f args .normal) (b.atR a (.inRegion ops (i :: rest) :: k) :: cs) w') (step_lone_go (by rw [hg]; simp [stepG.apply, hr, Frame.atR])) (Steps.trans hsteps (.one ?_))⟩
    rw [← hfin]; exact step_leave_returned hleave
  · rename_i row args w' hr
    obtain ⟨u, w'', hq, hsteps⟩ := h (b.atR a (.inRegion ops (i :: rest) :: k)) cs
    refine ⟨u, w'', hq, .head (m₁ := lone (Frame.ofRow P row args .normal) (b.atR a (.inRegion ops (i :: rest) :: k) :: cs) w') (step_lone_go (by rw [hg]; simp [stepG.apply, hr, Frame.atR])) ?_⟩
    rw [← hfin]; exact hsteps
  · exact h.elim
structure Ext (o : Oper) (s s' : Sy) : Prop where
  n : s'.N = s.N
  df : s'.df = s.df
  ops : ∀ x ∈ o.op.operands, evalO s.S x ≠ none → evalO s'.S x = evalO s.S x
  l : ∀ key, s.L key ≠ none → s'.L key = s.L key
  o : ∀ key, s.O key ≠ none → s'.O key = s.O key
theorem Ext.refl (o : Oper) (s : Sy) : Ext o s s := ⟨rfl, rfl, fun _ _ _ => rfl, fun _ _ => rfl, fun _ _ => rfl⟩
/-- what one operation does, seen from whatever state has what it looks at -/
def Ok1 (P : Program) (C : Ctx) (o : Oper) (s : Sy) (r : Res) : Prop :=
  (∀ c, o.op ≠ .defer c) ∧ ∀ s', Ext o s s' → ∀ a w, Sat C s' a w → gives P o a.eval w fun u w' => Sat C (apply o.dst r s') (a.put o.dst u) w'
def wantS (ops : Array Oper) (S : FS) (o : Oper) : Option Bool :=
  match o.guard with
  | none => some true
  | some (j, want) => match (match ops[j]? with | some oj => oj.dst | none => none) with
    | none => none
    | some t => match S t with
      | some (.d (.v (.bool b))) => some (b == want)
      | some (.d (.v (.tuple _))) => some false
      | some (.op p (.d (.v (.bool b)))) => some (p && (b == want))
      | _ => none
theorem wantS_spec {C : Ctx} {E : Env} {s : Sy} {a : Act} {w : World} (h : SatE C E s a w) {ops : Array Oper} {o : Oper} {wt : Bool} (hw : wantS ops s.S o = some wt) : Region.wanted o (yielded ops a.tmps) = wt := by
  unfold wantS at hw
  unfold Region.wanted
  cases hg : o.guard with
  | none => simp [hg] at hw; subst hw; rfl
  | some g =>
    obtain ⟨j, want⟩ := g
    simp only [hg] at hw
    cases hd : (match ops[j]? with | some oj => oj.dst | none => none) with
    | none => simp [hd] at hw
    | some t =>
      simp only [hd] at hw
      cases hs : s.S t with
      | none => simp [hs] at hw
      | some sv =>
        simp only [hs] at hw
        split at hw
        · rename_i b hb
          cases hw
          cases hb
          obtain ⟨v, h1, h2⟩ := h.slots t _ hs
          simp [DenV, RdV] at h2
          subst h2
          have : (ops[j]?).bind (·.dst) = some t := by
            cases hj : ops[j]? with
            | none => simp [hj] at hd
            | some oj => simpa [hj] using hd
          simp only [yielded, this, Option.bind_some, h1]
          cases b <;> cases want <;> rfl
        · rename_i b hb
          cases hw
          cases hb
          obtain ⟨v, h1, h2⟩ := h.slots t _ hs
          simp [DenV, RdV] at h2
          subst h2
          have : (ops[j]?).bind (·.dst) = some t := by
            cases hj : ops[j]? with
            | none => simp [hj] at hd
            | some oj => simpa [hj] using hd
          simp only [yielded, this, Option.bind_some, h1]
          rfl
        · rename_i p b hb
          cases hw
          cases hb
          obtain ⟨v, h1, h2⟩ := h.slots t _ hs
          simp only [DenV, RdV] at h2
          have : (ops[j]?).bind (·.dst) = some t := by
            cases hj : ops[j]? with
            | none => simp [hj] at hd
            | some oj => simpa [hj] using hd
          simp only [yielded, this, Option.bind_some, h1]
          cases p
          · rw [h2.2 rfl]; rfl
          · rw [h2.1 rfl]; cases b <;> cases want <;> rfl
        · cases hw
/-- one operation, from state to state, whether its guard is known or not -/
def OpTo (P : Program) (C : Ctx) (ops : Array Oper) (o : Oper) (s s' : Sy) : Prop := ∀ a w, Sat C s a w →
  (Region.wanted o (yielded ops a.tmps) = true → (∀ c, o.op ≠ .defer c) ∧ gives P o a.eval w fun u w' => Sat C s' (a.put o.dst u) w') ∧
  (Region.wanted o (yielded ops a.tmps) = false → Sat C s' (a.put o.dst undef) w)
theorem opTo_of {P : Program} {C : Ctx} {ops : Array Oper} {o : Oper} {s s' sT : Sy} {r : Res} (hx : Ext o sT s) (hok : Ok1 P C o sT r) (hw : wantS ops s.S o = some true) (he : apply o.dst r s = s') : OpTo P C ops o s s' := by
  intro a w h
  have hwt : Region.wanted o (yielded ops a.tmps) = true := by obtain ⟨E, hE⟩ := h; exact wantS_spec hE hw
  refine ⟨fun _ => ⟨hok.1, ?_⟩, fun hf => by rw [hwt] at hf; cases hf⟩
  have := hok.2 s hx a w h
  rwa [he] at this
theorem opTo_skip {P : Program} {C : Ctx} {ops : Array Oper} {o : Oper} {s s' : Sy} (hw : wantS ops s.S o = some false) (hd : ∀ t, o.dst = some t → t < s.N) (he : apply o.dst ⟨.d (.v undef), [], [], [], []⟩ s = s') : OpTo P C ops o s s' := by
  intro a w h
  obtain ⟨E, hE⟩ := h
  have hwt := wantS_spec hE hw
  refine ⟨fun ht => (by rw [hwt] at ht; cases ht), fun _ => ?_⟩
  rw [← he]
  exact ⟨E, hE.slot (u := undef) hd (by simp [DenV, RdV])⟩
/-- what an operation and its guard look at is the same -/
structure ExtG (ops : Array Oper) (o : Oper) (s s' : Sy) : Prop where
  n : s'.N = s.N
  df : s'.df = s.df
  look : ∀ t, t ∈ o.looksAt ops → s.S t ≠ none → s'.S t = s.S t
  l : ∀ key, s.L key ≠ none → s'.L key = s.L key
  o : ∀ key, s.O key ≠ none → s'.O key = s.O key
theorem ExtG.refl (ops : Array Oper) (o : Oper) (s : Sy) : ExtG ops o s s := ⟨rfl, rfl, fun _ _ _ => rfl, fun _ _ => rfl, fun _ _ => rfl⟩
theorem mem_looks {ops : Array Oper} {o : Oper} {t : Nat} (h : Operand.tmp t ∈ o.op.operands) : t ∈ o.looksAt ops := by
  unfold Oper.looksAt
  refine List.mem_append_left _ (List.mem_filterMap.2 ⟨.tmp t, by simpa using h, rfl⟩)
theorem ExtG.ext {ops : Array Oper} {o : Oper} {s s' : Sy} (h : ExtG ops o s s') : Ext o s s' := by
  refine ⟨h.n, h.df, fun x hx hne => ?_, h.l, h.o⟩
  cases x with
  | tmp t => exact h.look t (mem_looks hx) hne
  | const v => rfl
  | global g => rfl
  | func f => rfl
theorem wantS_ext {ops : Array Oper} {S S' : FS} {o : Oper} {b : Bool} (h : wantS ops S o = some b) (he : ∀ t, t ∈ o.looksAt ops → S t ≠ none → S' t = S t) : wantS ops S' o = some b := by
  unfold wantS at *
  cases hg : o.guard with
  | none => simpa [hg] using h
  | some g =>
    obtain ⟨j, want⟩ := g
    rw [hg] at h
    cases ho : ops[j]? with
    | none => simp [ho] at h
    | some oj =>
      cases hd : oj.dst with
      | none => simp [ho, hd] at h
      | some t =>
        have hl : t ∈ o.looksAt ops := by
          unfold Oper.looksAt
          refine List.mem_append_right _ ?_
          simp [hg, ho, hd]
        simp only [ho, hd] at h ⊢
        have hne : S t ≠ none := fun hn => by simp [hn] at h
        rw [he t hl hne]
        exact h
/-- what one operation makes, whether its guard is known or not, seen from whatever state has what it looks at -/
def Ok2 (P : Program) (C : Ctx) (ops : Array Oper) (o : Oper) (s : Sy) (r : Res) : Prop := ∀ s', ExtG ops o s s' → OpTo P C ops o s' (apply o.dst r s')
section
variable {P : Program} {C : Ctx} {ops : Array Oper} {o : Oper} {s : Sy} {r : Res}
theorem ok2_run (h : Ok1 P C o s r) (hw : wantS ops s.S o = some true) : Ok2 P C ops o s r := fun _ hx =>
  opTo_of hx.ext h (wantS_ext hw hx.look) rfl
theorem ok2_skip (hw : wantS ops s.S o = some false) (hd : ∀ t, o.dst = some t → t < s.N) : Ok2 P C ops o s ⟨.d (.v undef), [], [], [], []⟩ := fun _ hx =>
  opTo_skip (wantS_ext hw hx.look) (fun t ht => by rw [hx.n]; exact hd t ht) rfl
theorem Sat.slots_to {s1 s2 : Sy} (hN : s1.N = s2.N) (hdf : s1.df = s2.df) (hL : s1.L = s2.L) (hO : s1.O = s2.O) (hfz : s1.fz = s2.fz) (hpin : s1.pin = s2.pin)
    (h : ∀ t sv2, s2.S t = some sv2 → ∃ sv1, s1.S t = some sv1 ∧ ∀ E w v, DenV E w sv1 v → DenV E w sv2 v) {a : Act} {w : World} (hs : Sat C s1 a w) : Sat C s2 a w := by
  obtain ⟨E, hE⟩ := hs
  refine ⟨E, hE.sz.trans hN, hE.df.trans hdf, fun t sv2 h2 => ?_, by rw [← hL, ← hO]; exact hE.hp, by rw [← hL, ← hO, ← hpin]; exact hE.pins, by rw [← hfz]; exact hE.waits⟩
  obtain ⟨sv1, h3, h4⟩ := h t sv2 h2
  obtain ⟨v, h5, h6⟩ := hE.slots t sv1 h3
  exact ⟨v, h5, h4 E w v h6⟩
/-- a value that is there only if something is so, taken for one that is there -/
def unop : SV → SV
  | .op _ sv => sv
  | sv => sv
/-- under what -/
def cndOf : SV → Bool
  | .op p _ => p
  | _ => true
theorem unop_den {E : Env} {w : World} {sv : SV} {v : Value} (h : cndOf sv = true) : DenV E w sv v ↔ DenV E w (unop sv) v := by
  cases sv <;> simp only [unop, cndOf] at * <;> try rfl
  simp only [DenV]
  exact ⟨fun hh => hh.1 h, fun hh => ⟨fun _ => hh, fun hf => by rw [h] at hf; cases hf⟩⟩
open Classical in
/-- a guard that is not known: the operation as if it were wanted; what it makes is there only if it was -/
theorem ok2_sym {q : Bool} {sv : SV} (hw : wantS ops s.S o = some q) (hd : ∀ t, o.dst = some t → t < s.N) (hnd : ∀ c, o.op ≠ .defer c)
    (hc : q = true → ∀ t sv, Operand.tmp t ∈ o.op.operands → s.S t = some sv → cndOf sv = true)
    (h : q = true → Ok1 P C o ⟨s.N, s.df, fun t => (s.S t).map unop, s.L, s.O, s.fz, s.pin⟩ ⟨sv, [], [], [], []⟩) : Ok2 P C ops o s ⟨.op q sv, [], [], [], []⟩ := by
  intro s' hx a w hs
  have hwt : Region.wanted o (yielded ops a.tmps) = q := by obtain ⟨E, hE⟩ := hs; exact wantS_spec hE (wantS_ext hw hx.look)
  have hd' : ∀ t, o.dst = some t → t < s'.N := fun t ht => by rw [hx.n]; exact hd t ht
  refine ⟨fun ht => ⟨hnd, ?_⟩, fun hf => ?_⟩
  · have hq : q = true := hwt.symm.trans ht
    subst hq
    -- the operands' slots as if they were there
    let S2 : FS := fun t => if Operand.tmp t ∈ o.op.operands ∧ (s.S t).isSome then (s.S t).map unop else s'.S t
    have hS2 : ∀ t, Operand.tmp t ∈ o.op.operands → (s.S t).isSome → s'.S t = s.S t := fun t h1 h2 => hx.look t (mem_looks h1) (fun e => by simp [e] at h2)
    have h2 : Sat C ⟨s'.N, s'.df, S2, s'.L, s'.O, s'.fz, s'.pin⟩ a w := by
      refine Sat.slots_to (s1 := s') (s2 := ⟨s'.N, s'.df, S2, s'.L, s'.O, s'.fz, s'.pin⟩) rfl rfl rfl rfl rfl rfl (fun t sv2 he => ?_) hs
      simp only [S2] at he
      by_cases hh : Operand.tmp t ∈ o.op.operands ∧ (s.S t).isSome
      · rw [if_pos hh] at he
        cases hst : s.S t with
        | none => simp [hst] at he
        | some sv0 =>
          simp [hst] at he; subst he
          exact ⟨sv0, (hS2 t hh.1 hh.2).trans hst, fun E w v hv => (unop_den (hc rfl t sv0 hh.1 hst)).1 hv⟩
      · rw [if_neg hh] at he
        exact ⟨sv2, he, fun _ _ _ h => h⟩
    have hext : Ext o ⟨s.N, s.df, fun t => (s.S t).map unop, s.L, s.O, s.fz, s.pin⟩ ⟨s'.N, s'.df, S2, s'.L, s'.O, s'.fz, s'.pin⟩ := by
      refine ⟨hx.n, hx.df, fun x hxo hne => ?_, hx.l, hx.o⟩
      cases x with
      | tmp t =>
        simp only [evalO] at hne ⊢
        simp only [S2]
        rw [if_pos ⟨by simpa using hxo, by cases hst : s.S t <;> simp_all⟩]
      | const v => rfl
      | global g => rfl
      | func f => rfl
    have h3 := (h rfl).2 _ hext a w h2
    refine h3.mono fun u w' hsat => ?_
    refine Sat.slots_to (s1 := apply o.dst ⟨sv, [], [], [], []⟩ ⟨s'.N, s'.df, S2, s'.L, s'.O, s'.fz, s'.pin⟩) (s2 := apply o.dst ⟨.op true sv, [], [], [], []⟩ s') rfl rfl ?_ ?_ rfl rfl (fun t sv2 he => ?_) hsat
    · rw [apply_slot_L, apply_slot_L]
    · rw [apply_slot_O, apply_slot_O]
    · simp only [apply] at he ⊢
      by_cases hdt : o.dst = some t
      · rw [if_pos hdt] at he ⊢
        cases he
        exact ⟨sv, rfl, fun E w v hv => by simp only [DenV]; exact ⟨fun _ => hv, fun hf => by cases hf⟩⟩
      · rw [if_neg hdt] at he ⊢
        simp only [S2]
        cases hst : s'.S t with
        | none => simp [hst] at he
        | some sv0 =>
          simp [hst, kill_nil] at he; subst he
          by_cases hh : Operand.tmp t ∈ o.op.operands ∧ (s.S t).isSome
          · rw [if_pos hh]
            have h4 := (hS2 t hh.1 hh.2).symm.trans hst
            rw [h4]
            refine ⟨unop sv0, by simp [kill_nil], fun E w v hv => (unop_den (hc rfl t sv0 hh.1 h4)).2 hv⟩
          · rw [if_neg hh]
            exact ⟨sv0, by simp [kill_nil], fun _ _ _ h => h⟩
  · have hq : q = false := hwt.symm.trans hf
    subst hq
    obtain ⟨E, hE⟩ := hs
    exact ⟨E, hE.slot (u := undef) hd' (by simp [DenV])⟩
end
def Walk (P : Program) (C : Ctx) (ops : Array Oper) : List Oper → Sy → (Sy → Prop) → Prop
  | [], s, Q => Q s
  | o :: r, s, Q => ∃ s', OpTo P C ops o s s' ∧ Walk P C ops r s' Q
theorem Walk.mono {P : Program} {C : Ctx} {ops : Array Oper} : ∀ {l : List Oper} {s : Sy} {Q Q' : Sy → Prop}, (∀ s, Q s → Q' s) → Walk P C ops l s Q → Walk P C ops l s Q'
  | [], _, _, _, hq, h => hq _ h
  | _ :: _, _, _, _, hq, ⟨s', h1, h2⟩ => ⟨s', h1, Walk.mono hq h2⟩
theorem any_op {R : Rn} {k : List Item} {ops : Array Oper} {i : Nat} {rest : List Nat} {o : Oper} (ho : ops[i]? = some o) {s s' : Sy} (h : OpTo R.P R.C ops o s s') (h' : Exec R (.inRegion ops rest :: k) s') : Exec R (.inRegion ops (i :: rest) :: k) s := by
  intro a w hs
  obtain ⟨hh1, hh2⟩ := h a w hs
  rcases Bool.eq_false_or_eq_true (Region.wanted o (yielded ops a.tmps)) with hw | hw
  · obtain ⟨hd, h2⟩ := hh1 hw
    obtain ⟨u, w', hq, hst⟩ := gives_step (b := R.b) (cs := R.cs) (k := k) (rest := rest) ho hw hd h2
    obtain ⟨m', h4, h5⟩ := h' _ _ hq
    exact ⟨m', h4, hst.trans h5⟩
  · have hst := stepR_op_skip (P := R.P) (b := R.b) (a := a) (k := k) (cs := R.cs) (w := w) (ops := ops) (i := i) (rest := rest) (by simp [ho, hw])
    simp only [ho, Option.bind_some] at hst
    obtain ⟨m', h4, h5⟩ := h' _ _ (hh2 hw)
    exact ⟨m', h4, .head hst h5⟩
theorem walk_seq {R : Rn} {k : List Item} {ops : Array Oper} : ∀ (l : List Oper) (i : Nat) (s : Sy), (∀ j, l[j]? = ops[i + j]?) → Walk R.P R.C ops l s (Exec R k) → Exec R (.inRegion ops (List.range' i l.length) :: k) s
  | [], i, s, _, h => by
    simp only [List.length_nil, List.range'_zero]
    exact Exec.one (fun _ _ => stepR_region_end) h
  | o :: r, i, s, hl, ⟨s', h1, h2⟩ => by
    have ho : ops[i]? = some o := by simpa using (hl 0).symm
    simp only [List.length_cons, List.range'_succ]
    exact any_op ho h1 (walk_seq (R := R) (k := k) (ops := ops) r (i + 1) s' (fun j => by have := hl (j + 1); simpa [Nat.add_assoc, Nat.add_comm 1 j] using this) h2)
theorem Exec.region {R : Rn} {k : List Item} {s : Sy} {id : Nat} {ops : Array Oper} (h : Walk R.P R.C ops ops.toList s (Exec R k)) : Exec R (.code (.region id ops false) :: k) s := by
  have := walk_seq (R := R) (k := k) ops.toList 0 s (by simp) h
  rw [Array.length_toList, ← List.range_eq_range'] at this
  exact Exec.one (fun _ _ => stepR_region) this
end Go.Kin
