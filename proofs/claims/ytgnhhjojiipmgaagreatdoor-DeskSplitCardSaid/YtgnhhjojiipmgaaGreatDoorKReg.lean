/- Steps of a function body on data, and contracts of the functions of the seat, walked. -/
import Derived.OrdersHeld
import Derived.Below
import Derived.Tactics
set_option linter.unusedSimpArgs false
set_option linter.unusedVariables false
set_option linter.unusedSectionVars false
namespace Go.Kin
open Go.RowKit
def gives (P : Program) (o : Oper) (ρ : Operand → Value) (w : World) (R : Value → World → Prop) : Prop :=
  match (execOp ρ o).run P w with
  | .ok (.value u) w' => R u w'
  | .ok .skip w' => R undef w'
  | .ok (.enter f args) w' => Calls P f args w' fun e w'' => ∃ u, e = .returned u ∧ R u w''
  | .ok (.row r args) w' => Rows P r args w' R
  | _ => False
section
variable {P : Program} {ops : Array Oper} {Q : Exit → Act → World → Prop} {S : World → Prop} {late : Nat → Bool}
theorem gives.wp {o : Oper} {a : Act} {w : World} {R : Value → World → Prop} (h : gives P o a.eval w R) {K : Act → World → Prop}
    (hk : ∀ u w', R u w' → K (a.put o.dst u) w') : o.wp P a w K Q := by
  unfold gives at h
  unfold Oper.wp
  generalize (execOp a.eval o).run P w = r at *
  cases r with
  | ok x w' =>
    cases x <;> simp only [Oper.upon] at h ⊢
    case value u => exact hk _ _ h
    case skip => exact hk _ _ h
    case enter f args => exact Calls.mono h fun e w'' he => by obtain ⟨u, rfl, hr⟩ := he; exact hk _ _ hr
    case row r args => exact Rows.mono h fun u w'' hr => hk _ _ hr
  | halt x w' => exact h.elim
theorem gives_congr {o : Oper} {ρ ρ' : Operand → Value} {w : World} {R : Value → World → Prop} (he : execOp ρ o = execOp ρ' o) (h : gives P o ρ w R) : gives P o ρ' w R := by
  unfold gives at *
  rw [← he]; exact h
theorem gives.mono {o : Oper} {ρ : Operand → Value} {w : World} {R R' : Value → World → Prop} (h : gives P o ρ w R) (hr : ∀ u w', R u w' → R' u w') : gives P o ρ w R' := by
  unfold gives at *
  generalize (execOp ρ o).run P w = r at *
  cases r with
  | ok x w' =>
    cases x <;> simp only at h ⊢
    case value u => exact hr _ _ h
    case skip => exact hr _ _ h
    case enter f args => exact Calls.mono h fun e w'' he => by obtain ⟨u, rfl, hh⟩ := he; exact ⟨u, rfl, hr _ _ hh⟩
    case row r args => exact Rows.mono h fun u w'' hh => hr _ _ hh
  | halt x w' => exact h.elim
def isAlloc (o : Oper) : Bool := match o.op, o.guard with | .alloc _, none => true | _, _ => false
def AllocIs (P : Program) (o : Oper) (zs : Array Value) (T : TypeId) : Prop :=
  ∀ w ρ, (execOp ρ o).run P w = .ok (.value (.pointer (some ⟨w.heap.size, 0, none⟩))) (w.alloc (.cells zs T))
def St (P : Program) (ops : Array Oper) (S : World → Prop) (lt : Bool) (o : Oper) (v : Value) (a : Act) : Prop :=
  (Region.wanted o (yielded ops a.tmps) = true ∧ ∀ w, (lt = false → S w) → gives P o a.eval w (fun u w' => u = v ∧ (lt = true → w' = w) ∧ Below w.heap.size w w')) ∨
  (Region.wanted o (yielded ops a.tmps) = false ∧ v = undef)
structure Ent where
  v : Value
  zs : Array Value
  T : TypeId
abbrev Al := List (Option Tmp × Array Value × TypeId)
def wpG (P : Program) (ops : Array Oper) (S : World → Prop) (late : Nat → Bool) : Nat → List Oper → Act → Al → (Act → Al → Prop) → Prop
  | _, [], a, al, R => R a al
  | i, o :: r, a, al, R =>
    if isAlloc o then ∃ zs T, AllocIs P o zs T ∧ wpG P ops S late (i + 1) r a (al ++ [(o.dst, zs, T)]) R
    else ∃ v, St P ops S (late i) o v a ∧ wpG P ops S late (i + 1) r (a.put o.dst v) al R
def Good (P : Program) (ops : Array Oper) (S : World → Prop) (late : Nat → Bool) : Nat → List Oper → List Ent → Act → Prop
  | _, [], _, _ => True
  | i, o :: r, e :: es, a =>
    if isAlloc o then AllocIs P o e.zs e.T ∧ Good P ops S late (i + 1) r es a
    else St P ops S (late i) o e.v a ∧ Good P ops S late (i + 1) r es (a.put o.dst e.v)
  | _, _ :: _, [], _ => False
def fin : List Oper → List Ent → Act → Act
  | o :: r, e :: es, a => fin r es (if isAlloc o then a else a.put o.dst e.v)
  | _, _, a => a
def als : List Oper → List Ent → Al
  | o :: r, e :: es => (if isAlloc o then [(o.dst, e.zs, e.T)] else []) ++ als r es
  | _, _ => []
theorem wpG_good : ∀ (l : List Oper) (i : Nat) (a : Act) (al : Al) (R : Act → Al → Prop), wpG P ops S late i l a al R →
    ∃ es : List Ent, es.length = l.length ∧ Good P ops S late i l es a ∧ R (fin l es a) (al ++ als l es)
  | [], i, a, al, R, h => ⟨[], rfl, trivial, by simpa [fin, als, wpG] using h⟩
  | o :: r, i, a, al, R, h => by
    unfold wpG at h
    by_cases ha : isAlloc o = true
    · simp only [ha, if_true] at h
      obtain ⟨zs, T, h1, h2⟩ := h
      obtain ⟨es, hl, hg, hr⟩ := wpG_good r (i + 1) a _ R h2
      refine ⟨⟨undef, zs, T⟩ :: es, by simp [hl], ?_, ?_⟩
      · simp only [Good, ha, if_true]; exact ⟨h1, hg⟩
      · simpa [fin, als, ha] using hr
    · simp only [ha] at h
      obtain ⟨v, h1, h2⟩ := h
      obtain ⟨es, hl, hg, hr⟩ := wpG_good r (i + 1) _ al R h2
      refine ⟨⟨v, #[], 0⟩ :: es, by simp [hl], ?_, ?_⟩
      · simp only [Good, ha]; exact ⟨h1, hg⟩
      · simpa [fin, als, ha] using hr
theorem Good.at : ∀ {l : List Oper} {es : List Ent} {i : Nat} {a : Act}, Good P ops S late i l es a → ∀ {k : Nat} {o : Oper}, l[k]? = some o →
    ∃ e, es[k]? = some e ∧ (if isAlloc o then AllocIs P o e.zs e.T else St P ops S (late (i + k)) o e.v (fin (l.take k) es a))
  | [], _, _, _, _, k, o, ho => by simp at ho
  | _ :: _, [], _, _, h, _, _, _ => h.elim
  | x :: r, e :: es, i, a, h, 0, o, ho => by
    simp at ho; subst ho
    refine ⟨e, rfl, ?_⟩
    unfold Good at h
    by_cases ha : isAlloc x = true
    · simp only [ha, if_true] at h ⊢; exact h.1
    · simp only [ha] at h ⊢; exact h.1
  | x :: r, e :: es, i, a, h, k + 1, o, ho => by
    simp at ho
    unfold Good at h
    by_cases ha : isAlloc x = true
    · simp only [ha, if_true] at h
      obtain ⟨e', he, hh⟩ := Good.at h.2 ho
      refine ⟨e', by simpa using he, ?_⟩
      simpa [fin, ha, show i + 1 + k = i + (k + 1) from by omega] using hh
    · simp only [ha] at h
      obtain ⟨e', he, hh⟩ := Good.at h.2 ho
      refine ⟨e', by simpa using he, ?_⟩
      simpa [fin, ha, show i + 1 + k = i + (k + 1) from by omega] using hh
theorem put_get (a : Act) (d : Option Tmp) (v : Value) (t : Tmp) : (a.put d v).tmps[t]? = if d = some t then (if t < a.tmps.size then some v else none) else a.tmps[t]? := by
  cases d with
  | none => simp [Act.put]
  | some d =>
    simp only [Act.put, Array.getElem?_setIfInBounds, Option.some.injEq]
    by_cases h : d = t
    · subst h; simp
    · simp [h]
theorem put_size (a : Act) (d : Option Tmp) (v : Value) : (a.put d v).tmps.size = a.tmps.size := by cases d <;> simp [Act.put]
theorem put_defers (a : Act) (d : Option Tmp) (v : Value) : (a.put d v).defers = a.defers := by cases d <;> rfl
theorem fin_size : ∀ (l : List Oper) (es : List Ent) (a : Act), (fin l es a).tmps.size = a.tmps.size ∧ (fin l es a).defers = a.defers
  | [], _, _ => ⟨rfl, rfl⟩
  | _ :: _, [], _ => ⟨rfl, rfl⟩
  | o :: r, e :: es, a => by
    have := fin_size r es (if isAlloc o then a else a.put o.dst e.v)
    simp only [fin]
    by_cases ha : isAlloc o = true
    · simpa [ha] using this
    · simpa [ha, put_size, put_defers] using this
theorem fin_not : ∀ (l : List Oper) (es : List Ent) (a : Act) (t : Tmp), (∀ o ∈ l, isAlloc o = false → o.dst ≠ some t) → (fin l es a).tmps[t]? = a.tmps[t]?
  | [], _, _, _, _ => rfl
  | _ :: _, [], _, _, _ => rfl
  | o :: r, e :: es, a, t, h => by
    have := fin_not r es (if isAlloc o then a else a.put o.dst e.v) t (fun o' ho' => h o' (List.mem_cons_of_mem _ ho'))
    simp only [fin]
    rw [this]
    by_cases ha : isAlloc o = true
    · simp [ha]
    · have := h o (List.mem_cons_self ..) (by simpa using ha)
      simp [ha, put_get, this]
theorem fin_split : ∀ (k : Nat) (l : List Oper) (es : List Ent) (a : Act), es.length = l.length → fin l es a = fin (l.drop k) (es.drop k) (fin (l.take k) es a)
  | 0, l, es, a, _ => by cases l <;> simp [fin]
  | k + 1, [], es, a, _ => by simp [fin]
  | k + 1, _ :: _, [], a, h => by simp at h
  | k + 1, o :: r, e :: es, a, h => by
    simp only [fin, List.drop_succ_cons, List.take_succ_cons]
    exact fin_split k r es _ (by simpa using h)
theorem fin_succ {l : List Oper} {es : List Ent} {a : Act} {k : Nat} {o : Oper} {e : Ent} (ho : l[k]? = some o) (he : es[k]? = some e) :
    fin (l.take (k + 1)) es a = if isAlloc o then fin (l.take k) es a else (fin (l.take k) es a).put o.dst e.v := by
  induction k generalizing l es a with
  | zero =>
    cases l with
    | nil => simp at ho
    | cons x r =>
      cases es with
      | nil => simp at he
      | cons e' es =>
        simp at ho he; subst ho; subst he
        simp [fin]
  | succ k ih =>
    cases l with
    | nil => simp at ho
    | cons x r =>
      cases es with
      | nil => simp at he
      | cons e' es =>
        simp at ho he
        have := ih (a := if isAlloc x then a else a.put x.dst e'.v) ho he
        simpa [fin] using this
/-! ### the checks -/
def reach (ops : Array Oper) : Nat → Nat → Nat → Bool
  | 0, _, _ => false
  | f + 1, j, i => match ops[j]? with
    | none => false
    | some o => (o.after.toList.any fun e => Region.binds .any e && e.on == i) || o.after.toList.any fun e => Region.binds .any e && reach ops f e.on i
def looks (ops : Array Oper) (j : Nat) : List Tmp := match ops[j]? with | some o => o.looksAt ops | none => []
def dstAt (ops : Array Oper) (i : Nat) : Option Tmp := match ops[i]? with | some o => o.dst | none => none
def allocAt (ops : Array Oper) (i : Nat) : Bool := match ops[i]? with | some o => isAlloc o | none => false
def okLook (ops : Array Oper) (f n : Nat) (j i : Nat) (t : Tmp) : Bool :=
  dstAt ops i != some t || i == j || (if j < n ∧ i < n then decide (i < j) && reach ops f j i && !allocAt ops i else if i < j then reach ops f j i else reach ops f i j)
def okRegion (ops : Array Oper) (f n : Nat) (late : Nat → Bool) : Bool :=
  Region.noSelect ops && decide (n ≤ ops.size) &&
  ((List.range ops.size).all fun j =>
    ((looks ops j).all fun t => (List.range ops.size).all fun i => okLook ops f n j i t && (decide (n ≤ j) || i != j || dstAt ops i != some t)) &&
    ((List.range ops.size).all fun i => i == j || dstAt ops i == none || dstAt ops i != dstAt ops j) &&
    (match ops[j]? with | some o => o.after.toList.all fun e => !Region.binds .any e || decide (e.on < j) | none => true) &&
    (decide (j < n) || (List.range j).all fun i => (decide (i < n) && late i) || reach ops f j i) &&
    (decide (n ≤ j) || !late j || !allocAt ops j))
def Closed (ops : Array Oper) (listed : Array Bool) : Prop := ∀ j o, ops[j]? = some o → listed.getD j true = true → ∀ e ∈ o.after, Region.binds .any e = true → listed.getD e.on false = true
theorem reach_listed {listed : Array Bool} (hc : Closed ops listed) (hs : listed.size = ops.size) : ∀ (f j i : Nat), (∀ o, ops[j]? = some o → ∀ e ∈ o.after, Region.binds .any e = true → listed.getD e.on false = true) →
    reach ops f j i = true → listed.getD i false = true
  | 0, _, _, _, h => by simp [reach] at h
  | f + 1, j, i, hj, h => by
    unfold reach at h
    cases ho : ops[j]? with
    | none => simp [ho] at h
    | some o =>
      simp only [ho, Bool.or_eq_true, List.any_eq_true, Bool.and_eq_true, beq_iff_eq] at h
      rcases h with ⟨e, he, hb, rfl⟩ | ⟨e, he, hb, hr⟩
      · exact hj o ho e (by simpa using he) hb
      · have hl := hj o ho e (by simpa using he) hb
        refine reach_listed hc hs f e.on i (fun o' ho' e' he' hb' => hc e.on o' ho' ?_ e' he' hb') hr
        rcases Nat.lt_or_ge e.on listed.size with hlt | hge
        · simp [hlt] at hl ⊢; exact hl
        · simp [Array.getElem?_eq_none hge]
/-! ### what the checks say -/
structure Checked (ops : Array Oper) (f n : Nat) (late : Nat → Bool) : Prop where
  noSel : ∀ (j : Nat) (o : Oper) cs b, ops[j]? = some o → o.op ≠ .select cs b
  le : n ≤ ops.size
  raw : ∀ (j i : Nat) (oj oi : Oper) (t : Tmp), ops[j]? = some oj → ops[i]? = some oi → t ∈ oj.looksAt ops → oi.dst = some t → j < n → i < n → i < j ∧ reach ops f j i = true ∧ isAlloc oi = false
  tailRaw : ∀ (j i : Nat) (oj oi : Oper) (t : Tmp), ops[j]? = some oj → ops[i]? = some oi → t ∈ oj.looksAt ops → oi.dst = some t → i < n → n ≤ j → reach ops f j i = true
  war : ∀ (j i : Nat) (oj oi : Oper) (t : Tmp), ops[j]? = some oj → ops[i]? = some oi → t ∈ oj.looksAt ops → oi.dst = some t → j < n → n ≤ i → reach ops f i j = true
  single : ∀ (i j : Nat) (oi oj : Oper) (t : Tmp), ops[i]? = some oi → ops[j]? = some oj → oi.dst = some t → oj.dst = some t → i = j
  back : ∀ (j : Nat) (o : Oper), ops[j]? = some o → ∀ e ∈ o.after, Region.binds .any e = true → e.on < j
  order : ∀ (j i : Nat), j < ops.size → n ≤ j → i < j → (i < n ∧ late i = true) ∨ reach ops f j i = true
  lateNot : ∀ (j : Nat) (o : Oper), ops[j]? = some o → j < n → late j = true → isAlloc o = false
theorem okRegion_spec {f n : Nat} (h : okRegion ops f n late = true) : Checked ops f n late := by
  unfold okRegion at h
  simp only [Bool.and_eq_true, decide_eq_true_eq, List.all_eq_true, List.mem_range] at h
  obtain ⟨⟨h0, h1⟩, h2⟩ := h
  have lt : ∀ {j : Nat} {o : Oper}, ops[j]? = some o → j < ops.size := fun ho => (Array.getElem?_eq_some_iff.1 ho).1
  have klook : ∀ {j i : Nat} {oj oi : Oper} {t : Tmp}, ops[j]? = some oj → ops[i]? = some oi → t ∈ oj.looksAt ops → oi.dst = some t →
      okLook ops f n j i t = true ∧ (n ≤ j ∨ i ≠ j) := by
    intro j i oj oi t hj hi ht hd
    have a := ((((h2 j (lt hj)).1.1.1.1) t (by simpa [looks, hj] using ht)) i (lt hi))
    refine ⟨a.1, ?_⟩
    simpa [dstAt, hi, hd] using a.2
  refine ⟨Region.noSelect_spec h0, h1, ?_, ?_, ?_, ?_, ?_, ?_, ?_⟩
  · intro j i oj oi t hj hi ht hd hjn hin
    obtain ⟨a, b⟩ := klook hj hi ht hd
    have hne : i ≠ j := b.resolve_left (by omega)
    simpa [okLook, dstAt, allocAt, hi, hd, hjn, hin, hne, and_assoc] using a
  · intro j i oj oi t hj hi ht hd hin hjn
    obtain ⟨a, b⟩ := klook hj hi ht hd
    have hne : i ≠ j := by omega
    have hnn : ¬ j < n := by omega
    have hij : i < j := by omega
    simpa [okLook, dstAt, hi, hd, hnn, hne, hij] using a
  · intro j i oj oi t hj hi ht hd hjn hin
    obtain ⟨a, b⟩ := klook hj hi ht hd
    have hne : i ≠ j := by omega
    have hnn : ¬ i < n := by omega
    have hij : ¬ i < j := by omega
    simpa [okLook, dstAt, hi, hd, hnn, hne, hij] using a
  · intro i j oi oj t hi hj hdi hdj
    have a := ((h2 j (lt hj)).1.1.1.2) i (lt hi)
    simpa [dstAt, hi, hj, hdi, hdj] using a
  · intro j o hj e he hb
    have a := (h2 j (lt hj)).1.1.2
    simp only [hj, List.all_eq_true, Bool.or_eq_true, Bool.not_eq_true', decide_eq_true_eq] at a
    exact (a e (by simpa using he)).resolve_left (by simp [hb])
  · intro j i hj hn hi
    have a := (h2 j hj).1.2
    simp only [Bool.or_eq_true, decide_eq_true_eq, List.all_eq_true, List.mem_range, Bool.and_eq_true] at a
    exact (a.resolve_left (by omega)) i hi
  · intro j o hj hn hl
    have a := (h2 j (lt hj)).2
    simp only [Bool.or_eq_true, decide_eq_true_eq, Bool.not_eq_true', allocAt, hj] at a
    rcases a with (a | a) | a
    · omega
    · simp [a] at hl
    · exact a
/-! ### counting what has not come up -/
def cnt (ops : Array Oper) (listed : Array Bool) : Nat := ((List.range ops.size).filter fun i => !listed.getD i true).length
theorem filter_lt {p q : Nat → Bool} : ∀ (l : List Nat), (∀ x ∈ l, q x = true → p x = true) → (∃ x ∈ l, p x = true ∧ q x = false) → (l.filter q).length < (l.filter p).length
  | [], _, h => by simp at h
  | x :: l, h, hx => by
    have hle : (l.filter q).length ≤ (l.filter p).length := by
      have : ∀ l : List Nat, (∀ x ∈ l, q x = true → p x = true) → (l.filter q).length ≤ (l.filter p).length := by
        intro l
        induction l with
        | nil => simp
        | cons y l ih =>
          intro h
          have := ih (fun x hx => h x (List.mem_cons_of_mem _ hx))
          by_cases hq : q y = true
          · simp [hq, h y (List.mem_cons_self ..) hq]; exact this
          · by_cases hp : p y = true <;> simp [hq, hp] <;> omega
      exact this l (fun x hx => h x (List.mem_cons_of_mem _ hx))
    by_cases hq : q x = true
    · have hp := h x (List.mem_cons_self ..) hq
      simp only [List.filter_cons, hq, hp, if_true, List.length_cons]
      have := filter_lt l (fun x hx => h x (List.mem_cons_of_mem _ hx)) (by
        obtain ⟨y, hy, h1, h2⟩ := hx
        rcases List.mem_cons.1 hy with rfl | hy
        · simp [hq] at h2
        · exact ⟨y, hy, h1, h2⟩)
      omega
    · by_cases hp : p x = true
      · simp only [List.filter_cons, hq, hp, if_true, List.length_cons]
        simp; omega
      · simp only [List.filter_cons, hq, hp]
        refine filter_lt l (fun x hx => h x (List.mem_cons_of_mem _ hx)) ?_
        obtain ⟨y, hy, h1, h2⟩ := hx
        rcases List.mem_cons.1 hy with rfl | hy
        · exact absurd h1 hp
        · exact ⟨y, hy, h1, h2⟩
theorem cnt_set {listed : Array Bool} {j : Nat} (hs : listed.size = ops.size) (hj : j < ops.size) (hu : listed.getD j true = false) : cnt ops (listed.setIfInBounds j true) < cnt ops listed := by
  refine filter_lt _ (fun x _ hx => ?_) ⟨j, by simpa using hj, by simp at hu ⊢; exact hu, ?_⟩
  · by_cases h : j = x
    · subst h; simpa using hu
    · rw [getD_set_ne true h] at hx; exact hx
  · have : j < listed.size := by omega
    simp [this]
theorem cnt_zero {listed : Array Bool} (h : cnt ops listed = 0) : ∀ i, i < ops.size → listed.getD i true = true := by
  intro i hi
  have : (List.range ops.size).filter (fun i => !listed.getD i true) = [] := List.eq_nil_of_length_eq_zero h
  have := List.filter_eq_nil_iff.1 this i (by simpa using hi)
  simpa using this
theorem ready_nil {f n : Nat} (hck : Checked ops f n late) {listed : Array Bool} (hs : listed.size = ops.size) (h : Region.ready .any ops listed = []) : ∀ i, i < ops.size → listed.getD i true = true := by
  intro i
  induction i using Nat.strongRecOn with
  | _ i ih =>
    intro hi
    cases hu : listed.getD i true with
    | true => rfl
    | false =>
      obtain ⟨o, ho⟩ : ∃ o, ops[i]? = some o := ⟨ops[i], by simp [hi]⟩
      have : i ∈ Region.ready .any ops listed := mem_ready.2 ⟨hu, o, ho, fun e he hb => by
        have hlt := hck.back i o ho e he hb
        have := ih e.on hlt (by omega)
        have h3 : e.on < listed.size := by omega
        simp [h3] at this ⊢; exact this⟩
      rw [h] at this; cases this
theorem set_listed {listed : Array Bool} {i j : Nat} : (listed.setIfInBounds j true).getD i true = false ↔ (i ≠ j ∧ listed.getD i true = false) := by
  by_cases h : j = i
  · subst h
    rcases Nat.lt_or_ge j listed.size with h | h <;> simp [h]
  · rw [getD_set_ne true h]; exact ⟨fun hh => ⟨fun e => h e.symm, hh⟩, fun hh => hh.2⟩
theorem closed_set {listed : Array Bool} {j : Nat} (hc : Closed ops listed) (hr : j ∈ Region.ready .any ops listed) : Closed ops (listed.setIfInBounds j true) := by
  intro k o hk hl e he hb
  obtain ⟨hu, oj, hoj, hall⟩ := mem_ready.1 hr
  by_cases h : j = k
  · subst h
    rw [hoj] at hk; cases hk
    exact getD_set_true (hall e he hb)
  · rw [getD_set_ne true h] at hl
    exact getD_set_true (hc k o hk hl e he hb)
theorem listed_not {listed : Array Bool} {i : Nat} (h : listed.getD i false = true) : listed.getD i true ≠ false := by
  rcases Nat.lt_or_ge i listed.size with hl | hl
  · simp [hl] at h ⊢; exact h
  · simp [Array.getElem?_eq_none hl]
theorem act_ext {a b : Act} (ht : ∀ t : Nat, a.tmps[t]? = b.tmps[t]?) (hd : a.defers = b.defers) : a = b := by
  cases a; cases b
  simp only [Act.mk.injEq]
  exact ⟨Array.ext_getElem? ht, hd⟩
theorem exec_agree (hsel : ∀ (j : Nat) (o : Oper) cs b, ops[j]? = some o → o.op ≠ .select cs b) {j : Nat} {o : Oper} (ho : ops[j]? = some o) {a b : Act} (h : ∀ t : Nat, t ∈ o.looksAt ops → a.tmps[t]? = b.tmps[t]?) :
    execOp a.eval o = execOp b.eval o ∧ Region.wanted o (yielded ops a.tmps) = Region.wanted o (yielded ops b.tmps) := by
  constructor
  · refine execOp_congr o (fun cs bb => hsel j o cs bb ho) fun x hx => ?_
    cases x with
    | tmp t =>
      have := h t (List.mem_append_left _ (List.mem_filterMap.2 ⟨.tmp t, by simpa using hx, rfl⟩))
      simp [Act.eval, this]
    | _ => rfl
  · unfold Region.wanted
    cases hg : o.guard with
    | none => rfl
    | some gw =>
      obtain ⟨g, want⟩ := gw
      simp only
      have : yielded ops a.tmps g = yielded ops b.tmps g := by
        unfold yielded
        cases ht : (ops[g]?).bind (·.dst) with
        | none => rfl
        | some t =>
          have := h t (by simp [Oper.looksAt, hg, ht])
          simp only [Option.bind_some, this]
      rw [this]
/-! ### behind the first effect -/
structure Ph2 (P : Program) (ops : Array Oper) (S : World → Prop) (late : Nat → Bool) (n k : Nat) (listed : Array Bool) (a aI : Act) : Prop where
  size : listed.size = ops.size
  clo : Closed ops listed
  tail : ∀ j, n ≤ j → j < ops.size → (listed.getD j true = false ↔ k ≤ j)
  pend : ∀ (i : Nat) (o : Oper), i < n → ops[i]? = some o → listed.getD i true = false → ∃ v, St P ops S true o v aI ∧ aI.put o.dst v = aI
  agree : ∀ t : Nat, (∀ (i : Nat) (o : Oper), i < n → ops[i]? = some o → listed.getD i true = false → o.dst ≠ some t) → a.tmps[t]? = aI.tmps[t]?
  sz : a.tmps.size = aI.tmps.size
  df : a.defers = aI.defers
theorem ph2 {f n : Nat} (hck : Checked ops f n late) (hnp : ∀ c a w, ¬ Q (.panic c) a w) : ∀ (fuel k : Nat) (listed : Array Bool) (a aI : Act) (w : World), n ≤ k → Ph2 P ops S late n k listed a aI → cnt ops listed ≤ fuel →
    wpList P ops Q (ops.toList.drop k) aI w → wpAny P .any ops Q fuel listed a w := by
  intro fuel
  induction fuel with
  | zero =>
    intro k listed a aI w hnk hp hc h
    have hall := cnt_zero (Nat.le_zero.1 hc)
    have hr : Region.ready .any ops listed = [] := by
      cases hrr : Region.ready .any ops listed with
      | nil => rfl
      | cons x xs =>
        have hx : x ∈ Region.ready .any ops listed := by rw [hrr]; simp
        obtain ⟨hu, o, ho, _⟩ := mem_ready.1 hx
        rw [hall x (Array.getElem?_eq_some_iff.1 ho).1] at hu; cases hu
    refine ⟨hr, ?_⟩
    have hk : ops.size ≤ k := by
      rcases Nat.lt_or_ge k ops.size with hlt | hge
      · have := (hp.tail k hnk hlt).2 (Nat.le_refl _); rw [hall k hlt] at this; cases this
      · exact hge
    rw [List.drop_eq_nil_of_le (by simpa using hk)] at h
    have : a = aI := act_ext (fun t => hp.agree t fun i o hi ho hu => by rw [hall i (Array.getElem?_eq_some_iff.1 ho).1] at hu; cases hu) hp.df
    rw [this]; exact h
  | succ fuel ih =>
    intro k listed a aI w hnk hp hc h
    refine ⟨fun hr => ?_, fun j hj => ?_⟩
    · have hall := ready_nil hck hp.size hr
      have hk : ops.size ≤ k := by
        rcases Nat.lt_or_ge k ops.size with hlt | hge
        · have := (hp.tail k hnk hlt).2 (Nat.le_refl _); rw [hall k hlt] at this; cases this
        · exact hge
      rw [List.drop_eq_nil_of_le (by simpa using hk)] at h
      have : a = aI := act_ext (fun t => hp.agree t fun i o hi ho hu => by rw [hall i (Array.getElem?_eq_some_iff.1 ho).1] at hu; cases hu) hp.df
      rw [this]; exact h
    · obtain ⟨hu, o, ho, hall⟩ := mem_ready.1 hj
      have hjl : j < ops.size := (Array.getElem?_eq_some_iff.1 ho).1
      have hrl : ∀ i, reach ops f j i = true → listed.getD i true ≠ false := fun i hi =>
        listed_not (reach_listed hp.clo hp.size f j i (fun o' ho' e he hb => by rw [ho] at ho'; cases ho'; exact hall e he hb) hi)
      have hag : ∀ t ∈ o.looksAt ops, a.tmps[t]? = aI.tmps[t]? := fun t ht => hp.agree t fun i oi hi hoi hui hd => by
        rcases Nat.lt_or_ge j n with hjn | hjn
        · exact hrl i (hck.raw j i o oi t ho hoi ht hd hjn hi).2.1 hui
        · exact hrl i (hck.tailRaw j i o oi t ho hoi ht hd hi hjn) hui
      obtain ⟨he, hw⟩ := exec_agree hck.noSel ho hag
      have hcnt : cnt ops (listed.setIfInBounds j true) ≤ fuel := by have := cnt_set hp.size hjl hu; omega
      rcases Nat.lt_or_ge j n with hjn | hjn
      · obtain ⟨v, hst, hput⟩ := hp.pend j o hjn ho hu
        have hnext : Ph2 P ops S late n k (listed.setIfInBounds j true) (a.put o.dst v) aI := by
          refine ⟨by simpa using hp.size, closed_set hp.clo hj, fun i hi hil => ?_, fun i oi hi hoi hui => hp.pend i oi hi hoi (set_listed.1 hui).2, fun t ht => ?_, by rw [put_size]; exact hp.sz, by rw [put_defers]; exact hp.df⟩
          · rw [set_listed]
            exact ⟨fun hh => (hp.tail i hi hil).1 hh.2, fun hh => ⟨by omega, (hp.tail i hi hil).2 hh⟩⟩
          · rw [put_get]
            by_cases hd : o.dst = some t
            · rw [if_pos hd, ← hput, put_get, if_pos hd, hp.sz]
            · rw [if_neg hd]
              refine hp.agree t fun i oi hi hoi hui hdi => ?_
              by_cases hij : i = j
              · subst hij; rw [ho] at hoi; cases hoi; exact hd hdi
              · exact ht i oi hi hoi (set_listed.2 ⟨hij, hui⟩) hdi
        unfold wpOp
        simp only [ho]
        rw [hw]
        rcases hst with ⟨hwt, hg⟩ | ⟨hwf, hv⟩
        · rw [if_pos hwt]
          left
          exact (gives_congr he.symm (hg w (by simp))).wp fun u w' ⟨hu', hw', _⟩ => by
            subst hu'
            rw [hw' rfl]
            exact ih k _ _ aI w hnk hnext hcnt h
        · rw [if_neg (by simp [hwf])]
          subst hv
          exact ih k _ _ aI w hnk hnext hcnt h
      · have hkj : k = j := by
          have h1 := (hp.tail j hjn hjl).1 hu
          rcases Nat.lt_or_ge k j with hlt | hge
          · rcases hck.order j k hjl hjn hlt with ⟨h2, _⟩ | h2
            · omega
            · exact absurd ((hp.tail k hnk (by omega)).2 (Nat.le_refl _)) (hrl k h2)
          · omega
        subst hkj
        have hdrop : ops.toList.drop k = o :: ops.toList.drop (k + 1) := by
          have : ops.toList[k]? = some o := by simpa using ho
          rw [List.drop_eq_getElem_cons (by simpa using hjl)]
          congr 1
          have h3 := List.getElem?_eq_some_iff.1 this
          exact h3.2
        rw [hdrop] at h
        unfold wpList at h
        have hnext : ∀ u, Ph2 P ops S late n (k + 1) (listed.setIfInBounds k true) (a.put o.dst u) (aI.put o.dst u) := fun u => by
          have hpd : ∀ (i : Nat) (oi : Oper), i < n → ops[i]? = some oi → listed.getD i true = false → ∀ d, o.dst = some d → d ∉ oi.looksAt ops ∧ oi.dst ≠ some d := fun i oi hi hoi hui d hd => by
            refine ⟨fun hdl => ?_, fun hdd => ?_⟩
            · have h4 := hck.war i k oi o d hoi ho hdl hd hi hjn
              exact absurd hui (hrl i h4)
            · have := hck.single i k oi o d hoi ho hdd hd; omega
          refine ⟨by simpa using hp.size, closed_set hp.clo hj, fun i hi hil => ?_, fun i oi hi hoi hui => ?_, fun t ht => ?_, by rw [put_size, put_size]; exact hp.sz, by rw [put_defers, put_defers]; exact hp.df⟩
          · rw [set_listed]
            exact ⟨fun hh => by have := (hp.tail i hi hil).1 hh.2; have := hh.1; omega, fun hh => ⟨by omega, (hp.tail i hi hil).2 (by omega)⟩⟩
          · obtain ⟨v, hst, hput⟩ := hp.pend i oi hi hoi (set_listed.1 hui).2
            have hpd' := hpd i oi hi hoi (set_listed.1 hui).2
            refine ⟨v, ?_, ?_⟩
            · have e1 := execOp_put (ops := ops) oi (fun cs b => hck.noSel i oi cs b hoi) aI o.dst u (fun d hd => (hpd' d hd).1)
              have e2 := wanted_put (ops := ops) oi aI o.dst u (fun d hd => (hpd' d hd).1)
              rcases hst with ⟨h5, h6⟩ | ⟨h5, h6⟩
              · exact .inl ⟨by rw [e2]; exact h5, fun w hw => gives_congr e1.symm (h6 w hw)⟩
              · exact .inr ⟨by rw [e2]; exact h5, h6⟩
            · rw [Act.put_comm _ _ _ (fun d hd => (hpd' d hd).2), hput]
          · rw [put_get, put_get, hp.sz]
            by_cases hd : o.dst = some t
            · rw [if_pos hd, if_pos hd]
            · rw [if_neg hd, if_neg hd]
              refine hp.agree t fun i oi hi hoi hui hdi => ht i oi hi hoi (set_listed.2 ⟨by omega, hui⟩) hdi
        unfold wpOp
        simp only [ho]
        rw [hw]
        have hgo : ∀ u w', wpList P ops Q (ops.toList.drop (k + 1)) (aI.put o.dst u) w' → wpAny P .any ops Q fuel (listed.setIfInBounds k true) (a.put o.dst u) w' :=
          fun u w' hh => ih (k + 1) _ _ _ w' (by omega) (hnext u) hcnt hh
        split
        · rename_i hwt
          simp only [hwt, if_true] at h
          rcases h with h | ⟨h1, h2⟩
          · left
            unfold Oper.wp at *
            rw [he]
            generalize (execOp aI.eval o).run P w = r at *
            cases r with
            | ok x w' =>
              cases x <;> simp only [Oper.upon] at h ⊢
              case value u => exact hgo _ _ h
              case skip => exact hgo _ _ h
              case defer d =>
                refine ih (k + 1) _ _ _ w' (by omega) ?_ hcnt h
                have h7 := hnext undef
                have e0 : ∀ (b : Act) (d' : List Deferred), ({ b with defers := d' } : Act).put o.dst undef = { b.put o.dst undef with defers := d' } := fun b d' => by cases o.dst <;> rfl
                have e3 : ∀ (b : Act) (d' : List Deferred), (({ b with defers := d' } : Act)).eval = b.eval := fun b d' => by funext x; cases x <;> rfl
                refine ⟨h7.size, h7.clo, h7.tail, fun i oi hi hoi hui => ?_, fun t ht => ?_, ?_, ?_⟩
                · obtain ⟨v, hst, hput⟩ := h7.pend i oi hi hoi hui
                  refine ⟨v, ?_, ?_⟩
                  · rw [e0]
                    unfold St at *
                    rw [e3]; exact hst
                  · rw [e0]
                    have : ∀ (b : Act) (d' : List Deferred), ({ b with defers := d' } : Act).put oi.dst v = { b.put oi.dst v with defers := d' } := fun b d' => by cases oi.dst <;> rfl
                    rw [this, hput]
                · have := h7.agree t ht
                  rw [e0 a (d :: a.defers), e0 aI (d :: aI.defers)]; exact this
                · rw [e0 a (d :: a.defers), e0 aI (d :: aI.defers)]; exact h7.sz
                · rw [put_defers, put_defers]; simp [hp.df]
              case enter f' args =>
                refine Calls.mono h fun e w'' hh => ?_
                cases e with
                | returned u => exact hgo _ _ hh
                | panicked c => exact (hnp _ _ _ hh).elim
                | outgrown => exact hh
              case row row args => exact Rows.mono h fun u w'' hh => hgo _ _ hh
            | halt x w' =>
              cases x <;> simp only [Oper.upon] at h ⊢
              case panic u => exact (hnp _ _ _ h).elim
          · right
            refine ⟨?_, h2⟩
            unfold Oper.asks at *
            rw [he]; exact h1
        · rename_i hwf
          simp only [hwf] at h
          exact hgo _ _ h
/-! ### before the first effect -/
def allocd (s : Nat) (w' : World) : Al → List Nat → Act → (Act → Prop) → Prop
  | [], _, a, K => K a
  | (d, zs, T) :: r, prev, a, K => ∀ b, s ≤ b → w'.heap[b]? = some (.cells zs T) → (∀ b' ∈ prev, b ≠ b') → allocd s w' r (b :: prev) (a.put d (.pointer (some ⟨b, 0, none⟩))) K
def ptrV (b : Nat) : Value := .pointer (some ⟨b, 0, none⟩)
def putAl (ptr : Nat → Nat) : Nat → List Oper → Act → Act
  | _, [], a => a
  | i, o :: r, a => putAl ptr (i + 1) r (if isAlloc o then a.put o.dst (ptrV (ptr i)) else a)
theorem allocd_ptr {s : Nat} {w' : World} {K : Act → Prop} {ptr : Nat → Nat} : ∀ (l : List Oper) (es : List Ent) (i : Nat) (prev : List Nat) (a : Act), es.length = l.length → allocd s w' (als l es) prev a K →
    (∀ k o e, l[k]? = some o → isAlloc o = true → es[k]? = some e → s ≤ ptr (i + k) ∧ w'.heap[ptr (i + k)]? = some (.cells e.zs e.T) ∧ ptr (i + k) ∉ prev) →
    (∀ k k' o o', l[k]? = some o → l[k']? = some o' → isAlloc o = true → isAlloc o' = true → k ≠ k' → ptr (i + k) ≠ ptr (i + k')) → K (putAl ptr i l a)
  | [], _, _, _, _, _, h, _, _ => by simpa [als, allocd, putAl] using h
  | _ :: _, [], _, _, _, hl, _, _, _ => by simp at hl
  | o :: r, e :: es, i, prev, a, hl, h, h1, h2 => by
    have hl' : es.length = r.length := by simpa using hl
    have h1' : ∀ k o' e', r[k]? = some o' → isAlloc o' = true → es[k]? = some e' → s ≤ ptr (i + 1 + k) ∧ w'.heap[ptr (i + 1 + k)]? = some (.cells e'.zs e'.T) ∧ ptr (i + 1 + k) ∉ prev := fun k o' e' ho ha he => by
      have := h1 (k + 1) o' e' (by simpa using ho) ha (by simpa using he)
      rwa [show i + (k + 1) = i + 1 + k from by omega] at this
    have h2' : ∀ k k' o' o'', r[k]? = some o' → r[k']? = some o'' → isAlloc o' = true → isAlloc o'' = true → k ≠ k' → ptr (i + 1 + k) ≠ ptr (i + 1 + k') := fun k k' o' o'' ho ho' ha ha' hne => by
      have := h2 (k + 1) (k' + 1) o' o'' (by simpa using ho) (by simpa using ho') ha ha' (by omega)
      rwa [show i + (k + 1) = i + 1 + k from by omega, show i + (k' + 1) = i + 1 + k' from by omega] at this
    by_cases ha : isAlloc o = true
    · simp only [als, ha, if_true, List.singleton_append, allocd] at h
      simp only [putAl, ha, if_true]
      have g := h1 0 o e rfl ha rfl
      have hh := h (ptr i) (by simpa using g.1) (by simpa using g.2.1) (fun b' hb' e' => by have := g.2.2; simp at this; rw [e'] at this; exact this hb')
      refine allocd_ptr r es (i + 1) _ _ hl' hh (fun k o' e' ho ha' he => ⟨(h1' k o' e' ho ha' he).1, (h1' k o' e' ho ha' he).2.1, ?_⟩) h2'
      rw [List.mem_cons, not_or]
      refine ⟨?_, (h1' k o' e' ho ha' he).2.2⟩
      have := h2 (k + 1) 0 o' o (by simpa using ho) rfl ha' ha (by omega)
      rw [show i + (k + 1) = i + 1 + k from by omega] at this
      exact this
    · simp only [als, ha] at h
      simp only [putAl, ha]
      exact allocd_ptr r es (i + 1) prev a hl' (by simpa using h) h1' h2'
theorem putAl_size (ptr : Nat → Nat) : ∀ (l : List Oper) (i : Nat) (a : Act), (putAl ptr i l a).tmps.size = a.tmps.size ∧ (putAl ptr i l a).defers = a.defers
  | [], _, _ => ⟨rfl, rfl⟩
  | o :: r, i, a => by
    have := putAl_size ptr r (i + 1) (if isAlloc o then a.put o.dst (ptrV (ptr i)) else a)
    simp only [putAl]
    by_cases ha : isAlloc o = true
    · simpa [ha, put_size, put_defers] using this
    · simpa [ha] using this
theorem putAl_not (ptr : Nat → Nat) : ∀ (l : List Oper) (i : Nat) (a : Act) (t : Nat), (∀ o ∈ l, isAlloc o = true → o.dst ≠ some t) → (putAl ptr i l a).tmps[t]? = a.tmps[t]?
  | [], _, _, _, _ => rfl
  | o :: r, i, a, t, h => by
    simp only [putAl]
    rw [putAl_not ptr r (i + 1) _ t (fun o' ho' => h o' (List.mem_cons_of_mem _ ho'))]
    by_cases ha : isAlloc o = true
    · simp [ha, put_get, h o (List.mem_cons_self ..) ha]
    · simp [ha]
theorem putAl_at (ptr : Nat → Nat) : ∀ (l : List Oper) (i : Nat) (a : Act) (t k : Nat) (o : Oper), l[k]? = some o → isAlloc o = true → o.dst = some t → (∀ k' o', l[k']? = some o' → o'.dst = some t → k' = k) →
    (putAl ptr i l a).tmps[t]? = if t < a.tmps.size then some (ptrV (ptr (i + k))) else none
  | [], _, _, _, _, _, h, _, _, _ => by simp at h
  | x :: r, i, a, t, 0, o, h, ha, hd, hu => by
    simp at h; subst h
    simp only [putAl, ha, if_true]
    rw [putAl_not ptr r (i + 1) _ t (fun o' ho' _ hd' => by
      obtain ⟨k', hk'⟩ := List.getElem?_of_mem ho'
      have := hu (k' + 1) o' (by simpa using hk') hd'
      omega)]
    simp [put_get, hd]
  | x :: r, i, a, t, k + 1, o, h, ha, hd, hu => by
    simp only [putAl]
    rw [putAl_at ptr r (i + 1) _ t k o (by simpa using h) ha hd (fun k' o' ho' hd' => by have := hu (k' + 1) o' (by simpa using ho') hd'; omega)]
    rw [show i + 1 + k = i + (k + 1) from by omega]
    by_cases hx : isAlloc x = true <;> simp [hx, put_size]
structure Ph1 (ops : Array Oper) (S : World → Prop) (n : Nat) (es : List Ent) (a0 : Act) (w0 : World) (ptr : Nat → Nat) (listed : Array Bool) (a : Act) (w : World) : Prop where
  size : listed.size = ops.size
  clo : Closed ops listed
  tail : ∀ j, n ≤ j → j < ops.size → listed.getD j true = false
  sz : a.tmps.size = a0.tmps.size
  df : a.defers = a0.defers
  none : ∀ t : Nat, (∀ (i : Nat) (o : Oper), i < n → ops[i]? = some o → o.dst ≠ some t) → a.tmps[t]? = a0.tmps[t]?
  not : ∀ (t i : Nat) (o : Oper), i < n → ops[i]? = some o → o.dst = some t → listed.getD i true = false → a.tmps[t]? = a0.tmps[t]?
  al : ∀ (t i : Nat) (o : Oper), i < n → ops[i]? = some o → o.dst = some t → listed.getD i true = true → isAlloc o = true → a.tmps[t]? = if t < a0.tmps.size then some (ptrV (ptr i)) else .none
  val : ∀ (t i : Nat) (o : Oper), i < n → ops[i]? = some o → o.dst = some t → listed.getD i true = true → isAlloc o = false → a.tmps[t]? = (fin (ops.toList.take n) es a0).tmps[t]?
  s : S w
  below : Below w0.heap.size w0 w
  blk : ∀ (i : Nat) (o : Oper) (e : Ent), i < n → ops[i]? = some o → isAlloc o = true → listed.getD i true = true → es[i]? = some e → w0.heap.size ≤ ptr i ∧ w.heap[ptr i]? = some (.cells e.zs e.T)
  dist : ∀ (i j : Nat) (o o' : Oper), i < n → j < n → ops[i]? = some o → ops[j]? = some o' → isAlloc o = true → isAlloc o' = true → listed.getD i true = true → listed.getD j true = true → i ≠ j → ptr i ≠ ptr j
section
variable {f n : Nat} {es : List Ent} {a0 : Act}
theorem take_get {i : Nat} {o : Oper} (hi : i < n) (ho : ops[i]? = some o) : (ops.toList.take n)[i]? = some o := by
  rw [List.getElem?_take_of_lt hi]; simpa using ho
theorem take_take' {j : Nat} (hj : j ≤ n) : (ops.toList.take n).take j = ops.toList.take j := by
  rw [List.take_take, Nat.min_eq_left hj]
theorem get_take {k j : Nat} {o : Oper} (h : (ops.toList.take j)[k]? = some o) : k < j ∧ ops[k]? = some o := by
  rcases Nat.lt_or_ge k j with hlt | hge
  · rw [List.getElem?_take_of_lt hlt] at h; exact ⟨hlt, by simpa using h⟩
  · rw [List.getElem?_take_eq_none hge] at h; cases h
theorem fin_look (hck : Checked ops f n late) (hlen : es.length = n) {j i t : Nat} {oi : Oper} (hj : j ≤ n) (hij : i < j) (hi : ops[i]? = some oi) (hd : oi.dst = some t) :
    (fin (ops.toList.take j) es a0).tmps[t]? = (fin (ops.toList.take n) es a0).tmps[t]? := by
  have hl : es.length = (ops.toList.take n).length := by simp [hlen, Nat.min_eq_left hck.le]
  rw [fin_split j (ops.toList.take n) es a0 hl, take_take' hj]
  refine (fin_not _ _ _ _ fun o ho _ hd' => ?_).symm
  obtain ⟨k, hk⟩ := List.getElem?_of_mem ho
  rw [List.getElem?_drop] at hk
  have := (get_take hk).2
  have := hck.single i (j + k) oi o t hi this hd hd'
  omega
theorem fin_base {j t : Nat} (h : ∀ (i : Nat) (o : Oper), i < j → ops[i]? = some o → isAlloc o = false → o.dst ≠ some t) : (fin (ops.toList.take j) es a0).tmps[t]? = a0.tmps[t]? := by
  refine fin_not _ _ _ _ fun o ho ha => ?_
  obtain ⟨k, hk⟩ := List.getElem?_of_mem ho
  obtain ⟨h1, h2⟩ := get_take hk
  exact h k o h1 h2 ha
theorem fin_val (hck : Checked ops f n late) (hlen : es.length = n) {j t : Nat} {o : Oper} {e : Ent} (hj : j < n) (ho : ops[j]? = some o) (he : es[j]? = some e) (ha : isAlloc o = false) (hd : o.dst = some t) :
    (fin (ops.toList.take n) es a0).tmps[t]? = if t < a0.tmps.size then some e.v else none := by
  rw [← fin_look hck hlen (j := j + 1) (i := j) (by omega) (by omega) ho hd]
  have h1 : (ops.toList)[j]? = some o := by simpa using ho
  rw [fin_succ h1 he]
  simp only [ha, Bool.false_eq_true, if_false]
  rw [put_get, if_pos hd, (fin_size _ _ _).1]
theorem switch {w0 w : World} {ptr : Nat → Nat} {listed : Array Bool} {a : Act} (hck : Checked ops f n late) (hnp : ∀ c a w, ¬ Q (.panic c) a w) (hlen : es.length = n) (hG : Good P ops S late 0 (ops.toList.take n) es a0)
    (hfin : ∀ w', S w' → Below w0.heap.size w0 w' → allocd w0.heap.size w' (als (ops.toList.take n) es) [] (fin (ops.toList.take n) es a0) (fun a => wpList P ops Q (ops.toList.drop n) a w'))
    (h : Ph1 ops S n es a0 w0 ptr listed a w) (hall : ∀ i, i < n → listed.getD i true = false → late i = true) {fuel : Nat} (hc : cnt ops listed ≤ fuel) : wpAny P .any ops Q fuel listed a w := by
  have hl : es.length = (ops.toList.take n).length := by simp [hlen, Nat.min_eq_left hck.le]
  have hlst : ∀ (i : Nat) (o : Oper), i < n → ops[i]? = some o → isAlloc o = true → listed.getD i true = true := fun i o hi ho ha => by
    cases hu : listed.getD i true with
    | true => rfl
    | false => have := hck.lateNot i o ho hi (hall i hi hu); rw [ha] at this; cases this
  have hK := allocd_ptr (ptr := ptr) (ops.toList.take n) es 0 [] _ hl (hfin w h.s h.below)
    (fun k o e ho ha he => by
      obtain ⟨h1, h2⟩ := get_take ho
      have := h.blk k o e h1 h2 ha (hlst k o h1 h2 ha) he
      simpa using this)
    (fun k k' o o' ho ho' ha ha' hne => by
      obtain ⟨h1, h2⟩ := get_take ho
      obtain ⟨h1', h2'⟩ := get_take ho'
      have := h.dist k k' o o' h1 h1' h2 h2' ha ha' (hlst k o h1 h2 ha) (hlst k' o' h1' h2' ha') hne
      simpa using this)
  -- the ideal frame
  have hTsz : (fin (ops.toList.take n) es a0).tmps.size = a0.tmps.size := (fin_size _ _ _).1
  have hIsz : (putAl ptr 0 (ops.toList.take n) (fin (ops.toList.take n) es a0)).tmps.size = a0.tmps.size := by rw [(putAl_size _ _ _ _).1]; exact hTsz
  have hIdf : (putAl ptr 0 (ops.toList.take n) (fin (ops.toList.take n) es a0)).defers = a0.defers := by rw [(putAl_size _ _ _ _).2]; exact (fin_size _ _ _).2
  have hInot : ∀ t : Nat, (∀ (i : Nat) (o : Oper), i < n → ops[i]? = some o → isAlloc o = true → o.dst ≠ some t) →
      (putAl ptr 0 (ops.toList.take n) (fin (ops.toList.take n) es a0)).tmps[t]? = (fin (ops.toList.take n) es a0).tmps[t]? := fun t ht =>
    putAl_not _ _ _ _ _ fun o ho ha => by
      obtain ⟨k, hk⟩ := List.getElem?_of_mem ho
      obtain ⟨h1, h2⟩ := get_take hk
      exact ht k o h1 h2 ha
  have hIat : ∀ (t i : Nat) (o : Oper), i < n → ops[i]? = some o → isAlloc o = true → o.dst = some t →
      (putAl ptr 0 (ops.toList.take n) (fin (ops.toList.take n) es a0)).tmps[t]? = if t < a0.tmps.size then some (ptrV (ptr i)) else none := fun t i o hi ho ha hd => by
    rw [putAl_at ptr _ 0 _ t i o (take_get hi ho) ha hd (fun k' o' ho' hd' => hck.single k' i o' o t (get_take ho').2 ho hd' hd), hTsz]
    simp
  refine ph2 (S := S) (late := late) hck hnp fuel n listed a _ w (Nat.le_refl _) ⟨h.size, h.clo, fun j hj hjl => ⟨fun _ => hj, fun _ => h.tail j hj hjl⟩, fun i o hi ho hu => ?_, fun t ht => ?_, by rw [hIsz]; exact h.sz, by rw [hIdf]; exact h.df⟩ hc hK
  · obtain ⟨e, he, hst⟩ := hG.at (take_get hi ho)
    have ha := hck.lateNot i o ho hi (hall i hi hu)
    simp only [ha, Bool.false_eq_true, if_false, Nat.zero_add, hall i hi hu, take_take' (Nat.le_of_lt hi)] at hst
    have hag : ∀ t : Nat, t ∈ o.looksAt ops → (putAl ptr 0 (ops.toList.take n) (fin (ops.toList.take n) es a0)).tmps[t]? = (fin (ops.toList.take i) es a0).tmps[t]? := fun t ht => by
      by_cases hex : ∃ (i' : Nat) (o' : Oper), i' < n ∧ ops[i']? = some o' ∧ o'.dst = some t
      · obtain ⟨i', o', hi', ho', hd'⟩ := hex
        obtain ⟨h1, _, h3⟩ := hck.raw i i' o o' t ho ho' ht hd' hi hi'
        rw [hInot t fun i'' o'' hi'' ho'' ha'' hd'' => by
          have := hck.single i' i'' o' o'' t ho' ho'' hd' hd''
          subst this; rw [ho'] at ho''; cases ho''; rw [h3] at ha''; cases ha'']
        exact (fin_look hck hlen (Nat.le_of_lt hi) h1 ho' hd').symm
      · have hno : ∀ (i' : Nat) (o' : Oper), i' < n → ops[i']? = some o' → o'.dst ≠ some t := fun i' o' hi' ho' hd' => hex ⟨i', o', hi', ho', hd'⟩
        rw [hInot t fun i' o' hi' ho' _ => hno i' o' hi' ho', fin_base (j := n) fun i' o' hi' ho' _ => hno i' o' hi' ho', fin_base (j := i) fun i' o' hi' ho' _ => hno i' o' (by omega) ho']
    obtain ⟨e1, e2⟩ := exec_agree hck.noSel ho hag
    refine ⟨e.v, ?_, ?_⟩
    · rcases hst with ⟨h5, h6⟩ | ⟨h5, h6⟩
      · exact .inl ⟨by rw [e2]; exact h5, fun w hw => gives_congr e1.symm (h6 w hw)⟩
      · exact .inr ⟨by rw [e2]; exact h5, h6⟩
    · refine act_ext (fun t => ?_) (put_defers _ _ _)
      rw [put_get]
      split
      · rename_i hd
        rw [hIsz, hInot t (fun i'' o'' hi'' ho'' ha'' hd'' => by
          have := hck.single i i'' o o'' t ho ho'' hd hd''
          subst this; rw [ho] at ho''; cases ho''; rw [ha] at ha''; cases ha''), fin_val hck hlen hi ho he ha hd]
      · rfl
  · by_cases hex : ∃ (i : Nat) (o : Oper), i < n ∧ ops[i]? = some o ∧ o.dst = some t
    · obtain ⟨i, o, hi, ho, hd⟩ := hex
      have hu : listed.getD i true = true := by
        cases hu : listed.getD i true with
        | true => rfl
        | false => exact absurd hd (ht i o hi ho hu)
      by_cases ha : isAlloc o = true
      · rw [h.al t i o hi ho hd hu ha, hIat t i o hi ho ha hd]
      · have ha' : isAlloc o = false := by simpa using ha
        rw [h.val t i o hi ho hd hu ha', hInot t fun i'' o'' hi'' ho'' ha'' hd'' => by
          have := hck.single i i'' o o'' t ho ho'' hd hd''
          subst this; rw [ho] at ho''; cases ho''; exact ha ha'']
    · have hno : ∀ (i' : Nat) (o' : Oper), i' < n → ops[i']? = some o' → o'.dst ≠ some t := fun i' o' hi' ho' hd' => hex ⟨i', o', hi', ho', hd'⟩
      rw [h.none t hno, hInot t fun i' o' hi' ho' _ => hno i' o' hi' ho', fin_base (j := n) fun i' o' hi' ho' _ => hno i' o' hi' ho']
theorem ph1 {w0 : World} (hck : Checked ops f n late) (hnp : ∀ c a w, ¬ Q (.panic c) a w) (hmono : ∀ w w', S w → Below w.heap.size w w' → S w') (hlen : es.length = n) (hG : Good P ops S late 0 (ops.toList.take n) es a0)
    (hfin : ∀ w', S w' → Below w0.heap.size w0 w' → allocd w0.heap.size w' (als (ops.toList.take n) es) [] (fin (ops.toList.take n) es a0) (fun a => wpList P ops Q (ops.toList.drop n) a w')) :
    ∀ (fuel : Nat) (ptr : Nat → Nat) (listed : Array Bool) (a : Act) (w : World), Ph1 ops S n es a0 w0 ptr listed a w → cnt ops listed ≤ fuel → wpAny P .any ops Q fuel listed a w := by
  intro fuel
  induction fuel with
  | zero =>
    intro ptr listed a w h hc
    have hall := cnt_zero (Nat.le_zero.1 hc)
    exact switch hck hnp hlen hG hfin h (fun i hi hu => by rw [hall i (Nat.lt_of_lt_of_le hi hck.le)] at hu; cases hu) hc
  | succ fuel ih =>
    intro ptr listed a w h hc
    by_cases hall : ∀ i, i < n → listed.getD i true = false → late i = true
    · exact switch hck hnp hlen hG hfin h hall hc
    · have ⟨i0, h0⟩ := Classical.not_forall.1 hall
      simp only [Classical.not_imp] at h0
      obtain ⟨hi0, hu0, hl0⟩ := h0
      refine ⟨fun hr => ?_, fun j hj => ?_⟩
      · rw [ready_nil hck h.size hr i0 (Nat.lt_of_lt_of_le hi0 hck.le)] at hu0; cases hu0
      · obtain ⟨hu, o, ho, hafter⟩ := mem_ready.1 hj
        have hjl : j < ops.size := (Array.getElem?_eq_some_iff.1 ho).1
        have hrl : ∀ i, reach ops f j i = true → listed.getD i true ≠ false := fun i hi =>
          listed_not (reach_listed h.clo h.size f j i (fun o' ho' e he hb => by rw [ho] at ho'; cases ho'; exact hafter e he hb) hi)
        have hcnt : cnt ops (listed.setIfInBounds j true) ≤ fuel := by have := cnt_set h.size hjl hu; omega
        rcases Nat.lt_or_ge j n with hjn | hjn
        · obtain ⟨e, he, hst⟩ := hG.at (take_get hjn ho)
          have hjs : j < listed.size := by rw [h.size]; exact hjl
          have hset : ∀ i, (listed.setIfInBounds j true).getD i true = true → i = j ∨ listed.getD i true = true := fun i hi => by
            by_cases hij : i = j
            · exact .inl hij
            · right
              cases hx : listed.getD i true with
              | true => rfl
              | false => rw [set_listed.2 ⟨hij, hx⟩] at hi; cases hi
          have hlt0 : w0.heap.size ≤ w.heap.size := h.below.size
          by_cases ha : isAlloc o = true
          · simp only [ha, if_true] at hst
            have hwt : Region.wanted o (yielded ops a.tmps) = true := by
              unfold isAlloc at ha
              unfold Region.wanted
              cases hg : o.guard with
              | none => rfl
              | some g => rw [hg] at ha; split at ha <;> simp_all
            unfold wpOp
            simp only [ho]
            rw [if_pos hwt]
            left
            unfold Oper.wp
            rw [hst w a.eval]
            show wpAny P .any ops Q fuel _ (a.put o.dst (ptrV w.heap.size)) _
            have hcells : (w.alloc (.cells e.zs e.T)).heap[w.heap.size]? = some (.cells e.zs e.T) := by
              show (w.heap.push _)[w.heap.size]? = _
              simp
            refine ih (fun x => if x = j then w.heap.size else ptr x) _ _ _ ?_ hcnt
            refine ⟨by simpa using h.size, closed_set h.clo hj, fun i hi hil => set_listed.2 ⟨by omega, h.tail i hi hil⟩, by rw [put_size]; exact h.sz, by rw [put_defers]; exact h.df, fun t ht => ?_, fun t i oi hi hoi hd hui => ?_, fun t i oi hi hoi hd hui hai => ?_, fun t i oi hi hoi hd hui hai => ?_, ?_, ?_, fun i oi ei hi hoi hai hui hei => ?_, fun i i' oi oi' hi hi' hoi hoi' hai hai' hui hui' hne => ?_⟩
            · rw [put_get, if_neg (ht j o hjn ho)]; exact h.none t ht
            · have h3 := set_listed.1 hui
              rw [put_get, if_neg (fun hh => h3.1 (hck.single i j oi o t hoi ho hd hh))]
              exact h.not t i oi hi hoi hd h3.2
            · rcases hset i hui with rfl | h3
              · rw [ho] at hoi; cases hoi
                rw [put_get, if_pos hd, h.sz]; simp
              · have hne : i ≠ j := fun e' => by subst e'; rw [hu] at h3; cases h3
                rw [put_get, if_neg (fun hh => hne (hck.single i j oi o t hoi ho hd hh))]
                simp only [hne, if_false]
                exact h.al t i oi hi hoi hd h3 hai
            · have hne : i ≠ j := fun e' => by subst e'; rw [ho] at hoi; cases hoi; rw [ha] at hai; cases hai
              rw [put_get, if_neg (fun hh => hne (hck.single i j oi o t hoi ho hd hh))]
              exact h.val t i oi hi hoi hd ((hset i hui).resolve_left hne) hai
            · exact hmono w _ h.s ((Below.refl _ _).alloc (Nat.le_refl _) _)
            · exact h.below.alloc hlt0 _
            · rcases hset i hui with rfl | h3
              · rw [ho] at hoi; cases hoi
                rw [he] at hei; cases hei
                simp only [if_true]
                exact ⟨hlt0, hcells⟩
              · have hne : i ≠ j := fun e' => by subst e'; rw [hu] at h3; cases h3
                simp only [hne, if_false]
                have h4 := h.blk i oi ei hi hoi hai h3 hei
                refine ⟨h4.1, ?_⟩
                have hlt : ptr i < w.heap.size := (Array.getElem?_eq_some_iff.1 h4.2).1
                rw [Below.heap_alloc _ _ _ hlt]; exact h4.2
            · have hb : ∀ (k : Nat) (ok : Oper), k < n → ops[k]? = some ok → isAlloc ok = true → listed.getD k true = true → ptr k < w.heap.size := fun k ok hk hok hak hlk => by
                obtain ⟨ek, hek, _⟩ := hG.at (take_get hk hok)
                exact (Array.getElem?_eq_some_iff.1 (h.blk k ok ek hk hok hak hlk hek).2).1
              rcases hset i hui with rfl | h3
              · rcases hset i' hui' with rfl | h3'
                · exact absurd rfl hne
                · have h5 := hb i' oi' hi' hoi' hai' h3'
                  simp only [if_true, Ne.symm hne, if_false]; omega
              · rcases hset i' hui' with rfl | h3'
                · have h5 := hb i oi hi hoi hai h3
                  simp only [if_true, hne, if_false]; omega
                · have hne1 : i ≠ j := fun e' => by subst e'; rw [hu] at h3; cases h3
                  have hne2 : i' ≠ j := fun e' => by subst e'; rw [hu] at h3'; cases h3'
                  simp only [hne1, hne2, if_false]
                  exact h.dist i i' oi oi' hi hi' hoi hoi' hai hai' h3 h3' hne
          · have ha' : isAlloc o = false := by simpa using ha
            simp only [ha', Bool.false_eq_true, if_false, Nat.zero_add, take_take' (Nat.le_of_lt hjn)] at hst
            have hag : ∀ t : Nat, t ∈ o.looksAt ops → a.tmps[t]? = (fin (ops.toList.take j) es a0).tmps[t]? := fun t ht => by
              by_cases hex : ∃ (i' : Nat) (o' : Oper), i' < n ∧ ops[i']? = some o' ∧ o'.dst = some t
              · obtain ⟨i', o', hi', ho', hd'⟩ := hex
                obtain ⟨h1, h2, h3⟩ := hck.raw j i' o o' t ho ho' ht hd' hjn hi'
                rw [fin_look hck hlen (Nat.le_of_lt hjn) h1 ho' hd']
                refine h.val t i' o' hi' ho' hd' ?_ h3
                have := hrl i' h2
                simpa using this
              · have hno : ∀ (i' : Nat) (o' : Oper), i' < n → ops[i']? = some o' → o'.dst ≠ some t := fun i' o' hi' ho' hd' => hex ⟨i', o', hi', ho', hd'⟩
                rw [h.none t hno, fin_base (j := j) fun i' o' hi' ho' _ => hno i' o' (by omega) ho']
            obtain ⟨e1, e2⟩ := exec_agree hck.noSel ho hag
            have hnext : ∀ w', S w' → Below w.heap.size w w' → wpAny P .any ops Q fuel (listed.setIfInBounds j true) (a.put o.dst e.v) w' := fun w' hs' hb' => by
              refine ih ptr _ _ _ ?_ hcnt
              refine ⟨by simpa using h.size, closed_set h.clo hj, fun i hi hil => set_listed.2 ⟨by omega, h.tail i hi hil⟩, by rw [put_size]; exact h.sz, by rw [put_defers]; exact h.df, fun t ht => ?_, fun t i oi hi hoi hd hui => ?_, fun t i oi hi hoi hd hui hai => ?_, fun t i oi hi hoi hd hui hai => ?_, hs', h.below.trans (hb'.mono hlt0), fun i oi ei hi hoi hai hui hei => ?_, fun i i' oi oi' hi hi' hoi hoi' hai hai' hui hui' hne => ?_⟩
              · rw [put_get, if_neg (ht j o hjn ho)]; exact h.none t ht
              · have h3 := set_listed.1 hui
                rw [put_get, if_neg (fun hh => h3.1 (hck.single i j oi o t hoi ho hd hh))]
                exact h.not t i oi hi hoi hd h3.2
              · have hne : i ≠ j := fun e' => by subst e'; rw [ho] at hoi; cases hoi; rw [ha'] at hai; cases hai
                rw [put_get, if_neg (fun hh => hne (hck.single i j oi o t hoi ho hd hh))]
                exact h.al t i oi hi hoi hd ((hset i hui).resolve_left hne) hai
              · rcases hset i hui with rfl | h3
                · rw [ho] at hoi; cases hoi
                  rw [put_get, if_pos hd, h.sz, fin_val hck hlen hjn ho he ha' hd]
                · have hne : i ≠ j := fun e' => by subst e'; rw [hu] at h3; cases h3
                  rw [put_get, if_neg (fun hh => hne (hck.single i j oi o t hoi ho hd hh))]
                  exact h.val t i oi hi hoi hd h3 hai
              · have hne : i ≠ j := fun e' => by subst e'; rw [ho] at hoi; cases hoi; rw [ha'] at hai; cases hai
                have h4 := h.blk i oi ei hi hoi hai ((hset i hui).resolve_left hne) hei
                refine ⟨h4.1, ?_⟩
                rw [hb'.block _ (Array.getElem?_eq_some_iff.1 h4.2).1]; exact h4.2
              · have hne1 : i ≠ j := fun e' => by subst e'; rw [ho] at hoi; cases hoi; rw [ha'] at hai; cases hai
                have hne2 : i' ≠ j := fun e' => by subst e'; rw [ho] at hoi'; cases hoi'; rw [ha'] at hai'; cases hai'
                exact h.dist i i' oi oi' hi hi' hoi hoi' hai hai' ((hset i hui).resolve_left hne1) ((hset i' hui').resolve_left hne2) hne
            unfold wpOp
            simp only [ho]
            rw [e2]
            rcases hst with ⟨h5, h6⟩ | ⟨h5, h6⟩
            · rw [if_pos h5]
              left
              refine (gives_congr e1.symm (h6 w fun _ => h.s)).wp fun u w' ⟨hu', hw', hb'⟩ => ?_
              subst hu'
              exact hnext w' (hmono w w' h.s hb') hb'
            · rw [if_neg (by simp [h5])]
              rw [h6] at hnext
              exact hnext w h.s (Below.refl _ _)
        · rcases hck.order j i0 hjl hjn (by omega) with ⟨_, h2⟩ | h2
          · exact absurd h2 hl0
          · exact absurd hu0 (hrl i0 h2)
theorem getD_replicate {i : Nat} : (Array.replicate ops.size false).getD i true = false ↔ i < ops.size := by
  rcases Nat.lt_or_ge i ops.size with h | h <;> simp [h]
def NoPanic' (Q : Exit → Act → World → Prop) : Exit → Act → World → Prop
  | .panic _, _, _ => False
  | e, a, w => Q e a w
/-- **A region that draws its order: its first n operations only read, compute, allocate, or call what only makes new memory; the rest stand in a forced order.** -/
theorem wp_region_grow {id : Nat} {a : Act} {w : World} (f n : Nat) (late : Nat → Bool) (S : World → Prop) (hm : P.follows .mixedOrders = true) (hck : okRegion ops f n late = true)
    (hmono : ∀ w w', S w → Below w.heap.size w w' → S w') (hS : S w)
    (h : wpG P ops S late 0 (ops.toList.take n) a [] fun a' al => ∀ w', S w' → Below w.heap.size w w' → allocd w.heap.size w' al [] a' (fun a'' => wpList P ops (NoPanic' Q) (ops.toList.drop n) a'' w')) :
    (Code.region id ops true).wp P Q a w := by
  have hc := okRegion_spec hck
  refine Code.wp_mono (Q := NoPanic' Q) (fun e a w hh => by cases e <;> first | exact hh | exact (hh : False).elim) ?_
  refine wp_region_any hm ?_
  obtain ⟨es, hlen, hG, hfin⟩ := wpG_good _ _ _ _ _ h
  have hlen' : es.length = n := by rw [hlen]; simp [Nat.min_eq_left hc.le]
  have hb0 : Below w.heap.size w { w with drawn := w.drawn + 1 } := (Below.refl _ w).drew
  refine ph1 (Q := NoPanic' Q) (w0 := { w with drawn := w.drawn + 1 }) (es := es) (a0 := a) hc (fun c a w hh => hh) hmono hlen' hG (fun w' hs hb => by simpa using hfin w' hs (hb0.trans hb)) ops.size (fun _ => 0) _ _ _ ?_ ?_
  · have hno : ∀ i, i < ops.size → (Array.replicate ops.size false).getD i true ≠ true := fun i hi => by rw [getD_replicate.2 hi]; simp
    have hsz : ∀ {i : Nat} {o : Oper}, ops[i]? = some o → i < ops.size := fun ho => (Array.getElem?_eq_some_iff.1 ho).1
    exact ⟨by simp, fun j o ho hl => absurd hl (hno j (hsz ho)), fun j _ hj => getD_replicate.2 hj, rfl, rfl, fun _ _ => rfl, fun _ _ _ _ _ _ _ => rfl, fun t i o _ ho _ hl => absurd hl (hno i (hsz ho)), fun t i o _ ho _ hl => absurd hl (hno i (hsz ho)), hmono w _ hS hb0, Below.refl _ _, fun i o e _ ho _ hl => absurd hl (hno i (hsz ho)), fun i j o o' _ _ ho _ _ _ hl => absurd hl (hno i (hsz ho))⟩
  · unfold cnt
    exact Nat.le_trans (List.length_filter_le _ _) (by simp)
end
end
end Go.Kin
