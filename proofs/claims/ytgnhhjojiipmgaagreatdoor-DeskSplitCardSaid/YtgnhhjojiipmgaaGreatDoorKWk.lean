/- Steps of a function body on data, and contracts of the functions of the seat, walked. -/
import Derived.Test.YtgnhhjojiipmgaaGreatDoorKAttr
import Derived.Test.YtgnhhjojiipmgaaGreatDoorKNil
set_option linter.unusedSimpArgs false
set_option linter.unusedVariables false
set_option linter.unusedSectionVars false
namespace Go.Kin
open Go.RowKit
/-! ### a region that draws its order: a chain of operations, each behind the other, and operations beside it that only move data -/
def onlyD : List (Nat × SV) → List (Nat × SV)
  | [] => []
  | (t, sv) :: r => match sv with
    | .d x => (t, .d x) :: onlyD r
    | _ => delK t (onlyD r)
theorem onlyD_look (t : Nat) : ∀ (l : List (Nat × SV)), klook t (onlyD l) = match klook t l with | some (.d x) => some (.d x) | _ => none
  | [] => rfl
  | (t', sv) :: r => by
    have ih := onlyD_look t r
    by_cases h : t = t'
    · subst h
      cases sv <;> simp [onlyD, klook, look_delK]
    · cases sv <;> simp [onlyD, klook, look_delK, h, ih]
def isDat : SV → Bool
  | .d _ => true
  | _ => false
def pickO : List Nat → List Oper → List Oper
  | [], _ => []
  | i :: is, l => match l[i]? with
    | some o => o :: pickO is l
    | none => pickO is l
def okChain (ops : Array Oper) (f : Nat) (ps cs : List Nat) : Bool :=
  Region.noSelect ops && (List.range ops.size).all (fun j => ps.contains j != cs.contains j) && ps.all (fun j => decide (j < ops.size)) && cs.all (fun j => decide (j < ops.size)) &&
  ((List.range ops.size).all fun j =>
    (match ops[j]? with | some o => o.guard.isNone && o.after.toList.all (fun e => !Region.binds .any e || decide (e.on < j)) | none => true) &&
    ((List.range ops.size).all fun i => i == j || dstAt ops i == none || dstAt ops i != dstAt ops j) &&
    ((looks ops j).all fun t => (List.range ops.size).all fun i => dstAt ops i != some t || i == j || (if ps.contains j then (if ps.contains i then decide (i < j) && reach ops f j i else reach ops f i j) else (!ps.contains i || reach ops f j i))) &&
    (!ps.contains j || (looks ops j).all fun t => dstAt ops j != some t)) &&
  (List.range cs.length).all fun a => (List.range a).all fun c => reach ops f (cs.getD a 0) (cs.getD c 0)
structure ChainOk (ops : Array Oper) (f : Nat) (ps cs : List Nat) : Prop where
  noSel : ∀ (j : Nat) (o : Oper) c b, ops[j]? = some o → o.op ≠ .select c b
  cover : ∀ j, j < ops.size → (j ∈ ps ∧ j ∉ cs) ∨ (j ∈ cs ∧ j ∉ ps)
  inP : ∀ j ∈ ps, j < ops.size
  inC : ∀ j ∈ cs, j < ops.size
  guard : ∀ (j : Nat) (o : Oper), ops[j]? = some o → o.guard = none
  back : ∀ (j : Nat) (o : Oper), ops[j]? = some o → ∀ e ∈ o.after, Region.binds .any e = true → e.on < j
  single : ∀ (i j : Nat) (oi oj : Oper) (t : Tmp), ops[i]? = some oi → ops[j]? = some oj → oi.dst = some t → oj.dst = some t → i = j
  pp : ∀ (j i : Nat) (oj oi : Oper) (t : Tmp), ops[j]? = some oj → ops[i]? = some oi → t ∈ oj.looksAt ops → oi.dst = some t → j ∈ ps → i ∈ ps → i < j ∧ reach ops f j i = true
  pc : ∀ (j i : Nat) (oj oi : Oper) (t : Tmp), ops[j]? = some oj → ops[i]? = some oi → t ∈ oj.looksAt ops → oi.dst = some t → j ∈ ps → i ∈ cs → reach ops f i j = true
  cp : ∀ (j i : Nat) (oj oi : Oper) (t : Tmp), ops[j]? = some oj → ops[i]? = some oi → t ∈ oj.looksAt ops → oi.dst = some t → j ∈ cs → i ∈ ps → reach ops f j i = true
  cc : ∀ (a c i j : Nat), cs[a]? = some j → cs[c]? = some i → c < a → reach ops f j i = true
theorem okChain_spec {ops : Array Oper} {f : Nat} {ps cs : List Nat} (h : okChain ops f ps cs = true) : ChainOk ops f ps cs := by
  unfold okChain at h
  simp only [Bool.and_eq_true] at h
  obtain ⟨⟨⟨⟨⟨h0, h1⟩, h2⟩, h2'⟩, h3⟩, h4⟩ := h
  rw [List.all_eq_true] at h1 h2 h2' h3
  simp only [List.all_eq_true, List.mem_range, decide_eq_true_eq] at h2 h2' h4
  have hlt : ∀ {j : Nat} {o : Oper}, ops[j]? = some o → j < ops.size := fun ho => (Array.getElem?_eq_some_iff.1 ho).1
  have cov : ∀ j, j < ops.size → (j ∈ ps ∧ j ∉ cs) ∨ (j ∈ cs ∧ j ∉ ps) := fun j hj => by
    have := h1 j (List.mem_range.2 hj)
    by_cases hp : j ∈ ps <;> by_cases hc : j ∈ cs <;> simp_all
  have q : ∀ j, j < ops.size → (((match ops[j]? with | some o => o.guard.isNone && o.after.toList.all (fun e => !Region.binds .any e || decide (e.on < j)) | none => true) = true ∧
      (∀ i, i < ops.size → (i == j || dstAt ops i == none || dstAt ops i != dstAt ops j) = true)) ∧ (∀ t, t ∈ looks ops j → ∀ i, i < ops.size → (dstAt ops i != some t || i == j || (if ps.contains j then (if ps.contains i then decide (i < j) && reach ops f j i else reach ops f i j) else (!ps.contains i || reach ops f j i))) = true)) ∧
      (!ps.contains j || (looks ops j).all fun t => dstAt ops j != some t) = true := fun j hj => by
    have h := h3 j (List.mem_range.2 hj)
    rw [Bool.and_eq_true, Bool.and_eq_true, Bool.and_eq_true] at h
    obtain ⟨⟨⟨a1, a2⟩, a3⟩, a4⟩ := h
    rw [List.all_eq_true] at a2 a3
    exact ⟨⟨⟨a1, fun i hi => a2 i (List.mem_range.2 hi)⟩, fun t ht i hi => (List.all_eq_true.1 (a3 t ht)) i (List.mem_range.2 hi)⟩, a4⟩
  have lk : ∀ (j i : Nat) (oj oi : Oper) (t : Tmp), ops[j]? = some oj → ops[i]? = some oi → t ∈ oj.looksAt ops → oi.dst = some t → (i = j ∧ j ∉ ps) ∨ (if ps.contains j then (if ps.contains i then decide (i < j) && reach ops f j i else reach ops f i j) else (!ps.contains i || reach ops f j i)) = true := fun j i oj oi t hj hi ht hd => by
    obtain ⟨⟨_, g3⟩, g4⟩ := q j (hlt hj)
    have htl : t ∈ looks ops j := by simpa [looks, hj] using ht
    have a := g3 t htl i (hlt hi)
    have hdi : dstAt ops i = some t := by simp [dstAt, hi, hd]
    rw [hdi] at a
    simp only [bne_self_eq_false, Bool.false_or, Bool.or_eq_true, beq_iff_eq] at a
    rcases a with rfl | a
    · left
      refine ⟨rfl, fun hp => ?_⟩
      have hc : ps.contains i = true := by simpa using hp
      rw [hc] at g4
      simp only [Bool.not_true, Bool.false_or, List.all_eq_true] at g4
      have := g4 t htl
      rw [hdi] at this; simp at this
    · exact .inr a
  refine ⟨Region.noSelect_spec h0, cov, h2, h2', fun j o ho => ?_, fun j o ho e he hb => ?_, fun i j oi oj t hi hj hdi hdj => ?_, fun j i oj oi t hj hi ht hd hjp hip => ?_, fun j i oj oi t hj hi ht hd hjp hic => ?_, fun j i oj oi t hj hi ht hd hjc hip => ?_, fun a c i j ha hc hca => ?_⟩
  · obtain ⟨⟨⟨g1, _⟩, _⟩, _⟩ := q j (hlt ho)
    rw [ho] at g1
    simp only [Bool.and_eq_true, Option.isNone_iff_eq_none] at g1
    exact g1.1
  · obtain ⟨⟨⟨g1, _⟩, _⟩, _⟩ := q j (hlt ho)
    rw [ho] at g1
    simp only [Bool.and_eq_true, List.all_eq_true, Bool.or_eq_true, Bool.not_eq_true', decide_eq_true_eq] at g1
    rcases g1.2 e (by simpa using he) with h | h
    · rw [hb] at h; cases h
    · exact h
  · obtain ⟨⟨⟨_, g2⟩, _⟩, _⟩ := q j (hlt hj)
    have := g2 i (hlt hi)
    simp [dstAt, hi, hj, hdi, hdj] at this
    exact this
  · rcases lk j i oj oi t hj hi ht hd with ⟨_, h⟩ | h
    · exact (h hjp).elim
    · simpa [hjp, hip] using h
  · have hnp : i ∉ ps := fun hp => by rcases cov i (hlt hi) with ⟨_, h⟩ | ⟨_, h⟩ <;> simp_all
    rcases lk j i oj oi t hj hi ht hd with ⟨_, h⟩ | h
    · exact (h hjp).elim
    · simpa [hjp, hnp] using h
  · have hnp : j ∉ ps := fun hp => by rcases cov j (hlt hj) with ⟨_, h⟩ | ⟨_, h⟩ <;> simp_all
    rcases lk j i oj oi t hj hi ht hd with ⟨h, _⟩ | h
    · subst h; exact (hnp hip).elim
    · simpa [hnp, hip] using h
  · have hal : a < cs.length := (List.getElem?_eq_some_iff.1 ha).1
    have := h4 a hal c hca
    rw [List.getD_eq_getElem?_getD, List.getD_eq_getElem?_getD, ha, hc] at this
    exact this
section
variable {ops : Array Oper} {f : Nat} {ps cs : List Nat}
theorem ChainOk.ready (hck : ChainOk ops f ps cs) {listed : Array Bool} (hs : listed.size = ops.size) (h : Region.ready .any ops listed = []) : ∀ i, i < ops.size → listed.getD i true = true := by
  intro i
  induction i using Nat.strongRecOn with
  | _ i ih =>
    intro hi
    cases hu : listed.getD i true with
    | true => rfl
    | false =>
      obtain ⟨o, ho⟩ : ∃ o, ops[i]? = some o := ⟨ops[i], by simp [hi]⟩
      have : i ∈ Region.ready .any ops listed := mem_ready.2 ⟨hu, o, ho, fun e he hb => by
        have hlt := hck.back i o ho e he hb
        have := ih e.on hlt (by omega)
        have h3 : e.on < listed.size := by omega
        simp [h3] at this ⊢; exact this⟩
      rw [h] at this; cases this
open Classical in
/-- the state with the slots of those beside that are not done hidden -/
noncomputable def hid (ops : Array Oper) (ps : List Nat) (T : Sy) (listed : Array Bool) : Sy where
  N := T.N
  df := T.df
  S := fun t => if ∃ i, i ∈ ps ∧ dstAt ops i = some t ∧ listed.getD i true = false then none else T.S t
  L := T.L
  O := T.O
  fz := T.fz
  pin := T.pin
theorem hid_in {T : Sy} {listed : Array Bool} {t : Nat} (h : ∃ i, i ∈ ps ∧ dstAt ops i = some t ∧ listed.getD i true = false) : (hid ops ps T listed).S t = none := by simp only [hid, if_pos h]
theorem hid_out {T : Sy} {listed : Array Bool} {t : Nat} (h : ¬ ∃ i, i ∈ ps ∧ dstAt ops i = some t ∧ listed.getD i true = false) : (hid ops ps T listed).S t = T.S t := by simp only [hid, if_neg h]
theorem looks_none {ops ops' : Array Oper} {o : Oper} (h : o.guard = none) : o.looksAt ops = o.looksAt ops' := by unfold Oper.looksAt; rw [h]
theorem ok2_ops {P : Program} {C : Ctx} {ops ops' : Array Oper} {o : Oper} {s : Sy} {r : Res} (hg : o.guard = none) (h : Ok2 P C ops' o s r) : Ok2 P C ops o s r := fun s' hx => by
  have h1 := h s' ⟨hx.n, hx.df, fun t ht => hx.look t (by rw [looks_none hg (ops' := ops')]; exact ht), hx.l, hx.o⟩
  intro a w hs
  have h2 := h1 a w hs
  have e : ∀ ops : Array Oper, Region.wanted o (yielded ops a.tmps) = true := fun ops => by unfold Region.wanted; rw [hg]
  simpa only [e] using h2
end
theorem killD (dl dk : List Nat) (x : D) : kill dl dk (.d x) = .d x := by cases dl <;> cases dk <;> rfl
/-- what those beside make -/
structure PureAt (P : Program) (C : Ctx) (ops : Array Oper) (ps : List Nat) (s0 T0 : Sy) (es : Nat → D) : Prop where
  N : T0.N = s0.N
  df : T0.df = s0.df
  L : T0.L = s0.L
  O : T0.O = s0.O
  fz : T0.fz = s0.fz
  pin : T0.pin = s0.pin
  at' : ∀ i t, i ∈ ps → dstAt ops i = some t → T0.S t = some (.d (es i))
  not' : ∀ t, (¬ ∃ i, i ∈ ps ∧ dstAt ops i = some t) → T0.S t = s0.S t
  good : ∀ j o, j ∈ ps → ops[j]? = some o → ∃ S : FS, (∀ t, t ∈ o.looksAt ops → S t ≠ none → (∃ x, S t = some (.d x)) ∧ T0.S t = S t) ∧ Ok2 P C ops o ⟨s0.N, s0.df, S, fun _ => none, fun _ => none, s0.fz, s0.pin⟩ ⟨.d (es j), [], [], [], []⟩
section
variable {R : Rn} {k : List Item} {ops : Array Oper} {f : Nat} {ps cs : List Nat} {s0 T0 : Sy} {es : Nat → D}
structure CInv (ops : Array Oper) (ps cs : List Nat) (T0 : Sy) (a : Nat) (T : Sy) : Prop where
  N : T.N = T0.N
  df : T.df = T0.df
  dat : ∀ t x, T0.S t = some (.d x) → (∀ c i, cs[c]? = some i → c < a → dstAt ops i ≠ some t) → T.S t = some (.d x)
theorem chain_all {ops' : Array Oper} {kp : Nat → Bool} (hck : ChainOk ops f ps cs) (hp : PureAt R.P R.C ops ps s0 T0 es) : ∀ (fuel a : Nat) (listed : Array Bool) (T : Sy), a ≤ cs.length → listed.size = ops.size → Closed ops listed → (∀ c j, cs[c]? = some j → (listed.getD j true = false ↔ a ≤ c)) →
    CInv ops ps cs T0 a T → WalkT R.P R.C ops' (fun _ => false) kp a (pickO (cs.drop a) ops.toList) T (Exec R k) → cnt ops listed ≤ fuel → AnyW R k ops fuel listed (hid ops ps T listed) := by
  have done : ∀ {a : Nat} {listed : Array Bool} {T : Sy}, a ≤ cs.length → (∀ c j, cs[c]? = some j → (listed.getD j true = false ↔ a ≤ c)) → (∀ i, i < ops.size → listed.getD i true = true) → WalkT R.P R.C ops' (fun _ => false) kp a (pickO (cs.drop a) ops.toList) T (Exec R k) → Exec R k (hid ops ps T listed) := fun {a listed T} ha hch hall hW => by
    have e : hid ops ps T listed = T := by
      refine Sy.ext' rfl rfl (fun t => hid_out ?_) (fun _ => rfl) (fun _ => rfl) rfl rfl
      rintro ⟨i, hi, _, hu⟩
      rw [hall i (hck.inP i hi)] at hu; cases hu
    have hk : a = cs.length := by
      rcases Nat.lt_or_ge a cs.length with h | h
      · have h1 := (hch a _ (List.getElem?_eq_getElem h)).2 (Nat.le_refl _)
        rw [hall _ (hck.inC _ (List.getElem_mem h))] at h1; cases h1
      · omega
    rw [hk, List.drop_length] at hW
    rw [e]; exact hW
  intro fuel
  induction fuel with
  | zero =>
    intro a listed T ha hsz hclo hch hT hW hc
    have hall := cnt_zero (Nat.le_zero.1 hc)
    refine ⟨?_, done ha hch hall hW⟩
    cases hr : Region.ready .any ops listed with
    | nil => rfl
    | cons j js =>
      have hj : j ∈ Region.ready .any ops listed := by rw [hr]; exact List.mem_cons_self ..
      obtain ⟨hu, o, ho, _⟩ := mem_ready.1 hj
      rw [hall j (Array.getElem?_eq_some_iff.1 ho).1] at hu; cases hu
  | succ fuel ih =>
    intro a listed T ha hsz hclo hch hT hW hc
    refine ⟨fun hr => done ha hch (hck.ready hsz hr) hW, fun j hj o ho => ?_⟩
    obtain ⟨hu, o', ho', hafter⟩ := mem_ready.1 hj
    rw [ho] at ho'; cases ho'
    have hjl : j < ops.size := (Array.getElem?_eq_some_iff.1 ho).1
    have hrl : ∀ i, reach ops f j i = true → listed.getD i true ≠ false := fun i hi =>
      listed_not (reach_listed hclo hsz f j i (fun o' ho' e he hb => by rw [ho] at ho'; cases ho'; exact hafter e he hb) hi)
    have hcnt : cnt ops (listed.setIfInBounds j true) ≤ fuel := by have := cnt_set hsz hjl hu; omega
    have hclo' := closed_set hclo hj
    have hsz' : (listed.setIfInBounds j true).size = ops.size := by simpa using hsz
    have hg := hck.guard j o ho
    rcases hck.cover j hjl with ⟨hjp, hjc⟩ | ⟨hjc, hjp⟩
    · -- one beside
      obtain ⟨S, hS, hok⟩ := hp.good j o hjp ho
      have hlook : ∀ t, t ∈ o.looksAt ops → S t ≠ none → (hid ops ps T listed).S t = S t := fun t ht hne => by
        obtain ⟨⟨x, hx⟩, h0⟩ := hS t ht hne
        rw [hid_out]
        · rw [hx]
          rw [hx] at h0
          refine hT.dat t x h0 fun c i hci hca hd => ?_
          obtain ⟨oi, hoi, hdi⟩ := dstAt_some hd
          have h1 := hck.pc j i o oi t ho hoi ht hdi hjp (List.mem_of_getElem? hci)
          have hdone : listed.getD i true = true := by
            cases hx : listed.getD i true with
            | true => rfl
            | false => have := (hch c i hci).1 hx; omega
          have h3 := reach_listed hclo hsz f i j (fun o' ho' e' he' hb' => hclo i o' ho' hdone e' he' hb') h1
          exact listed_not h3 hu
        · rintro ⟨i, hi, hd, hu'⟩
          obtain ⟨oi, hoi, hdi⟩ := dstAt_some hd
          exact hrl i (hck.pp j i o oi t ho hoi ht hdi hjp hi).2 hu'
      have happ : apply o.dst ⟨.d (es j), [], [], [], []⟩ (hid ops ps T listed) = hid ops ps T (listed.setIfInBounds j true) := by
        refine Sy.ext' rfl rfl (fun t => ?_) (fun t => ?_) (fun t => ?_) rfl rfl
        · simp only [apply]
          by_cases hdt : o.dst = some t
          · rw [if_pos hdt, hid_out]
            · have h0 := hp.at' j t hjp (dstAt_of ho hdt)
              refine (hT.dat t _ h0 fun c i hci hca hd => ?_).symm
              obtain ⟨oi, hoi, hdi⟩ := dstAt_some hd
              have := hck.single i j oi o t hoi ho hdi hdt
              subst this
              exact hjc (List.mem_of_getElem? hci)
            · rintro ⟨i, hi, hd, hu'⟩
              obtain ⟨oi, hoi, hdi⟩ := dstAt_some hd
              have := hck.single i j oi o t hoi ho hdi hdt
              subst this
              exact (set_listed.1 hu').1 rfl
          · rw [if_neg hdt]
            have hiff : (∃ i, i ∈ ps ∧ dstAt ops i = some t ∧ (listed.setIfInBounds j true).getD i true = false) ↔ (∃ i, i ∈ ps ∧ dstAt ops i = some t ∧ listed.getD i true = false) := by
              constructor
              · rintro ⟨i, h1, h2, h3⟩; exact ⟨i, h1, h2, (set_listed.1 h3).2⟩
              · rintro ⟨i, h1, h2, h3⟩
                refine ⟨i, h1, h2, set_listed.2 ⟨fun e' => ?_, h3⟩⟩
                subst e'
                obtain ⟨o', h4, h5⟩ := dstAt_some h2
                rw [ho] at h4; cases h4
                exact hdt h5
            by_cases hex : ∃ i, i ∈ ps ∧ dstAt ops i = some t ∧ listed.getD i true = false
            · rw [hid_in hex, hid_in (hiff.2 hex)]; first | done | rfl
            · rw [hid_out hex, hid_out (fun h => hex (hiff.1 h))]
              cases T.S t <;> simp [kill_nil]
        · rw [apply_slot_L]; rfl
        · rw [apply_slot_O]; rfl
      refine .inl ⟨_, ?_, ih a _ T ha hsz' hclo' (fun c i hci => ?_) hT hW hcnt⟩
      · rw [← happ]
        exact hok _ ⟨hT.N.trans hp.N, hT.df.trans hp.df, hlook, fun key h => (h rfl).elim, fun key h => (h rfl).elim⟩
      · rw [set_listed, hch c i hci]
        exact ⟨fun h => h.2, fun h => ⟨fun e => by subst e; exact hjc (List.mem_of_getElem? hci), h⟩⟩
    · -- the chain goes on
      obtain ⟨c, hcl, hcj⟩ := List.getElem_of_mem hjc
      have hcj' : cs[c]? = some j := by rw [List.getElem?_eq_getElem hcl, hcj]
      have hac : a ≤ c := (hch c j hcj').1 hu
      have hca : c = a := by
        rcases Nat.lt_or_ge a c with h | h
        · have hal : a < cs.length := by omega
          have h1 := hck.cc c a _ j hcj' (List.getElem?_eq_getElem hal) h
          exact absurd ((hch a _ (List.getElem?_eq_getElem hal)).2 (Nat.le_refl _)) (hrl _ h1)
        · omega
      subst hca
      have hdrop : cs.drop c = j :: cs.drop (c + 1) := by rw [List.drop_eq_getElem_cons hcl, hcj]
      have hol : ops.toList[j]? = some o := by simpa using ho
      rw [hdrop] at hW
      simp only [pickO, hol] at hW
      obtain ⟨r, hok, _, hW'⟩ := hW
      have hlook : ∀ t, t ∈ o.looksAt ops → T.S t ≠ none → (hid ops ps T listed).S t = T.S t := fun t ht _ => by
        refine hid_out ?_
        rintro ⟨i, hi, hd, hu'⟩
        obtain ⟨oi, hoi, hdi⟩ := dstAt_some hd
        exact hrl i (hck.cp j i o oi t ho hoi ht hdi hjc hi) hu'
      have happ : apply o.dst r (hid ops ps T listed) = hid ops ps (apply o.dst r T) (listed.setIfInBounds j true) := by
        refine Sy.ext' rfl rfl (fun t => ?_) (fun t => rfl) (fun t => rfl) rfl rfl
        have hiff : (∃ i, i ∈ ps ∧ dstAt ops i = some t ∧ (listed.setIfInBounds j true).getD i true = false) ↔ (∃ i, i ∈ ps ∧ dstAt ops i = some t ∧ listed.getD i true = false) := by
          constructor
          · rintro ⟨i, h1, h2, h3⟩; exact ⟨i, h1, h2, (set_listed.1 h3).2⟩
          · rintro ⟨i, h1, h2, h3⟩; exact ⟨i, h1, h2, set_listed.2 ⟨fun e' => by subst e'; exact hjp h1, h3⟩⟩
        by_cases hex : ∃ i, i ∈ ps ∧ dstAt ops i = some t ∧ listed.getD i true = false
        · rw [hid_in (hiff.2 hex)]
          obtain ⟨i, hi, hd, hu'⟩ := hex
          have hne : o.dst ≠ some t := fun hdt => by
            obtain ⟨oi, hoi, hdi⟩ := dstAt_some hd
            have := hck.single i j oi o t hoi ho hdi hdt
            subst this; exact hjp hi
          simp only [apply, if_neg hne]
          rw [hid_in ⟨i, hi, hd, hu'⟩]; first | done | rfl
        · rw [hid_out (fun h => hex (hiff.1 h))]
          simp only [apply]
          rw [hid_out hex]
      refine .inl ⟨hid ops ps (apply o.dst r T) (listed.setIfInBounds j true), (by rw [← happ]; exact (ok2_ops hg hok) _ ⟨rfl, rfl, hlook, fun _ _ => rfl, fun _ _ => rfl⟩), ih (c + 1) _ (apply o.dst r T) (by omega) hsz' hclo' (fun b i hbi => ?_) ⟨hT.N, hT.df, fun t x h0 hn => ?_⟩ hW' hcnt⟩
      · rw [set_listed, hch b i hbi]
        constructor
        · rintro ⟨h1, h2⟩
          rcases Nat.lt_or_ge c b with h | h
          · exact h
          · have : b = c := by omega
            subst this
            rw [hcj'] at hbi; cases hbi; exact (h1 rfl).elim
        · intro h
          refine ⟨fun e => ?_, by omega⟩
          subst e
          have h1 := hck.cc b c _ i hbi hcj' (by omega)
          exact hrl i h1 hu
      · have hne : o.dst ≠ some t := fun hdt => hn c j hcj' (by omega) (dstAt_of ho hdt)
        have := hT.dat t x h0 (fun b i hbi hb => hn b i hbi (by omega))
        simp only [apply, if_neg hne, this, Option.map_some]
        rw [killD]
end
/-- those beside, one by one: only data are looked at, only data are made -/
def runPX (te : TE) (st : Stt) : List Oper → Option (SV × Prop) → Oper → List (Nat × SV) → List (Nat × SV) → (List (Nat × SV) → Prop) → Prop
  | [], x, o, _, acc, Q => match x with
    | some (.d e, ob) => ob ∧ Q (putS o.dst (.d e) acc)
    | _ => False
  | o' :: r, x, o, Sd, acc, Q => match x with
    | some (.d e, ob) => ob ∧ runPX te st r (pureR (stepO te ⟨st.N, st.df, putS o.dst (.d e) Sd, [], [], st.fz, st.pin⟩ o')) o' (putS o.dst (.d e) Sd) (putS o.dst (.d e) acc) Q
    | _ => False
def runP (te : TE) (st : Stt) (l : List Oper) (Sd acc : List (Nat × SV)) (Q : List (Nat × SV) → Prop) : Prop := match l with
  | [] => Q acc
  | o :: r => runPX te st r (pureR (stepO te ⟨st.N, st.df, Sd, [], [], st.fz, st.pin⟩ o)) o Sd acc Q
section
variable {te : TE} {st : Stt} {o o' : Oper} {r : List Oper} {Sd acc : List (Nat × SV)} {Q : List (Nat × SV) → Prop} {e : D} {ob : Prop}
theorem runP_nil : runP te st [] Sd acc Q = Q acc := rfl
theorem runP_cons : runP te st (o :: r) Sd acc Q = runPX te st r (pureR (stepO te ⟨st.N, st.df, Sd, [], [], st.fz, st.pin⟩ o)) o Sd acc Q := rfl
theorem runPX_nil : runPX te st [] (some (.d e, ob)) o Sd acc Q = (ob ∧ Q (putS o.dst (.d e) acc)) := rfl
theorem runPX_cons : runPX te st (o' :: r) (some (.d e, ob)) o Sd acc Q = (ob ∧ runPX te st r (pureR (stepO te ⟨st.N, st.df, putS o.dst (.d e) Sd, [], [], st.fz, st.pin⟩ o')) o' (putS o.dst (.d e) Sd) (putS o.dst (.d e) acc) Q) := rfl
theorem runPX_some {x : Option (SV × Prop)} (h : runPX te st r x o Sd acc Q) : ∃ e ob, x = some (.d e, ob) ∧ ob ∧ runP te st r (putS o.dst (.d e) Sd) (putS o.dst (.d e) acc) Q := by
  cases r with
  | nil =>
    simp only [runPX] at h
    split at h
    · exact ⟨_, _, rfl, h.1, h.2⟩
    · exact h.elim
  | cons o' r =>
    simp only [runPX] at h
    split at h
    · exact ⟨_, _, rfl, h.1, h.2⟩
    · exact h.elim
end
section
variable {P : Program} {C : Ctx} {te : TE} {ops : Array Oper} {f : Nat} {ps cs : List Nat} {st : Stt}
structure RInv (ops : Array Oper) (dn : List Nat) (st : Stt) (Sd acc : List (Nat × SV)) (es : Nat → D) : Prop where
  sd : ∀ t, klook t Sd = match klook t acc with | some v => some v | none => klook t (onlyD st.S)
  at' : ∀ i t, i ∈ dn → dstAt ops i = some t → klook t acc = some (.d (es i))
  not' : ∀ t, (¬ ∃ i, i ∈ dn ∧ dstAt ops i = some t) → klook t acc = none
theorem runP_spec (hte : TEok P te) (hck : ChainOk ops f ps cs) (hsort : ps.Pairwise (· < ·)) {Q : List (Nat × SV) → Prop} : ∀ (rest dn : List Nat) (Sd acc : List (Nat × SV)) (es : Nat → D), ps = dn ++ rest → RInv ops dn st Sd acc es → runP te st (pickO rest ops.toList) Sd acc Q →
    ∃ (acc' : List (Nat × SV)) (es' : Nat → D), Q acc' ∧ (∀ i ∈ dn, es' i = es i) ∧ (∀ i t, i ∈ ps → dstAt ops i = some t → klook t acc' = some (.d (es' i))) ∧ (∀ t, (¬ ∃ i, i ∈ ps ∧ dstAt ops i = some t) → klook t acc' = none) ∧
      ∀ j o, j ∈ rest → ops[j]? = some o → ∃ S : FS, (∀ t, t ∈ o.looksAt ops → S t ≠ none → (∃ x, S t = some (.d x)) ∧ (match klook t acc' with | some v => some v | none => klook t st.S) = S t) ∧
        Ok2 P C ops o ⟨st.N, st.df, S, fun _ => none, fun _ => none, st.fz, st.pin⟩ ⟨.d (es' j), [], [], [], []⟩
  | [], dn, Sd, acc, es, hps, hi, h => by
    simp only [List.append_nil] at hps
    subst hps
    exact ⟨acc, es, h, fun _ _ => rfl, hi.at', hi.not', fun j o hj => by cases hj⟩
  | j :: rest, dn, Sd, acc, es, hps, hi, h => by
    have hjp : j ∈ ps := by rw [hps]; simp
    have hjl := hck.inP j hjp
    obtain ⟨o, ho⟩ : ∃ o, ops[j]? = some o := ⟨ops[j], by simp [hjl]⟩
    have hol : ops.toList[j]? = some o := by simpa using ho
    simp only [pickO, hol] at h
    rw [runP_cons] at h
    obtain ⟨e, ob, hx, hob, h⟩ := runPX_some h
    have hx' := pureR_some hx
    have hok1 := stepO_ok (C := C) hte hx' hob
    have hg := hck.guard j o ho
    have hok := ok2_run (ops := ops) hok1 (by simp [wantS, hg])
    have hjd : j ∉ dn := fun hd => by
      rw [hps] at hsort
      have := (List.pairwise_append.1 hsort).2.2 j hd j (by simp)
      omega
    have hbefore : ∀ i, i ∈ ps → i < j → i ∈ dn := fun i hip hij => by
      rw [hps] at hip
      rcases List.mem_append.1 hip with h1 | h1
      · exact h1
      · rcases List.mem_cons.1 h1 with rfl | h1
        · omega
        · rw [hps] at hsort
          have := (List.pairwise_cons.1 (List.pairwise_append.1 hsort).2.1).1 i h1
          omega
    let es1 : Nat → D := fun i => if i = j then e else es i
    have hi1 : RInv ops (dn ++ [j]) st (putS o.dst (.d e) Sd) (putS o.dst (.d e) acc) es1 := by
      refine ⟨fun t => ?_, fun i t hid hd => ?_, fun t hn => ?_⟩
      · rw [look_putS, look_putS]
        by_cases ht : o.dst = some t
        · simp [ht]
        · simp only [if_neg ht]; exact hi.sd t
      · rw [look_putS]
        rcases List.mem_append.1 hid with h1 | h1
        · have hne : i ≠ j := fun e' => hjd (e' ▸ h1)
          have hnd : o.dst ≠ some t := fun hdt => by
            obtain ⟨oi, hoi, hdi⟩ := dstAt_some hd
            exact hne (hck.single i j oi o t hoi ho hdi hdt)
          rw [if_neg hnd]
          simp only [es1, if_neg hne]
          exact hi.at' i t h1 hd
        · simp at h1; subst h1
          obtain ⟨oi, hoi, hdi⟩ := dstAt_some hd
          rw [ho] at hoi; cases hoi
          simp [hdi, es1]
      · rw [look_putS]
        have hnd : o.dst ≠ some t := fun hdt => hn ⟨j, by simp, dstAt_of ho hdt⟩
        rw [if_neg hnd]
        exact hi.not' t fun ⟨i, h1, h2⟩ => hn ⟨i, by simp [h1], h2⟩
    obtain ⟨acc', es', q1, q2, q3, q4, q5⟩ := runP_spec hte hck hsort rest (dn ++ [j]) _ _ es1 (by rw [hps]; simp) hi1 h
    refine ⟨acc', es', q1, fun i hid => ?_, q3, q4, fun j' o' hj' ho' => ?_⟩
    · have hne : i ≠ j := fun e' => hjd (e' ▸ hid)
      rw [q2 i (by simp [hid])]; simp only [es1, if_neg hne]
    · rcases List.mem_cons.1 hj' with rfl | hj'
      · rw [ho] at ho'; cases ho'
        have hej : es' j' = e := by rw [q2 j' (by simp)]; simp [es1]
        rw [hej]
        refine ⟨fun t => klook t Sd, fun t ht hne => ?_, hok⟩
        have hsd := hi.sd t
        cases hacc : klook t acc with
        | some v =>
          rw [hacc] at hsd
          have hex : ∃ i, i ∈ dn ∧ dstAt ops i = some t := by
            refine Classical.byContradiction fun hn => ?_
            rw [hi.not' t hn] at hacc; cases hacc
          obtain ⟨i, h1, h2⟩ := hex
          have hv := hi.at' i t h1 h2
          rw [hacc] at hv; cases hv
          have hip : i ∈ ps := by rw [hps]; simp [h1]
          refine ⟨⟨es i, hsd⟩, ?_⟩
          have hne' : i ≠ j' := fun e' => hjd (e' ▸ h1)
          have h6 := q2 i (by simp [h1])
          simp only [es1, if_neg hne'] at h6
          rw [q3 i t hip h2, h6]
          exact hsd.symm
        | none =>
          rw [hacc] at hsd
          simp only at hsd
          rw [onlyD_look] at hsd
          have hnot : ¬ ∃ i, i ∈ ps ∧ dstAt ops i = some t := by
            rintro ⟨i, h1, h2⟩
            obtain ⟨oi, hoi, hdi⟩ := dstAt_some h2
            obtain ⟨h3, _⟩ := hck.pp j' i o oi t ho hoi ht hdi hjp h1
            have := hi.at' i t (hbefore i h1 h3) h2
            rw [hacc] at this; cases this
          rw [q4 t hnot]
          cases hst : klook t st.S with
          | none => rw [hst] at hsd; exact (hne hsd).elim
          | some v =>
            rw [hst] at hsd
            cases v with
            | d x => exact ⟨⟨x, hsd⟩, hsd.symm⟩
            | _ => exact (hne hsd).elim
      · exact q5 j' o' hj' ho'
theorem Exec.chain {P : Program} {b : Frame} {fs : List Frame} {T : Machine → Prop} {C : Ctx} {k : List Item} {te : TE} {id : Nat} {ops : Array Oper} {st st' : Stt} (f : Nat) (ps cs : List Nat) (hte : TEok P te) (hm : P.follows .mixedOrders = true) (hck : okChain ops f ps cs = true) (hsort : ps.Pairwise (· < ·))
    (h : ∀ (ops' : Array Oper) (Q : Sy → Prop), ops'.toList = pickO cs ops.toList → Q st'.sy → runP te st (pickO ps ops.toList) (onlyD st.S) [] fun acc => runT P C te ops' (fun _ => false) [] 0 [] (pickO cs ops.toList) ⟨st.N, st.df, acc ++ st.S, st.L, st.O, st.fz, st.pin⟩ Q) (hk : Exec ⟨P, b, fs, T, C⟩ k st'.sy) : Exec ⟨P, b, fs, T, C⟩ (.code (.region id ops true) :: k) st.sy := by
  have hc := okChain_spec hck
  let ops' : Array Oper := (pickO cs ops.toList).toArray
  obtain ⟨acc, es, h1, _, h3, h4, h5⟩ := runP_spec (C := C) hte hc hsort ps [] _ _ (fun _ => .v undef) rfl ⟨fun t => rfl, fun i t hi _ => (nomatch hi), fun t _ => rfl⟩ (h ops' (Exec ⟨P, b, fs, T, C⟩ k) rfl hk)
  have hW := runT_walk hte h1 GInv.nil (by simp [ops'])
  have hp : PureAt P C ops ps st.sy (Stt.mk st.N st.df (acc ++ st.S) st.L st.O st.fz st.pin).sy es := by
    refine ⟨rfl, rfl, rfl, rfl, rfl, rfl, fun i t hi hd => ?_, fun t hn => ?_, fun j o hj ho => ?_⟩
    · simp only [Stt.sy, look_append, h3 i t hi hd]
    · simp only [Stt.sy, look_append, h4 t hn]
    · obtain ⟨S, hS, hok⟩ := h5 j o hj ho
      exact ⟨S, fun t ht hne => ⟨(hS t ht hne).1, by
        have h6 := (hS t ht hne).2
        simp only [Stt.sy, look_append]
        revert h6
        cases klook t acc <;> exact fun h => h⟩, hok⟩
  have hA := chain_all (R := ⟨P, b, fs, T, C⟩) (k := k) (f := f) (cs := cs) hc hp ops.size 0 (Array.replicate ops.size false) _ (Nat.zero_le _) (by simp) (fun j o ho hl => by
      have hjl : j < ops.size := (Array.getElem?_eq_some_iff.1 ho).1
      simp [hjl] at hl) (fun c j hcj => ⟨fun _ => Nat.zero_le _, fun _ => getD_replicate.2 (hc.inC j (List.mem_of_getElem? hcj))⟩) ⟨rfl, rfl, fun t x h0 _ => h0⟩ (by simpa using hW) (by
      unfold cnt
      exact Nat.le_trans (List.length_filter_le _ _) (by simp))
  intro a w hs
  refine exec_draw hm hA a w (Sat.less (s := st.sy) rfl rfl (fun t sv ht => ?_) (fun t e ht => ht) (fun _ _ h => h) rfl rfl hs)
  by_cases hx : ∃ i, i ∈ ps ∧ dstAt ops i = some t ∧ (Array.replicate ops.size false).getD i true = false
  · rw [hid_in hx] at ht; cases ht
  · rw [hid_out hx] at ht
    have hnot : ¬ ∃ i, i ∈ ps ∧ dstAt ops i = some t := fun ⟨i, h1, h2⟩ => hx ⟨i, h1, h2, getD_replicate.2 (hc.inP i h1)⟩
    rw [hp.not' t hnot] at ht; exact ht
end
attribute [go_sem] runP_nil runP_cons runPX_nil runPX_cons onlyD pickO
end Go.Kin
namespace Go.Kin
/-! ### a walk within a walk: boxes forgotten, names changed twice -/
theorem Sat.weakL {C : Ctx} {s : Stt} {L' : List (Nat × TypeId × List SV)} {a : Act} {w : World} (hL : LeL s.L L') (h : Sat C s.sy a w) : Sat C (Stt.mk s.N s.df s.S L' s.O s.fz s.pin).sy a w := by
  obtain ⟨E, hE⟩ := h
  refine ⟨E, hE.sz, hE.df, hE.slots, ⟨hE.hp.bel, hE.hp.z, fun key T cs hk => ?_, fun key e hk => ?_, fun key key' e e' hk hk' heq => ?_, hE.hp.own, fun key e g hk hg => ?_, hE.hp.ownD⟩, fun b o hb => ?_, hE.waits⟩
  · obtain ⟨xs, h1, h2⟩ := LeL_look hL hk
    obtain ⟨vs, h3, h4⟩ := hE.hp.loc key T xs h1
    exact ⟨vs, h3, h2.den h4⟩
  · obtain ⟨T, ys⟩ := e
    obtain ⟨xs, h1, h2⟩ := LeL_look hL hk
    exact hE.hp.locN key _ h1
  · obtain ⟨T, ys⟩ := e
    obtain ⟨T', ys'⟩ := e'
    obtain ⟨xs, h1, _⟩ := LeL_look hL hk
    obtain ⟨xs', h1', _⟩ := LeL_look hL hk'
    exact hE.hp.locD key key' _ _ h1 h1' heq
  · have h2 := hE.hp.ownN key e g hk hg
    refine ⟨h2.1, h2.2.1, fun key' e' hk' => ?_⟩
    obtain ⟨T, ys⟩ := e'
    obtain ⟨xs, h3, _⟩ := LeL_look hL hk'
    exact h2.2.2 key' _ h3
  · obtain ⟨p1, p2, p3, p4, p5⟩ := hE.pins b o hb
    refine ⟨p1, p2, p3, fun key e he => ?_, p5⟩
    obtain ⟨T, ys⟩ := e
    obtain ⟨xs, h3, _⟩ := LeL_look hL he
    exact p4 key _ h3
theorem Exec.weakL {R : Rn} {k : List Item} {s : Stt} (L' : List (Nat × TypeId × List SV)) (hL : LeL s.L L') (h : Exec R k (Stt.mk s.N s.df s.S L' s.O s.fz s.pin).sy) : Exec R k s.sy :=
  fun a w hs => h a w (hs.weakL hL)
mutual
theorem renV_renV (π : Swp) : ∀ sv : SV, renV π (renV π sv) = sv
  | .d d => rfl
  | .lp k o => by simp [renV, π.inv]
  | .own k => by simp [renV, π.inv]
  | .oa k a b c => by simp [renV, π.inv]
  | .fn f cs => by simp [renV, renL_renL π cs]
  | .op p sv => by simp [renV, renV_renV π sv]
  | .mv f cs => by simp [renV, renL_renL π cs]
  | .sg cs => by simp [renV, renL_renL π cs]
  | .junk => rfl
theorem renL_renL (π : Swp) : ∀ l : List SV, renL π (renL π l) = l
  | [] => rfl
  | x :: r => by simp [renL, renV_renV π x, renL_renL π r]
end
theorem renS_renS (π : Swp) : ∀ l : List (Nat × SV), renS π (renS π l) = l
  | [] => rfl
  | (t, v) :: r => by simp [renS, renV_renV, renS_renS π r]
theorem renF_renF (π : Swp) : ∀ l : List (Act × List (Nat × SV)), renF π (renF π l) = l
  | [] => rfl
  | (a, S) :: r => by simp [renF, renS_renS, renF_renF π r]
end Go.Kin
