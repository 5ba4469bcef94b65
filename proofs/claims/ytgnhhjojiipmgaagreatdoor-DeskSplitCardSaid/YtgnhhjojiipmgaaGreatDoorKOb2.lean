/- Steps of a function body on data, and contracts of the functions of the seat, walked. -/
import Derived.Test.YtgnhhjojiipmgaaGreatDoorKPan
import Derived.Test.YtgnhhjojiipmgaaGreatDoorKWk
import Derived.Test.YtgnhhjojiipmgaaGreatDoorKAttr
set_option linter.unusedSimpArgs false
set_option linter.unusedVariables false
set_option linter.unusedSectionVars false
namespace Go.Kin
open Go.RowKit
/-! ### a region that draws its order: operations that are not ordered do not meddle with each other -/
structure It where
  i : Nat
  o : Oper
  T : Sy
  W : List Nat
  r : Res
/-- a state has what an operation looks at; of the slices of a list it is asked only that they are there -/
def ExtW (ops : Array Oper) (o : Oper) (T : Sy) (W : List Nat) (s : Sy) : Prop := ExtG ops o T s ∧ ∀ k ∈ W, s.O k ≠ none
def Ok2W (P : Program) (C : Ctx) (ops : Array Oper) (o : Oper) (T : Sy) (W : List Nat) (r : Res) : Prop := ∀ s', ExtW ops o T W s' → OpTo P C ops o s' (apply o.dst r s')
/-- one behind the other; each looks at a part of the state alone -/
def RunF (P : Program) (C : Ctx) (ops : Array Oper) : List It → Sy → (Sy → Prop) → Prop
  | [], s, Q => Q s
  | x :: l, s, Q => Ok2W P C ops x.o x.T x.W x.r ∧ ExtW ops x.o x.T x.W s ∧ RunF P C ops l (apply x.o.dst x.r s) Q
/-- what an operation looks at is left alone -/
structure Off (ops : Array Oper) (x : It) (o : Oper) (T : Sy) : Prop where
  dl : x.r.dl = []
  dk : x.r.dk = []
  dst : ∀ t, x.o.dst = some t → t ∉ o.looksAt ops
  l : ∀ key, klook key x.r.nl ≠ none → T.L key = none
  o : ∀ key, klook key x.r.no ≠ none → T.O key = none
structure Com (ops : Array Oper) (x y : It) : Prop where
  xy : Off ops x y.o y.T
  yx : Off ops y x.o x.T
  d : ∀ t, x.o.dst = some t → y.o.dst ≠ some t
  l : ∀ key, klook key x.r.nl ≠ none → klook key y.r.nl = none
  o : ∀ key, klook key x.r.no ≠ none → klook key y.r.no = none
  w : ∀ key ∈ y.W, klook key x.r.no ≠ none → x.T.O key ≠ none
section
variable {d : Option Tmp} {r : Res} {s : Sy}
theorem apply0_S (h1 : r.dl = []) (h2 : r.dk = []) (t : Nat) : (apply d r s).S t = if d = some t then some r.sv else s.S t := by
  simp only [apply, h1, h2]
  split
  · rfl
  · cases s.S t <;> simp [kill_nil]
theorem apply0_L (h1 : r.dl = []) (h2 : r.dk = []) (key : Nat) : (apply d r s).L key = match klook key r.nl with | some e => some e | none => s.L key := by
  simp only [apply, h1, h2, killE_nil, List.contains_nil, Bool.false_eq_true, if_false]
  cases klook key r.nl <;> rfl
theorem apply0_O (h1 : r.dl = []) (key : Nat) : (apply d r s).O key = match klook key r.no with | some e => some e | none => s.O key := by
  simp only [apply, h1, List.contains_nil, Bool.false_eq_true, if_false]
  cases klook key r.no <;> rfl
theorem apply0_fz (h1 : r.dl = []) (h2 : r.dk = []) : (apply d r s).fz = s.fz := by simp [apply, h1, h2, killF]
end
section
variable {P : Program} {C : Ctx} {ops : Array Oper} {x y : It} {o : Oper} {T s : Sy} {Q : Sy → Prop}
theorem Off.none_l (h : Off ops x o T) {key : Nat} (hk : T.L key ≠ none) : klook key x.r.nl = none := by
  cases hx : klook key x.r.nl with
  | none => rfl
  | some e => exact (hk (h.l key (by rw [hx]; simp))).elim
theorem Off.none_o (h : Off ops x o T) {key : Nat} (hk : T.O key ≠ none) : klook key x.r.no = none := by
  cases hx : klook key x.r.no with
  | none => rfl
  | some e => exact (hk (h.o key (by rw [hx]; simp))).elim
theorem Off.iff (h : Off ops x o T) : ExtG ops o T (apply x.o.dst x.r s) ↔ ExtG ops o T s := by
  have e1 : ∀ t, t ∈ o.looksAt ops → (apply x.o.dst x.r s).S t = s.S t := fun t ht => by
    rw [apply0_S h.dl h.dk, if_neg]; exact fun e => h.dst t e ht
  have e2 : ∀ key, T.L key ≠ none → (apply x.o.dst x.r s).L key = s.L key := fun key hk => by
    rw [apply0_L h.dl h.dk, h.none_l hk]
  have e3 : ∀ key, T.O key ≠ none → (apply x.o.dst x.r s).O key = s.O key := fun key hk => by
    rw [apply0_O h.dl, h.none_o hk]
  exact ⟨fun g => ⟨g.n, g.df, fun t ht hne => (e1 t ht).symm.trans (g.look t ht hne), fun key hk => (e2 key hk).symm.trans (g.l key hk), fun key hk => (e3 key hk).symm.trans (g.o key hk)⟩,
    fun g => ⟨g.n, g.df, fun t ht hne => (e1 t ht).trans (g.look t ht hne), fun key hk => (e2 key hk).trans (g.l key hk), fun key hk => (e3 key hk).trans (g.o key hk)⟩⟩
theorem Com.back (h : Com ops x y) (hx : ExtG ops x.o x.T s) (hy : ExtW ops y.o y.T y.W (Kin.apply x.o.dst x.r s)) : ExtW ops y.o y.T y.W s := by
  refine ⟨h.xy.iff.1 hy.1, fun k hk => ?_⟩
  have h1 := hy.2 k hk
  rw [apply0_O h.xy.dl] at h1
  cases h2 : klook k x.r.no with
  | none => rw [h2] at h1; exact h1
  | some e =>
    have h3 := h.w k hk (by rw [h2]; simp)
    rw [hx.o k h3]; exact h3
theorem Com.fwd (h : Com ops x y) (hx : ExtW ops x.o x.T x.W s) : ExtW ops x.o x.T x.W (Kin.apply y.o.dst y.r s) := by
  refine ⟨h.yx.iff.2 hx.1, fun k hk => ?_⟩
  rw [apply0_O h.yx.dl]
  cases h2 : klook k y.r.no with
  | none => exact hx.2 k hk
  | some e => simp
theorem Com.apply (h : Com ops x y) : Kin.apply y.o.dst y.r (Kin.apply x.o.dst x.r s) = Kin.apply x.o.dst x.r (Kin.apply y.o.dst y.r s) := by
  refine Sy.ext' rfl rfl (fun t => ?_) (fun key => ?_) (fun key => ?_) ?_ rfl
  · rw [apply0_S h.yx.dl h.yx.dk, apply0_S h.xy.dl h.xy.dk, apply0_S h.xy.dl h.xy.dk, apply0_S h.yx.dl h.yx.dk]
    by_cases h1 : x.o.dst = some t
    · have := h.d t h1
      rw [if_neg this, if_pos h1, if_pos h1]
    · rw [if_neg h1, if_neg h1]
  · rw [apply0_L h.yx.dl h.yx.dk, apply0_L h.xy.dl h.xy.dk, apply0_L h.xy.dl h.xy.dk, apply0_L h.yx.dl h.yx.dk]
    cases h1 : klook key x.r.nl with
    | none => rfl
    | some e => rw [h.l key (by rw [h1]; simp)]
  · rw [apply0_O h.yx.dl, apply0_O h.xy.dl, apply0_O h.xy.dl, apply0_O h.yx.dl]
    cases h1 : klook key x.r.no with
    | none => rfl
    | some e => rw [h.o key (by rw [h1]; simp)]
  · rw [apply0_fz h.yx.dl h.yx.dk, apply0_fz h.xy.dl h.xy.dk, apply0_fz h.xy.dl h.xy.dk, apply0_fz h.yx.dl h.yx.dk]
theorem RunF.swap {l : List It} (hc : Com ops x y) (h : RunF P C ops (x :: y :: l) s Q) : RunF P C ops (y :: x :: l) s Q := by
  obtain ⟨h1, h2, h3, h4, h5⟩ := h
  refine ⟨h3, hc.back h2.1 h4, h1, hc.fwd h2, ?_⟩
  rw [← hc.apply]; exact h5
theorem RunF.bubble {l : List It} : ∀ {pre : List It} {s : Sy}, (∀ x ∈ pre, Com ops x y) → RunF P C ops (pre ++ y :: l) s Q → RunF P C ops (y :: (pre ++ l)) s Q
  | [], s, _, h => h
  | x :: pre, s, hc, h => by
    obtain ⟨h1, h2, h3⟩ := h
    have h4 := RunF.bubble (fun z hz => hc z (List.mem_cons_of_mem _ hz)) h3
    exact RunF.swap (hc x List.mem_cons_self) ⟨h1, h2, h4⟩
def EndQ (ops : Array Oper) (o : Oper) (T s : Sy) : Prop := ExtG ops o T s ∧ s.fz = T.fz ∧ s.pin = T.pin
theorem RunF.toEnd : ∀ {l : List It} {s : Sy}, (∀ x ∈ l, Off ops x o T) → RunF P C ops l s (EndQ ops o T) → EndQ ops o T s
  | [], s, _, h => h
  | x :: l, s, hc, ⟨h1, h2, h3⟩ => by
    have h4 := RunF.toEnd (fun z hz => hc z (List.mem_cons_of_mem _ hz)) h3
    have hx := hc x List.mem_cons_self
    exact ⟨hx.iff.1 h4.1, by rw [← h4.2.1, apply0_fz hx.dl hx.dk], h4.2.2⟩
end
theorem ready_back {ops : Array Oper} (hback : ∀ (j : Nat) (o : Oper), ops[j]? = some o → ∀ e ∈ o.after, Region.binds .any e = true → e.on < j) {listed : Array Bool} (hs : listed.size = ops.size) (h : Region.ready .any ops listed = []) : ∀ i, i < ops.size → listed.getD i true = true := by
  intro i
  induction i using Nat.strongRecOn with
  | _ i ih =>
    intro hi
    cases hu : listed.getD i true with
    | true => rfl
    | false =>
      obtain ⟨o, ho⟩ : ∃ o, ops[i]? = some o := ⟨ops[i], by simp [hi]⟩
      have : i ∈ Region.ready .any ops listed := mem_ready.2 ⟨hu, o, ho, fun e he hb => by
        have hlt := hback i o ho e he hb
        have := ih e.on hlt (by omega)
        have h3 : e.on < listed.size := by omega
        simp [h3] at this ⊢; exact this⟩
      rw [h] at this; cases this
section
variable {R : Rn} {k : List Item} {ops : Array Oper} {f : Nat} {Q : Sy → Prop} {ord : List Nat}
theorem free_all (G : It → Prop) (hback : ∀ (j : Nat) (o : Oper), ops[j]? = some o → ∀ e ∈ o.after, Region.binds .any e = true → e.on < j)
    (hE : ∀ j, j < ops.size → j ∉ ord → ∀ (listed : Array Bool) (l : List It) (s : Sy), (∀ i, reach ops f j i = true → listed.getD i true ≠ false) → (∀ x ∈ l, listed.getD x.i true = false ∧ G x) → (∀ j', j' < ops.size → j' ∉ ord → listed.getD j' true = false) → RunF R.P R.C ops l s Q → ∀ rest, Exec R (.inRegion ops (j :: rest) :: k) s)
    (hdone : (∀ j, j < ops.size → j ∈ ord) → ∀ s, Q s → Exec R k s) : ∀ (fuel : Nat) (listed : Array Bool) (l : List It) (s : Sy), listed.size = ops.size → Closed ops listed →
    (∀ j, j < ops.size → (listed.getD j true = false ↔ (j ∉ ord ∨ ∃ x ∈ l, x.i = j))) → (∀ x ∈ l, x.i < ops.size ∧ x.i ∈ ord ∧ ops[x.i]? = some x.o ∧ G x) → l.Pairwise (fun x y => x.i ≠ y.i ∧ (reach ops f y.i x.i = true ∨ Com ops x y)) →
    RunF R.P R.C ops l s Q → cnt ops listed ≤ fuel → AnyW R k ops fuel listed s := by
  have done : ∀ {listed : Array Bool} {l : List It} {s : Sy}, (∀ j, j < ops.size → (listed.getD j true = false ↔ (j ∉ ord ∨ ∃ x ∈ l, x.i = j))) → (∀ x ∈ l, x.i < ops.size ∧ x.i ∈ ord ∧ ops[x.i]? = some x.o ∧ G x) → (∀ i, i < ops.size → listed.getD i true = true) → RunF R.P R.C ops l s Q → Exec R k s := fun {listed l s} hch hl hall hW => by
    have h0 : ∀ j, j < ops.size → ¬ (j ∉ ord ∨ ∃ x ∈ l, x.i = j) := fun j hj h => by
      have := (hch j hj).2 h; rw [hall j hj] at this; cases this
    cases l with
    | nil => exact hdone (fun j hj => Classical.not_not.1 fun h => h0 j hj (.inl h)) s hW
    | cons x l => exact (h0 x.i (hl x List.mem_cons_self).1 (.inr ⟨x, List.mem_cons_self, rfl⟩)).elim
  intro fuel
  induction fuel with
  | zero =>
    intro listed l s hsz hclo hch hl hpw hW hc
    have hall := cnt_zero (Nat.le_zero.1 hc)
    refine ⟨?_, done hch hl hall hW⟩
    cases hr : Region.ready .any ops listed with
    | nil => rfl
    | cons j js =>
      have hj : j ∈ Region.ready .any ops listed := by rw [hr]; exact List.mem_cons_self ..
      obtain ⟨hu, o, ho, _⟩ := mem_ready.1 hj
      rw [hall j (Array.getElem?_eq_some_iff.1 ho).1] at hu; cases hu
  | succ fuel ih =>
    intro listed l s hsz hclo hch hl hpw hW hc
    refine ⟨fun hr => done hch hl (ready_back hback hsz hr) hW, fun j hj o ho => ?_⟩
    obtain ⟨hu, o', ho', hafter⟩ := mem_ready.1 hj
    rw [ho] at ho'; cases ho'
    have hjl : j < ops.size := (Array.getElem?_eq_some_iff.1 ho).1
    have hrl : ∀ i, reach ops f j i = true → listed.getD i true ≠ false := fun i hi =>
      listed_not (reach_listed hclo hsz f j i (fun o' ho' e he hb => by rw [ho] at ho'; cases ho'; exact hafter e he hb) hi)
    have hun : ∀ x ∈ l, listed.getD x.i true = false := fun x hx => (hch x.i (hl x hx).1).2 (.inr ⟨x, hx, rfl⟩)
    by_cases hjo : j ∈ ord
    · left
      obtain ⟨y, hy, hyi⟩ := ((hch j hjl).1 hu).resolve_left (fun h => h hjo)
      subst hyi
      obtain ⟨pre, post, rfl⟩ := List.append_of_mem hy
      have hyo : y.o = o := by have := (hl y hy).2.2.1; rw [ho] at this; cases this; rfl
      have hpw' := List.pairwise_append.1 hpw
      have hcom : ∀ x ∈ pre, Com ops x y := fun x hx => by
        have h1 := hpw'.2.2 x hx y List.mem_cons_self
        exact h1.2.resolve_left fun hr => hrl x.i hr (hun x (by simp [hx]))
      have hb := RunF.bubble hcom hW
      obtain ⟨b1, b2, b3⟩ := hb
      rw [hyo] at b1 b2 b3
      refine ⟨_, b1 s b2, ih _ (pre ++ post) _ (by simpa using hsz) (closed_set hclo hj) (fun j' hj' => ?_) (fun x hx => hl x (by simp at hx ⊢; rcases hx with h | h <;> simp [h])) ?_ b3 (by have := cnt_set hsz hjl hu; omega)⟩
      · rw [set_listed, hch j' hj']
        constructor
        · rintro ⟨h1, h2 | ⟨x, hx, hxi⟩⟩
          · exact .inl h2
          · refine .inr ⟨x, ?_, hxi⟩
            simp only [List.mem_append, List.mem_cons] at hx ⊢
            rcases hx with h | rfl | h
            · exact .inl h
            · exact (h1 hxi.symm).elim
            · exact .inr h
        · rintro (h2 | ⟨x, hx, hxi⟩)
          · exact ⟨fun e => by subst e; exact h2 hjo, .inl h2⟩
          · simp only [List.mem_append] at hx
            refine ⟨fun e => ?_, .inr ⟨x, by simp only [List.mem_append, List.mem_cons]; rcases hx with h | h <;> simp [h], hxi⟩⟩
            rcases hx with h | h
            · exact (hpw'.2.2 x h y List.mem_cons_self).1 (hxi.trans e)
            · exact ((List.pairwise_cons.1 hpw'.2.1).1 x h).1 (hxi.trans e).symm
      · rw [List.pairwise_append]
        exact ⟨hpw'.1, (List.pairwise_cons.1 hpw'.2.1).2, fun a ha b hb => hpw'.2.2 a ha b (List.mem_cons_of_mem _ hb)⟩
    · exact .inr (hE j hjl hjo listed l s hrl (fun x hx => ⟨hun x hx, (hl x hx).2.2.2⟩) (fun j' hj' hn => (hch j' hj').2 (.inl hn)) hW)
end
/-! ### what is named -/
mutual
def svL : SV → List Nat
  | .lp k _ => [k]
  | .fn _ caps => svLs caps
  | .mv _ caps => svLs caps
  | .sg caps => svLs caps
  | .op _ sv => svL sv
  | .d _ => []
  | .own _ => []
  | .oa _ _ _ _ => []
  | .junk => []
def svLs : List SV → List Nat
  | [] => []
  | sv :: r => svL sv ++ svLs r
end
def svO : SV → List Nat
  | .own k => [k]
  | .oa k _ _ _ => [k]
  | .op _ sv => svO sv
  | _ => []
def opsL (S : List (Nat × SV)) : List Operand → List Nat
  | [] => []
  | x :: r => (match evalL S x with | some sv => svL sv | none => []) ++ opsL S r
def opsO (S : List (Nat × SV)) : List Operand → List Nat
  | [] => []
  | x :: r => (match evalL S x with | some sv => svO sv | none => []) ++ opsO S r
def keepK {α : Type} (ks : List Nat) : List (Nat × α) → List (Nat × α)
  | [] => []
  | (k, x) :: r => if ks.contains k = true then (k, x) :: keepK ks r else keepK ks r
theorem look_keepK {α : Type} (ks : List Nat) (t : Nat) : ∀ (l : List (Nat × α)), klook t (keepK ks l) = if ks.contains t = true then klook t l else none
  | [] => by simp [keepK, klook]
  | (k, x) :: r => by
    have ih := look_keepK ks t r
    simp only [keepK]
    by_cases h : ks.contains k = true
    · rw [if_pos h]
      simp only [klook]
      by_cases e : t = k
      · subst e; rw [if_pos rfl, if_pos h, if_pos rfl]
      · rw [if_neg e, if_neg e]; exact ih
    · rw [if_neg h, ih]
      by_cases e : t = k
      · subst e; rw [if_neg h, if_neg h]
      · simp only [klook, if_neg e]
/-- the operands behind which an operation looks into a slice -/
def lookO (o : Oper) : List Operand := match o.op with
  | .store _ x _ => [x]
  | .move _ => []
  | .assign _ => []
  | op => op.operands.toList
/-- the state as an operation sees it -/
def trimO (st : Stt) (o : Oper) : Stt := ⟨st.N, st.df, st.S, keepK (opsL st.S o.op.operands.toList) st.L, keepK (opsO st.S (lookO o)) st.O, st.fz, st.pin⟩
theorem trim_ext (ops : Array Oper) (st : Stt) (o : Oper) : ExtG ops o (trimO st o).sy st.sy := by
  refine ⟨rfl, rfl, fun _ _ _ => rfl, fun key h => ?_, fun key h => ?_⟩
  · simp only [Stt.sy, trimO, look_keepK] at h ⊢
    split at h
    · rename_i hh; rw [if_pos hh]
    · exact (h rfl).elim
  · simp only [Stt.sy, trimO, look_keepK] at h ⊢
    split at h
    · rename_i hh; rw [if_pos hh]
    · exact (h rfl).elim
/-- what an operation meddles with: boxes, slices written; looked at -/
structure Fp where
  nl : List Nat
  no : List Nat
  fl : List Nat
  fo : List Nat
  w : List Nat
  ow : List Nat
  kl : Bool
def fpO (st : Stt) (o : Oper) (W : List Nat) (r : Res) : Fp := ⟨keysOf r.nl, keysOf r.no, opsL st.S o.op.operands.toList, opsO st.S (lookO o), W, keysOf (keepK (opsO st.S (lookO o)) st.O), !(r.dl.isEmpty && r.dk.isEmpty)⟩
def Fits (x : It) (p : Fp) : Prop := (∀ key, klook key x.r.nl ≠ none → p.nl.contains key = true) ∧ (∀ key, klook key x.r.no ≠ none → p.no.contains key = true) ∧ (∀ key, x.T.L key ≠ none → p.fl.contains key = true) ∧ (∀ key, x.T.O key ≠ none → p.fo.contains key = true) ∧ (p.kl = false → x.r.dl = [] ∧ x.r.dk = []) ∧ x.W = p.w ∧ (∀ key, p.ow.contains key = true → x.T.O key ≠ none)
theorem fits_of (i : Nat) (st : Stt) (o : Oper) (W : List Nat) (r : Res) : Fits ⟨i, o, (trimO st o).sy, W, r⟩ (fpO st o W r) := by
  refine ⟨fun key h => ?_, fun key h => ?_, fun key h => ?_, fun key h => ?_, fun h => ?_, rfl, fun key h => ?_⟩
  · simp only [fpO, look_keys]; exact Option.isSome_iff_ne_none.2 h
  · simp only [fpO, look_keys]; exact Option.isSome_iff_ne_none.2 h
  · simp only [Stt.sy, trimO, look_keepK] at h
    split at h
    · rename_i hh; exact hh
    · exact (h rfl).elim
  · simp only [Stt.sy, trimO, look_keepK] at h
    split at h
    · rename_i hh; exact hh
    · exact (h rfl).elim
  · simp only [fpO, Bool.not_eq_false', Bool.and_eq_true, List.isEmpty_iff] at h; exact h
  · simp only [fpO, look_keys] at h; exact Option.isSome_iff_ne_none.1 h
def offB (p : Fp) (fl fo : List Nat) : Bool := !p.kl && p.nl.all (fun k => !fl.contains k) && p.no.all (fun k => !fo.contains k)
def comB (p q : Fp) : Bool := offB p q.fl q.fo && offB q p.fl p.fo && p.nl.all (fun k => !q.nl.contains k) && p.no.all (fun k => !q.no.contains k) && q.w.all (fun k => !p.no.contains k || p.ow.contains k)
def offD (ops : Array Oper) (i j : Nat) : Bool := match dstAt ops i with | none => true | some t => !(looks ops j).contains t
def comD (ops : Array Oper) (i j : Nat) : Bool := offD ops i j && offD ops j i && (match dstAt ops i with | none => true | some t => dstAt ops j != some t)
theorem all_not {α : Type} {l : List Nat} {m : List Nat} {key : Nat} (h : (l.all fun k => !m.contains k) = true) (hk : l.contains key = true) : m.contains key = false := by
  have := List.all_eq_true.1 h key (by simpa using hk)
  simpa using this
theorem off_of {ops : Array Oper} {x : It} {p : Fp} {fl fo : List Nat} {j : Nat} {o : Oper} {T : Sy} (hx : ops[x.i]? = some x.o) (ho : ops[j]? = some o) (hp : Fits x p) (hfl : ∀ key, T.L key ≠ none → fl.contains key = true) (hfo : ∀ key, T.O key ≠ none → fo.contains key = true) (h : offB p fl fo = true) (hd : offD ops x.i j = true) : Off ops x o T := by
  simp only [offB, Bool.and_eq_true, Bool.not_eq_true'] at h
  obtain ⟨⟨h1, h2⟩, h3⟩ := h
  refine ⟨(hp.2.2.2.2.1 h1).1, (hp.2.2.2.2.1 h1).2, fun t ht => ?_, fun key hk => ?_, fun key hk => ?_⟩
  · have e : dstAt ops x.i = some t := dstAt_of hx ht
    simp only [offD, e] at hd
    simpa [looks, ho] using hd
  · have := all_not (α := Nat) h2 (hp.1 key hk)
    exact Classical.not_not.1 fun hn => by rw [hfl key hn] at this; cases this
  · have := all_not (α := Nat) h3 (hp.2.1 key hk)
    exact Classical.not_not.1 fun hn => by rw [hfo key hn] at this; cases this
theorem com_of {ops : Array Oper} {x y : It} {p q : Fp} (hx : ops[x.i]? = some x.o) (hy : ops[y.i]? = some y.o) (hp : Fits x p) (hq : Fits y q) (h : comB p q = true) (hd : comD ops x.i y.i = true) : Com ops x y := by
  simp only [comB, Bool.and_eq_true] at h
  obtain ⟨⟨⟨⟨h1, h2⟩, h3⟩, h4⟩, h5⟩ := h
  simp only [comD, Bool.and_eq_true] at hd
  obtain ⟨⟨d1, d2⟩, d3⟩ := hd
  refine ⟨off_of hx hy hp hq.2.2.1 hq.2.2.2.1 h1 d1, off_of hy hx hq hp.2.2.1 hp.2.2.2.1 h2 d2, fun t ht => ?_, fun key hk => ?_, fun key hk => ?_, fun key hk hn => ?_⟩
  · have e : dstAt ops x.i = some t := dstAt_of hx ht
    simp only [e, bne_iff_ne, ne_eq] at d3
    exact fun h => d3 (dstAt_of hy h)
  · have := all_not (α := Nat) h3 (hp.1 key hk)
    exact Classical.not_not.1 fun hn => by rw [hq.1 key hn] at this; cases this
  · have := all_not (α := Nat) h4 (hp.2.1 key hk)
    exact Classical.not_not.1 fun hn => by rw [hq.2.1 key hn] at this; cases this
  · rw [hq.2.2.2.2.2.1] at hk
    have := List.all_eq_true.1 h5 key hk
    rw [hp.2.1 key hn] at this
    exact hp.2.2.2.2.2.2 key (by simpa using this)
/-! ### the walk over a state that is written out -/
def WalkFI (P : Program) (C : Ctx) (ops : Array Oper) (i : Nat) (ds : List (Option Tmp)) (l : List Oper) (acc : List Fp) (s : Sy) (Q : List Fp → Sy → Prop) : Prop := GInv ops i ds → l = ops.toList.drop i →
  ∃ (its : List It) (fps : List Fp), its.map It.o = l ∧ its.length = fps.length ∧ (∀ (a : Nat) (x : It) (p : Fp), its[a]? = some x → fps[a]? = some p → x.i = i + a ∧ Fits x p) ∧ RunF P C ops its s (fun s => Q (fps.reverse ++ acc) s)
theorem walkFI_stepW {P : Program} {C : Ctx} {ops : Array Oper} {i : Nat} {ds : List (Option Tmp)} {o : Oper} {r : List Oper} {acc : List Fp} {st : Stt} {Q : List Fp → Sy → Prop} {res : Res} (W : List Nat) (h : ∀ ops, GInv ops i ds → Ok2W P C ops o (trimO st o).sy W res) (hW : ∀ k ∈ W, klook k st.O ≠ none)
    (hr : WalkFI P C ops (i + 1) (o.dst :: ds) r (fpO st o W res :: acc) (applyL o.dst res st).sy Q) : WalkFI P C ops i ds (o :: r) acc st.sy Q := fun hi hd => by
  obtain ⟨ho, hr'⟩ := drop_cons hd
  obtain ⟨its, fps, h1, h2, h3, h4⟩ := hr (hi.cons ho) hr'
  refine ⟨⟨i, o, (trimO st o).sy, W, res⟩ :: its, fpO st o W res :: fps, by simp [h1], by simp [h2], fun a x p hx hp => ?_, h ops hi, ⟨trim_ext ops st o, hW⟩, ?_⟩
  · cases a with
    | zero => simp at hx hp; subst hx; subst hp; exact ⟨rfl, fits_of _ _ _ _ _⟩
    | succ a =>
      have := h3 a x p (by simpa using hx) (by simpa using hp)
      exact ⟨by rw [this.1]; omega, this.2⟩
  · rw [← applyL_sy]
    simpa using h4
theorem walkFI_step {P : Program} {C : Ctx} {ops : Array Oper} {i : Nat} {ds : List (Option Tmp)} {o : Oper} {r : List Oper} {acc : List Fp} {st : Stt} {Q : List Fp → Sy → Prop} {res : Res} (h : Ok2I P C i ds o (trimO st o).sy res)
    (hr : WalkFI P C ops (i + 1) (o.dst :: ds) r (fpO st o [] res :: acc) (applyL o.dst res st).sy Q) : WalkFI P C ops i ds (o :: r) acc st.sy Q :=
  walkFI_stepW [] (fun ops hi s' hs => h ops hi s' hs.1) (fun k hk => by cases hk) hr
/-- an operation in such a region: a slice literal is read alone -/
def stepF (te : TE) (i : Nat) (ds : List (Option Tmp)) (st : Stt) (o : Oper) : Option (Res × Prop) := match (match o.guard with | none => bsD te st.N st.S o | some _ => none) with
  | some (sv, ob) => some (⟨sv, [], [], [], []⟩, ob)
  | none => step2 te i ds st o
theorem stepF_ok {P : Program} {C : Ctx} {te : TE} (hte : TEok P te) {i : Nat} {ds : List (Option Tmp)} {st : Stt} {o : Oper} {r : Res} {ob : Prop} (h : stepF te i ds st o = some (r, ob)) (hob : ob) : Ok2I P C i ds o st.sy r := by
  unfold stepF at h
  split at h
  · rename_i sv ob' hb
    split at hb
    · rename_i hg
      cases h
      exact fun ops _ => ok2_run (bsD_ok (s := st.sy) hte rfl hb hob) (by simp [wantS, hg])
    · cases hb
  · exact step2_ok hte h hob
def runFX (P : Program) (C : Ctx) (te : TE) (ops : Array Oper) : List Oper → Nat → List (Option Tmp) → Option (Res × Prop) → Oper → List Fp → Stt → (List Fp → Sy → Prop) → Prop
  | [], i, ds, x, o, acc, st, Q => match x with
    | some (res, ob) => ob ∧ Q (fpO st o [] res :: acc) (applyL o.dst res st).sy
    | none => WalkFI P C ops i ds [o] acc st.sy Q
  | o' :: r, i, ds, x, o, acc, st, Q => match x with
    | some (res, ob) => ob ∧ runFX P C te ops r (i + 1) (o.dst :: ds) (stepF te (i + 1) (o.dst :: ds) (trimO (applyL o.dst res st) o') o') o' (fpO st o [] res :: acc) (applyL o.dst res st) Q
    | none => WalkFI P C ops i ds (o :: o' :: r) acc st.sy Q
def runF (P : Program) (C : Ctx) (te : TE) (ops : Array Oper) (i : Nat) (ds : List (Option Tmp)) (l : List Oper) (acc : List Fp) (st : Stt) (Q : List Fp → Sy → Prop) : Prop := match l with
  | [] => Q acc st.sy
  | o :: r => runFX P C te ops r i ds (stepF te i ds (trimO st o) o) o acc st Q
section
variable {P : Program} {C : Ctx} {te : TE} {ops : Array Oper} {i : Nat} {ds : List (Option Tmp)} {o o' : Oper} {r : List Oper} {acc : List Fp} {st : Stt} {Q : List Fp → Sy → Prop}
theorem runF_nil : runF P C te ops i ds [] acc st Q = Q acc st.sy := rfl
theorem runF_cons : runF P C te ops i ds (o :: r) acc st Q = runFX P C te ops r i ds (stepF te i ds (trimO st o) o) o acc st Q := rfl
theorem runFX_none : runFX P C te ops r i ds none o acc st Q = WalkFI P C ops i ds (o :: r) acc st.sy Q := by cases r <;> rfl
theorem runFX_nil {res : Res} {ob : Prop} : runFX P C te ops [] i ds (some (res, ob)) o acc st Q = (ob ∧ Q (fpO st o [] res :: acc) (applyL o.dst res st).sy) := rfl
theorem runFX_cons {res : Res} {ob : Prop} : runFX P C te ops (o' :: r) i ds (some (res, ob)) o acc st Q = (ob ∧ runFX P C te ops r (i + 1) (o.dst :: ds) (stepF te (i + 1) (o.dst :: ds) (trimO (applyL o.dst res st) o') o') o' (fpO st o [] res :: acc) (applyL o.dst res st) Q) := rfl
theorem runFX_some {res : Res} {ob : Prop} : runFX P C te ops r i ds (some (res, ob)) o acc st Q = (ob ∧ runF P C te ops (i + 1) (o.dst :: ds) r (fpO st o [] res :: acc) (applyL o.dst res st) Q) := by cases r <;> rfl
theorem runF_walk (hte : TEok P te) : ∀ {l : List Oper} {i : Nat} {ds : List (Option Tmp)} {acc : List Fp} {st : Stt}, runF P C te ops i ds l acc st Q → WalkFI P C ops i ds l acc st.sy Q
  | [], i, ds, acc, st, h => fun _ _ => ⟨[], [], rfl, rfl, fun a x p hx => by simp at hx, by simpa [RunF, runF] using h⟩
  | o :: r, i, ds, acc, st, h => by
    rw [runF_cons] at h
    cases hx : stepF te i ds (trimO st o) o with
    | none => rw [hx, runFX_none] at h; exact h
    | some x =>
      obtain ⟨res, ob⟩ := x
      rw [hx, runFX_some] at h
      exact walkFI_step (stepF_ok hte hx h.1) (runF_walk hte h.2)
/-! ### calls in it -/
theorem kfcall {I : World → Prop} (hI : ∀ w, BelM C w → I w) (hte : TEok P te)
    (hg : o.guard = none) (hd : dstOk o st.N = true) {f : Operand} {args : Array Operand} {ts : Array TypeId} {g : FuncId} {caps xs all : List D} {res : D}
    (ho : o.op = .call { callee := .value f, args := args, argTypes := ts }) (hf : evalO (fun t => klook t st.S) f = some (.d (.fn g caps))) (hargs : argsD (fun t => klook t st.S) args.toList = some xs) (hall : xs ++ caps = all)
    (h : FnOK I P g all res) (hr : runF P C te ops (i + 1) (o.dst :: ds) r (fpO st o [] ⟨.d res, [], [], [], []⟩ :: acc) (applyL o.dst ⟨.d res, [], [], [], []⟩ st) Q) : WalkFI P C ops i ds (o :: r) acc st.sy Q := by
  subst hall
  exact walkFI_step (ok2_call (st := trimO st o) hI hg hd ho hf hargs h) (runF_walk hte hr)
theorem kfcallG {I : World → Prop} (hI : ∀ w, BelM C w → I w) (hte : TEok P te) {q : Bool} (hw : wantR i ds st.S o = some q) (hd : dstOk o st.N = true) {f : Operand} {args : Array Operand} {ts : Array TypeId} {g : FuncId} {caps xs all : List D} {res : D}
    (ho : o.op = .call { callee := .value f, args := args, argTypes := ts }) (hf : evalO (fun t => (klook t st.S).map unop) f = some (.d (.fn g caps))) (hargs : argsD (fun t => (klook t st.S).map unop) args.toList = some xs) (hall : xs ++ caps = all)
    (hc : q = true → cndsS st.S (opTmps o.op.operands.toList)) (h : q = true → FnOK I P g all res) (hr : runF P C te ops (i + 1) (o.dst :: ds) r (fpO st o [] ⟨.op q (.d res), [], [], [], []⟩ :: acc) (applyL o.dst ⟨.op q (.d res), [], [], [], []⟩ st) Q) : WalkFI P C ops i ds (o :: r) acc st.sy Q := by
  subst hall
  exact walkFI_step (ok2_callG (st := trimO st o) hI hw hd ho hf hargs hc h) (runF_walk hte hr)
theorem kfcallM (key : Nat) {I : World → Prop} (hI : ∀ w, BelM C w → I w) (hte : TEok P te) (hw : wantR i ds st.S o = some true) (hd : dstOk o st.N = true) {f : Operand} {args : Array Operand} {ts : Array TypeId} {sv : SV} {svs all : List SV} {g : Nat} {T : TypeId} {cells : List SV} {dd cs' : List D} {args' : List SV} {res : D}
    (ho : o.op = .call { callee := .value f, args := args, argTypes := ts }) (hf : evalL st.S f = some sv) (hargs : argsV st.S args.toList = some svs) (hc : callAll sv svs = some (g, all)) (hl : lendL key all = some args') (hL : klook key (trimO st o).L = some (T, cells)) (hds : allD cells = some dd)
    (h : FnM I P g T dd args' (.ret cs' res)) (hr : runF P C te ops (i + 1) (o.dst :: ds) r (fpO st o [] ⟨.d res, [(key, T, cs'.map SV.d)], [], [], []⟩ :: acc) (applyL o.dst ⟨.d res, [(key, T, cs'.map SV.d)], [], [], []⟩ st) Q) : WalkFI P C ops i ds (o :: r) acc st.sy Q :=
  walkFI_step (fun _ hi => ok2_run (ok_callM (st := trimO st o) hI ho (dstOk_spec hd) hf hargs hc hl hL hds h) (wantR_spec hi hw)) (runF_walk hte hr)
end
/-- a slice of the function's own is laid into a box -/
theorem kfstore {P : Program} {C : Ctx} {te : TE} (hte : TEok P te) {ops : Array Oper} {i : Nat} {ds : List (Option Tmp)} {o : Oper} {r : List Oper} {acc : List Fp} {st : Stt} {Q : List Fp → Sy → Prop} {t : TypeId} {x y : Operand} {key off k : Nat} {T : TypeId} {cs svs : List SV} {j : TyI} {ow : Ow}
    (hg : o.guard = none) (hd : o.dst = none) (ho : o.op = .store t x y) (hx : evalL st.S x = some (.lp key off)) (hy : evalL st.S y = some (.own k)) (hi : klook t te = some j) (hL : klook key (trimO st o).L = some (T, cs)) (hO : klook k st.O = some ow) (hc : cellsSV j.u (.own k) = some svs) (hl : svs.all leafSV = true) (hsz : svs.length = j.size) (hb : off + svs.length ≤ cs.length)
    (hr : runF P C te ops (i + 1) (o.dst :: ds) r (fpO st o [k] ⟨.junk, [(key, T, setCs cs off svs)], [], [], []⟩ :: acc) (applyL o.dst ⟨.junk, [(key, T, setCs cs off svs)], [], [], []⟩ st) Q) : WalkFI P C ops i ds (o :: r) acc st.sy Q := by
  refine walkFI_stepW [k] (fun ops _ s' hs => ?_) (fun q hq => by simp at hq; subst hq; rw [hO]; simp) (runF_walk hte hr)
  cases hok : s'.O k with
  | none => exact (hs.2 k (by simp) hok).elim
  | some ow2 =>
    have h1 : Ok1 P C o (⟨st.N, st.df, fun t => klook t st.S, (trimO st o).sy.L, fun q => if q = k then some ow2 else none, st.fz, st.pin⟩ : Sy) ⟨.junk, [(key, T, setCs cs off svs)], [], [], []⟩ :=
      ok_store ho hd ((evalL_eq _ _).symm.trans hx) ((evalL_eq _ _).symm.trans hy) hL (hte _ _ hi) hc (by simp [ownsOk]) hl hsz hb
    have hext := hs.1.ext
    have hx2 : Ext o (⟨st.N, st.df, fun t => klook t st.S, (trimO st o).sy.L, fun q => if q = k then some ow2 else none, st.fz, st.pin⟩ : Sy) s' := ⟨hext.n, hext.df, hext.ops, hext.l, fun q hq => by
      simp only at hq ⊢
      by_cases e : q = k
      · subst e; rw [if_pos rfl]; exact hok
      · rw [if_neg e] at hq; exact (hq rfl).elim⟩
    exact opTo_of hx2 h1 (by simp [wantS, hg]) rfl
/-- are all pairs ordered, but for those of the list? -/
def okFree (ops : Array Oper) (f : Nat) (ord : List Nat) (U : List (Nat × Nat)) : Bool :=
  ord.all (fun i => decide (i < ops.size)) && (List.range ops.size).all (fun j => match ops[j]? with | some o => o.after.toList.all (fun e => !Region.binds .any e || decide (e.on < j)) | none => true) &&
  (List.range ord.length).all fun b => (List.range b).all fun a => ord.getD a 0 != ord.getD b 0 && (reach ops f (ord.getD b 0) (ord.getD a 0) || (U.contains (a, b) && comD ops (ord.getD a 0) (ord.getD b 0)))
def dynOk (U : List (Nat × Nat)) (acc : List Fp) : Bool := U.all fun p => match acc.reverse[p.1]?, acc.reverse[p.2]? with | some x, some y => comB x y | _, _ => false
theorem okFree_back {ops : Array Oper} {f : Nat} {ord : List Nat} {U : List (Nat × Nat)} (h : okFree ops f ord U = true) : ∀ (j : Nat) (o : Oper), ops[j]? = some o → ∀ e ∈ o.after, Region.binds .any e = true → e.on < j := fun j o ho e he hb => by
  simp only [okFree, Bool.and_eq_true] at h
  have := List.all_eq_true.1 h.1.2 j (by have := (Array.getElem?_eq_some_iff.1 ho).1; simpa using this)
  rw [ho] at this
  have h2 := List.all_eq_true.1 this e (by simpa using he)
  simp only [Bool.or_eq_true, Bool.not_eq_true', decide_eq_true_eq] at h2
  rcases h2 with h2 | h2
  · rw [hb] at h2; cases h2
  · exact h2
theorem okFree_pair {ops : Array Oper} {f : Nat} {ord : List Nat} {U : List (Nat × Nat)} (h : okFree ops f ord U = true) {a b : Nat} {i j : Nat} (hab : a < b) (ha : ord[a]? = some i) (hb : ord[b]? = some j) : i ≠ j ∧ (reach ops f j i = true ∨ ((a, b) ∈ U ∧ comD ops i j = true)) := by
  simp only [okFree, Bool.and_eq_true] at h
  have h1 := List.all_eq_true.1 h.2 b (by have := (List.getElem?_eq_some_iff.1 hb).1; simpa using this)
  have h2 := List.all_eq_true.1 h1 a (by simpa using hab)
  have e1 : ord.getD a 0 = i := by rw [List.getD_eq_getElem?_getD, ha]; rfl
  have e2 : ord.getD b 0 = j := by rw [List.getD_eq_getElem?_getD, hb]; rfl
  rw [e1, e2] at h2
  simpa using h2
theorem pairs_of {ops : Array Oper} {f : Nat} {ord : List Nat} {U : List (Nat × Nat)} (h : okFree ops f ord U = true) {its : List It} {fps : List Fp} (hlen : its.length = fps.length) (hfit : ∀ (a : Nat) (x : It) (p : Fp), its[a]? = some x → fps[a]? = some p → ord[a]? = some x.i ∧ ops[x.i]? = some x.o ∧ Fits x p)
    (hd : dynOk U fps.reverse = true) : its.Pairwise (fun x y => x.i ≠ y.i ∧ (reach ops f y.i x.i = true ∨ Com ops x y)) := by
  rw [List.pairwise_iff_getElem]
  intro a b ha hb hab
  have hpa : fps[a]? = some (fps[a]'(by omega)) := List.getElem?_eq_getElem _
  have hpb : fps[b]? = some (fps[b]'(by omega)) := List.getElem?_eq_getElem _
  obtain ⟨a1, a2, a3⟩ := hfit a its[a] _ (List.getElem?_eq_getElem _) hpa
  obtain ⟨b1, b2, b3⟩ := hfit b its[b] _ (List.getElem?_eq_getElem _) hpb
  obtain ⟨h1, h2⟩ := okFree_pair h hab a1 b1
  refine ⟨h1, h2.imp id fun h3 => ?_⟩
  have := List.all_eq_true.1 hd _ h3.1
  simp only [List.reverse_reverse, hpa, hpb] at this
  exact com_of a2 b2 a3 b3 this h3.2
theorem RunF.split {P : Program} {C : Ctx} {ops : Array Oper} {p : Prop} {Q : Sy → Prop} : ∀ {l : List It} {s : Sy}, RunF P C ops l s (fun s => p ∧ Q s) → p ∧ RunF P C ops l s Q
  | [], _, h => h
  | x :: l, s, ⟨h1, h2, h3⟩ => let ⟨a, b⟩ := RunF.split h3; ⟨a, h1, h2, b⟩
theorem its_o {its : List It} {l : List Oper} (h : its.map It.o = l) {a : Nat} {x : It} (hx : its[a]? = some x) : l[a]? = some x.o := by rw [← h]; simp [hx]
theorem fps_at {its : List It} {fps : List Fp} (h : its.length = fps.length) {a : Nat} {x : It} (hx : its[a]? = some x) : ∃ p, fps[a]? = some p := by
  have := (List.getElem?_eq_some_iff.1 hx).1
  exact ⟨fps[a]'(by omega), List.getElem?_eq_getElem _⟩
theorem Exec.free {P : Program} {b : Frame} {fs : List Frame} {T : Machine → Prop} {C : Ctx} {k : List Item} {te : TE} {id : Nat} {ops : Array Oper} {st st' : Stt} {acc : List Fp} (f n : Nat) (U : List (Nat × Nat)) (hte : TEok P te) (hm : P.follows .mixedOrders = true) (hn : ops.size = n) (hck : okFree ops f (List.range n) U = true)
    (h : ∀ (ops' : Array Oper) (Q : List Fp → Sy → Prop), Q acc st'.sy → runF P C te ops' 0 [] ops.toList [] st Q) (hd : dynOk U acc = true) (hk : Exec ⟨P, b, fs, T, C⟩ k st'.sy) : Exec ⟨P, b, fs, T, C⟩ (.code (.region id ops true) :: k) st.sy := by
  subst hn
  refine exec_draw hm ?_
  obtain ⟨its, fps, h1, h2, h3, h4⟩ := runF_walk hte (h ops (fun a s => dynOk U a = true ∧ Exec ⟨P, b, fs, T, C⟩ k s) ⟨hd, hk⟩) GInv.nil (by simp)
  simp only [List.append_nil] at h4
  obtain ⟨hdy, h4⟩ := RunF.split h4
  have hlen : its.length = ops.size := by rw [← Array.length_toList, ← h1]; simp
  have hx0 : ∀ (a : Nat) (x : It), its[a]? = some x → x.i = a ∧ ops[x.i]? = some x.o := fun a x hx => by
    obtain ⟨p, hp⟩ := fps_at h2 hx
    have h5 := (h3 a x p hx hp).1
    have h6 := its_o h1 hx
    refine ⟨by omega, ?_⟩
    rw [h5, Nat.zero_add]; simpa using h6
  refine free_all (fun _ => True) (Q := Exec ⟨P, b, fs, T, C⟩ k) (f := f) (ord := List.range ops.size) (okFree_back hck) (fun j hj hn => (hn (by simpa using hj)).elim) (fun _ s hs => hs) ops.size _ its st.sy (by simp) (fun j o ho hl => ?_) (fun j hj => ?_) (fun x hx => ?_) ?_ h4 ?_
  · have := (Array.getElem?_eq_some_iff.1 ho).1
    simp [this] at hl
  · constructor
    · intro _
      refine .inr ⟨its[j]'(by omega), List.getElem_mem _, (hx0 j _ (List.getElem?_eq_getElem _)).1⟩
    · intro _; simp [hj]
  · obtain ⟨a, ha, rfl⟩ := List.getElem_of_mem hx
    have := hx0 a _ (List.getElem?_eq_getElem ha)
    exact ⟨by omega, by simp; omega, this.2, trivial⟩
  · refine pairs_of hck h2 (fun a x p hx hp => ?_) hdy
    have h5 := hx0 a x hx
    have := (List.getElem?_eq_some_iff.1 hx).1
    exact ⟨by rw [h5.1, List.getElem?_eq_getElem (by simpa using (by omega : a < ops.size))]; simp, h5.2, (h3 a x p hx hp).2⟩
  · unfold cnt; exact Nat.le_trans (List.length_filter_le _ _) (by simp)
/-! #### that ends in a panic -/
def dynE (V : List Nat) (st : Stt) (o : Oper) (acc : List Fp) : Bool := V.all fun a => match acc.reverse[a]? with | some p => offB p (opsL st.S o.op.operands.toList) (opsO st.S (lookO o)) | none => false
def okFreeE (ops : Array Oper) (f : Nat) (ord : List Nat) (e : Nat) (V : List Nat) : Bool :=
  !ord.contains e && ord.all (fun i => match ops[i]? with | some o => o.guard.isNone | none => false) && (List.range ops.size).all (fun j => ord.contains j || j == e || reach ops f j e) &&
  (List.range ord.length).all fun a => reach ops f e (ord.getD a 0) || (V.contains a && offD ops (ord.getD a 0) e)
theorem pickO_at {l : List Oper} : ∀ {ord : List Nat} {a : Nat}, (∀ i ∈ ord, i < l.length) → (pickO ord l)[a]? = (ord[a]?).bind (fun i => l[i]?)
  | [], a, _ => by simp [pickO]
  | i :: ord, a, h => by
    have hi := h i List.mem_cons_self
    simp only [pickO, List.getElem?_eq_getElem hi]
    cases a with
    | zero => simp [hi]
    | succ a => simpa using pickO_at (fun j hj => h j (List.mem_cons_of_mem _ hj))
theorem RunF.re {P : Program} {C : Ctx} {ops ops' : Array Oper} {Q : Sy → Prop} (g : It → Nat) : ∀ {l : List It} {s : Sy}, (∀ x ∈ l, x.o.guard = none) → RunF P C ops' l s Q → RunF P C ops (l.map fun x => { x with i := g x }) s Q
  | [], _, _, h => h
  | x :: l, s, hg, ⟨h1, h2, h3⟩ => by
    have hx := hg x List.mem_cons_self
    have conv : ∀ {ops ops' : Array Oper} {s : Sy}, ExtG ops' x.o x.T s → ExtG ops x.o x.T s := fun {ops ops' s} h2 => ⟨h2.n, h2.df, fun t ht => h2.look t (by rw [looks_none hx (ops' := ops)]; exact ht), h2.l, h2.o⟩
    refine ⟨fun s' hs a w hsat => ?_, ⟨conv h2.1, h2.2⟩, RunF.re g (fun y hy => hg y (List.mem_cons_of_mem _ hy)) h3⟩
    have h4 := h1 s' ⟨conv hs.1, hs.2⟩ a w hsat
    have e : ∀ ops : Array Oper, Region.wanted x.o (yielded ops a.tmps) = true := fun ops => by unfold Region.wanted; rw [hx]
    simpa only [e] using h4
theorem ExtG.trans {ops : Array Oper} {o : Oper} {s1 s2 s3 : Sy} (h : ExtG ops o s1 s2) (h' : ExtG ops o s2 s3) : ExtG ops o s1 s3 :=
  ⟨h'.n.trans h.n, h'.df.trans h.df, fun t ht hne => by rw [h'.look t ht (by rw [h.look t ht hne]; exact hne), h.look t ht hne], fun key hk => by rw [h'.l key (by rw [h.l key hk]; exact hk), h.l key hk], fun key hk => by rw [h'.o key (by rw [h.o key hk]; exact hk), h.o key hk]⟩
theorem Exec.freeE {P : Program} {b : Frame} {fs : List Frame} {T : Machine → Prop} {C : Ctx} {k : List Item} {te : TE} {id : Nat} {ops : Array Oper} {st st' : Stt} {acc : List Fp} (f e : Nat) (ord : List Nat) (U : List (Nat × Nat)) (V : List Nat) (hte : TEok P te) (hm : P.follows .mixedOrders = true) {oe : Oper} (hoe : ops[e]? = some oe) (hck : okFree ops f ord U = true) (hckE : okFreeE ops f ord e V = true)
    (h : ∀ (ops' : Array Oper) (Q : List Fp → Sy → Prop), Q acc st'.sy → runF P C te ops' 0 [] (pickO ord ops.toList) [] st Q) (hd : dynOk U acc = true) (hdE : dynE V st' oe acc = true) (hk : EndsT ⟨P, b, fs, T, C⟩ k ops e (trimO st' oe).sy) : Exec ⟨P, b, fs, T, C⟩ (.code (.region id ops true) :: k) st.sy := by
  refine exec_draw hm ?_
  have hE := hckE
  simp only [okFreeE, Bool.and_eq_true] at hE
  obtain ⟨⟨⟨e0, e1⟩, e2⟩, e3⟩ := hE
  have hord : ∀ i ∈ ord, i < ops.size := fun i hi => by
    have := hck
    simp only [okFree, Bool.and_eq_true] at this
    simpa using List.all_eq_true.1 this.1.1 i hi
  have hin : e < ops.size := (Array.getElem?_eq_some_iff.1 hoe).1
  have hpick : ∀ a : Nat, (pickO ord ops.toList)[a]? = (ord[a]?).bind (fun i => ops[i]?) := fun a => by
    rw [pickO_at (by simpa using hord)]; congr 1; funext i; simp
  obtain ⟨its, fps, h1, h2, h3, h4⟩ := runF_walk hte (h (pickO ord ops.toList).toArray (fun a s => (dynOk U a = true ∧ dynE V st' oe a = true) ∧ s = st'.sy) ⟨⟨hd, hdE⟩, rfl⟩) GInv.nil (by simp)
  simp only [List.append_nil] at h4
  obtain ⟨⟨hdy, hdyE⟩, h4⟩ := RunF.split h4
  have hx0 : ∀ (a : Nat) (x : It), its[a]? = some x → x.i = a ∧ ∃ i, ord[a]? = some i ∧ ops[i]? = some x.o := fun a x hx => by
    obtain ⟨p, hp⟩ := fps_at h2 hx
    have h5 := (h3 a x p hx hp).1
    have h6 := its_o h1 hx
    rw [hpick] at h6
    refine ⟨by omega, ?_⟩
    cases ha : ord[a]? with
    | none => simp [ha] at h6
    | some i => exact ⟨i, rfl, by simpa [ha] using h6⟩
  have hlen : its.length = ord.length := by
    have h6 : (pickO ord ops.toList).length = ord.length := by
      refine Nat.le_antisymm ?_ ?_
      · refine Nat.le_of_not_lt fun hlt => ?_
        have := hpick ord.length
        rw [List.getElem?_eq_getElem hlt] at this; simp at this
      · refine Nat.le_of_not_lt fun hlt => ?_
        have := hpick (pickO ord ops.toList).length
        rw [List.getElem?_eq_getElem hlt] at this
        have hh := hord _ (List.getElem_mem hlt)
        simp [hh] at this
    rw [← h6, ← h1]; simp
  have hg : ∀ x ∈ its, x.o.guard = none := fun x hx => by
    obtain ⟨a, ha, rfl⟩ := List.getElem_of_mem hx
    obtain ⟨_, i, h5, h6⟩ := hx0 a _ (List.getElem?_eq_getElem ha)
    have := List.all_eq_true.1 e1 i (List.mem_of_getElem? h5)
    rw [h6] at this
    simpa using this
  let g : It → Nat := fun x => ord.getD x.i 0
  have h5 : RunF P C ops (its.map fun x => { x with i := g x }) st.sy (EndQ ops oe (trimO st' oe).sy) := by
    refine RunF.re (ops' := (pickO ord ops.toList).toArray) g hg ?_
    have mono : ∀ {l : List It} {s : Sy}, RunF P C (pickO ord ops.toList).toArray l s (fun s => s = st'.sy) → RunF P C (pickO ord ops.toList).toArray l s (EndQ ops oe (trimO st' oe).sy) := fun {l} => by
      induction l with
      | nil => intro s h; simp only [RunF] at h ⊢; subst h; exact ⟨trim_ext _ _ _, rfl, rfl⟩
      | cons x l ih => intro s h; exact ⟨h.1, h.2.1, ih h.2.2⟩
    exact mono h4
  have hx1 : ∀ (a : Nat) (x : It) (p : Fp), (its.map fun x => { x with i := g x })[a]? = some x → fps[a]? = some p → ord[a]? = some x.i ∧ ops[x.i]? = some x.o ∧ Fits x p := fun a x p hx hp => by
    simp only [List.getElem?_map, Option.map_eq_some_iff] at hx
    obtain ⟨y, hy, rfl⟩ := hx
    obtain ⟨h6, i, h7, h8⟩ := hx0 a y hy
    have e4 : g y = i := by simp only [g]; rw [h6, List.getD_eq_getElem?_getD, h7]; rfl
    simp only [e4]
    exact ⟨h7, h8, (h3 a y p hy hp).2⟩
  have hmem : ∀ x ∈ (its.map fun x => { x with i := g x }), ∃ (a : Nat) (p : Fp), ord[a]? = some x.i ∧ ops[x.i]? = some x.o ∧ Fits x p ∧ fps[a]? = some p := fun x hx => by
    obtain ⟨a, ha, rfl⟩ := List.getElem_of_mem hx
    obtain ⟨p, hp⟩ := fps_at (its := its.map fun x => { x with i := g x }) (by simpa using h2) (List.getElem?_eq_getElem ha)
    have := hx1 a _ p (List.getElem?_eq_getElem ha) hp
    exact ⟨a, p, this.1, this.2.1, this.2.2, hp⟩
  have hnot : e ∉ ord := by simpa using e0
  refine free_all (fun x => ∃ (a : Nat) (p : Fp), ord[a]? = some x.i ∧ ops[x.i]? = some x.o ∧ Fits x p ∧ fps[a]? = some p) (Q := EndQ ops oe (trimO st' oe).sy) (f := f) (ord := ord) (okFree_back hck) (fun j hj hjo listed l s hrl hl hun hW rest => ?_) (fun hall => (hnot (hall e hin)).elim) ops.size _ (its.map fun x => { x with i := g x }) st.sy (by simp) (fun j o ho hl => ?_) (fun j hj => ?_) (fun x hx => ?_) ?_ h5 ?_
  · have hje : j = e := by
      have := List.all_eq_true.1 e2 j (by simpa using hj)
      simp only [Bool.or_eq_true, beq_iff_eq] at this
      rcases this with (h6 | h6) | h6
      · exact (hjo (by simpa using h6)).elim
      · exact h6
      · exact (hrl e h6 (hun e hin hnot)).elim
    subst hje
    have hoff : ∀ x ∈ l, Off ops x oe (trimO st' oe).sy := fun x hx => by
      obtain ⟨h6, a, p, h7, h8, h9, h10⟩ := hl x hx
      have hal := (List.getElem?_eq_some_iff.1 h7).1
      have h11 := List.all_eq_true.1 e3 a (by simpa using hal)
      have e4 : ord.getD a 0 = x.i := by rw [List.getD_eq_getElem?_getD, h7]; rfl
      rw [e4, Bool.or_eq_true] at h11
      rcases h11 with h11 | h11
      · exact (hrl _ h11 h6).elim
      · simp only [Bool.and_eq_true] at h11
        have h12 := List.all_eq_true.1 hdyE a (by simpa using h11.1)
        simp only [List.reverse_reverse, h10] at h12
        refine off_of h8 hoe h9 (fun key hk => ?_) (fun key hk => ?_) h12 h11.2
        · simp only [Stt.sy, trimO, look_keepK] at hk
          split at hk
          · rename_i hh; exact hh
          · exact (hk rfl).elim
        · simp only [Stt.sy, trimO, look_keepK] at hk
          split at hk
          · rename_i hh; exact hh
          · exact (hk rfl).elim
    have hend := RunF.toEnd hoff hW
    obtain ⟨o', h6, h7⟩ := hk
    rw [hoe] at h6; cases h6
    exact h7 s hend.1 hend.2.1 hend.2.2 rest
  · have := (Array.getElem?_eq_some_iff.1 ho).1
    simp [this] at hl
  · constructor
    · intro _
      by_cases hjo : j ∈ ord
      · obtain ⟨a, ha, hae⟩ := List.getElem_of_mem hjo
        have hal : a < its.length := by omega
        refine .inr ⟨{ (its[a]'hal) with i := g (its[a]'hal) }, List.mem_map.2 ⟨_, List.getElem_mem hal, rfl⟩, ?_⟩
        obtain ⟨h6, i, h7, h8⟩ := hx0 a _ (List.getElem?_eq_getElem hal)
        simp only [g]
        rw [h6, List.getD_eq_getElem?_getD, List.getElem?_eq_getElem ha]
        exact hae
      · exact .inl hjo
    · intro _; simp [hj]
  · obtain ⟨a, p, h6, h7, h8, h9⟩ := hmem x hx
    have := List.mem_of_getElem? h6
    exact ⟨hord _ this, this, h7, a, p, h6, h7, h8, h9⟩
  · exact pairs_of hck (its := its.map fun x => { x with i := g x }) (by simpa using h2) (fun a x p hx hp => hx1 a x p hx hp) hdy
  · unfold cnt; exact Nat.le_trans (List.length_filter_le _ _) (by simp)
attribute [go_sem] lookO stepF bsD runF_nil runF_cons runFX_none runFX_nil runFX_cons trimO keepK opsL opsO svL svLs svO fpO pickO
end Go.Kin
namespace Go.Kin
/-- what a step asks for, by one of a few ways -/
theorem ob2 {a b : Prop} (k : b) (h : a := by first | assumption | omega | (simp only [Bool.not_eq_true', Bool.or_eq_false_iff, Bool.or_eq_true, Bool.and_eq_true, decide_eq_true_eq, decide_eq_false_iff_not, beq_iff_eq, Bool.not_eq_false']; omega) | (simp; done) | (simp; omega) | (intros; omega) | (simp_all; done) | (simp_all; omega)) : a ∧ b := ⟨h, k⟩
end Go.Kin
namespace Go.Kin
/-- what a step asks for, by one of a few ways more -/
theorem ob3 {a b : Prop} (k : b) (h : a := by first | assumption | omega | (simp only [Bool.not_eq_true', Bool.or_eq_false_iff, Bool.or_eq_true, Bool.and_eq_true, decide_eq_true_eq, decide_eq_false_iff_not, beq_iff_eq, Bool.not_eq_false']; omega) | (simp; done) | (simp; omega) | (intros; omega) | (simp_all; done) | (simp_all; omega) | (intro hz; rw [hz]; rfl) | (intro hz; exact ⟨hz, fun hy => by rw [hz, hy]; rfl⟩)) : a ∧ b := ⟨h, k⟩
theorem ob4 {a : Prop} (h : a := by simp only [go_sem] <;> (first | assumption | omega | (simp only [Bool.not_eq_true', Bool.or_eq_false_iff, Bool.or_eq_true, Bool.and_eq_true, decide_eq_true_eq, decide_eq_false_iff_not, beq_iff_eq, Bool.not_eq_false']; omega) | (simp; done) | (simp; omega) | (intros; omega) | (simp_all; done) | (simp_all; omega) | (intro hz; rw [hz]; rfl) | (intro hz; exact ⟨hz, fun hy => by rw [hz, hy]; rfl⟩))) : a := h
end Go.Kin
