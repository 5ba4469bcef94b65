/- Steps of a function body on data, and contracts of the functions of the seat, walked. -/
import Derived.Test.YtgnhhjojiipmgaaGreatDoorKDraw
set_option linter.unusedSimpArgs false
set_option linter.unusedVariables false
set_option linter.unusedSectionVars false
namespace Go.Kin
open Go.RowKit
variable {I : World → Prop}
/-! ### the walk over a state that is written out -/
/-- is it wanted, or under what; the slots that the operations before it wrote, the last first -/
def wantR (i : Nat) (ds : List (Option Tmp)) (S : List (Nat × SV)) (o : Oper) : Option Bool :=
  match o.guard with
  | none => some true
  | some (j, want) => if j < i then (match ds[i - 1 - j]? with
    | some (some t) => (match klook t S with
        | some (.d (.v (.bool b))) => some (b == want)
        | some (.d (.v (.tuple _))) => some false
        | some (.op p (.d (.v (.bool b)))) => some (p && (b == want))
        | _ => none)
    | _ => none) else none
def GInv (ops : Array Oper) (i : Nat) (ds : List (Option Tmp)) : Prop := ds.length = i ∧ ∀ j, j < i → ds[i - 1 - j]? = (ops[j]?).map (·.dst)
theorem GInv.nil {ops : Array Oper} : GInv ops 0 [] := ⟨rfl, fun j h => by omega⟩
theorem GInv.cons {ops : Array Oper} {i : Nat} {ds : List (Option Tmp)} {o : Oper} (h : GInv ops i ds) (ho : ops[i]? = some o) : GInv ops (i + 1) (o.dst :: ds) := by
  refine ⟨by simp [h.1], fun j hj => ?_⟩
  by_cases hji : j = i
  · subst hji; simp [ho]
  · have h2 := h.2 j (by omega)
    rw [← h2, show i + 1 - 1 - j = (i - 1 - j) + 1 from by omega]
    simp
theorem drop_cons {ops : Array Oper} {i : Nat} {o : Oper} {r : List Oper} (h : o :: r = ops.toList.drop i) : ops[i]? = some o ∧ r = ops.toList.drop (i + 1) := by
  have h1 : (ops.toList.drop i)[0]? = some o := by rw [← h]; rfl
  refine ⟨by simpa using h1, ?_⟩
  rw [← List.drop_drop, ← h]; rfl
theorem wantR_spec {ops : Array Oper} {i : Nat} {ds : List (Option Tmp)} {S : List (Nat × SV)} {o : Oper} {b : Bool} (hi : GInv ops i ds) (h : wantR i ds S o = some b) : wantS ops (fun t => klook t S) o = some b := by
  unfold wantR at h
  unfold wantS
  cases hg : o.guard with
  | none => simpa [hg] using h
  | some g =>
    obtain ⟨j, want⟩ := g
    simp only [hg] at h
    split at h
    · rename_i hj
      rw [hi.2 j hj] at h
      cases ho : ops[j]? with
      | none => simp [ho] at h
      | some oj =>
        simp only [ho, Option.map_some] at h
        cases hd : oj.dst with
        | none => simp [hd] at h
        | some t =>
          simp only [hd] at h
          simp only [ho, hd]
          split at h
          · rename_i c hc; rw [hc]; exact h
          · rename_i c hc; rw [hc]; exact h
          · rename_i p c hc; rw [hc]; exact h
          · cases h
    · cases h
/-- whatever the region: this is what the operation makes -/
def Ok2I (P : Program) (C : Ctx) (i : Nat) (ds : List (Option Tmp)) (o : Oper) (s : Sy) (r : Res) : Prop := ∀ ops, GInv ops i ds → Ok2 P C ops o s r
/-! what a guarded operation sees -/
def opTmps : List Operand → List Nat
  | [] => []
  | .tmp t :: r => t :: opTmps r
  | _ :: r => opTmps r
theorem mem_opTmps {t : Nat} : ∀ {l : List Operand}, Operand.tmp t ∈ l → t ∈ opTmps l
  | [], h => by cases h
  | x :: r, h => by
    rcases List.mem_cons.1 h with rfl | h
    · simp [opTmps]
    · have ih := mem_opTmps (l := r) (by assumption)
      cases x <;> simp [opTmps, ih]
def pickS (S : List (Nat × SV)) : List Nat → List (Nat × SV)
  | [] => []
  | t :: r => match klook t S with
    | some (.op _ sv) => (t, sv) :: pickS S r
    | some sv => (t, sv) :: pickS S r
    | none => pickS S r
def cndsS (S : List (Nat × SV)) : List Nat → Prop
  | [] => True
  | t :: r => match klook t S with
    | some (.op p _) => p = true ∧ cndsS S r
    | _ => cndsS S r
theorem pickS_look {S : List (Nat × SV)} : ∀ {l : List Nat} {t : Nat} {sv : SV}, klook t (pickS S l) = some sv → (klook t S).map unop = some sv
  | [], t, sv, h => by simp [pickS, klook] at h
  | t' :: r, t, sv, h => by
    simp only [pickS] at h
    cases hx : klook t' S with
    | none => simp only [hx] at h; exact pickS_look h
    | some x =>
      have : klook t ((t', unop x) :: pickS S r) = some sv := by cases x <;> simpa [hx, unop] using h
      simp only [klook] at this
      by_cases htt : t = t'
      · subst htt; simp at this; subst this; simp [hx]
      · rw [if_neg htt] at this; exact pickS_look this
theorem cndsS_spec {S : List (Nat × SV)} : ∀ {l : List Nat}, cndsS S l → ∀ t sv, t ∈ l → klook t S = some sv → cndOf sv = true
  | [], _, t, _, h, _ => by cases h
  | t' :: r, hc, t, sv, hm, hs => by
    simp only [cndsS] at hc
    rcases List.mem_cons.1 hm with rfl | hm
    · cases sv <;> simp_all [cndOf]
    · refine cndsS_spec (l := r) ?_ t sv hm hs
      split at hc
      · exact hc.2
      · exact hc
def evalL (S : List (Nat × SV)) : Operand → Option SV
  | .tmp t => klook t S
  | .const v => some (.d (.v v))
  | .global g => some (.d (.v (.pointer (some ⟨g, 0, none⟩))))
  | .func f => some (.d (.fn f []))
theorem evalL_eq (S : List (Nat × SV)) (x : Operand) : evalL S x = evalO (fun t => klook t S) x := by cases x <;> rfl
def opS (g : Option (Nat × Bool)) (q : Bool) (sv : SV) : SV := match g with | none => sv | some _ => .op q sv
/-- one of two truths -/
def pickG (q : Bool) (g : Option (Nat × Bool)) (S : List (Nat × SV)) (c x y : Operand) : Option (Res × Prop) :=
  match evalL S c, evalL S x, evalL S y with
  | some c, some x, some y => match unop c, unop x, unop y with
    | .d (.v (.bool bc)), .d (.v (.bool bx)), .d (.v (.bool bz)) => some (⟨opS g q (.d (.v (.bool (bif bc then bx else bz)))), [], [], [], []⟩, q = true → cndOf c = true ∧ (bc = true → cndOf x = true) ∧ (bc = false → cndOf y = true))
    | _, _, _ => none
  | _, _, _ => none
def gfall (te : TE) (st : Stt) (o : Oper) : Bool → Option (Res × Prop)
  | true => stepO te st o
  | false => if dstOk o st.N = true then some (⟨.d (.v undef), [], [], [], []⟩, True) else none
def gstep (te : TE) (st : Stt) (o : Oper) (q : Bool) : Option (Res × Prop) :=
  match stepO te ⟨st.N, st.df, pickS st.S (opTmps o.op.operands.toList), st.L, st.O, st.fz, st.pin⟩ o with
  | some (⟨sv, [], [], [], []⟩, ob) => some (⟨.op q sv, [], [], [], []⟩, q = true → ob ∧ cndsS st.S (opTmps o.op.operands.toList))
  | _ => gfall te st o q
def isVCall (o : Oper) : Bool := match o.op with
  | .call { callee := .value _, args := _, argTypes := _ } => true
  | _ => false
/-- an operation that is no choice -/
def plainStep (te : TE) (i : Nat) (ds : List (Option Tmp)) (st : Stt) (o : Oper) : Option (Res × Prop) :=
  match o.guard with
  | none => stepO te st o
  | some _ => if isVCall o = true then none else match wantR i ds st.S o with
    | some q => gstep te st o q
    | none => none
def pickStep (i : Nat) (ds : List (Option Tmp)) (st : Stt) (o : Oper) (c x y : Operand) : Option (Res × Prop) :=
  if dstOk o st.N = true then
    match wantR i ds st.S o with
    | some q => pickG q o.guard st.S c x y
    | none => none
  else none
/-- one operation, guarded or not -/
def step2 (te : TE) (i : Nat) (ds : List (Option Tmp)) (st : Stt) (o : Oper) : Option (Res × Prop) :=
  match o.op with
  | .pick c x y => pickStep i ds st o c x y
  | _ => plainStep te i ds st o
section
variable {P : Program} {C : Ctx} {te : TE} {i : Nat} {ds : List (Option Tmp)} {st : Stt} {o : Oper} {r : Res} {ob : Prop}
theorem notDefer {x : Res × Prop} (h : stepO te st o = some x) : ∀ c, o.op ≠ .defer c := by
  exact stepO_defer h
theorem stepO_dst {x : Res × Prop} (h : stepO te st o = some x) : ∀ t, o.dst = some t → t < st.N := by
  exact dstOk_spec (stepO_dstOk h)
theorem gstep_ok (hte : TEok P te) {q : Bool} (hw : wantR i ds st.S o = some q) (h : gstep te st o q = some (r, ob)) (hob : ob) : Ok2I P C i ds o st.sy r := fun ops hi => by
  have hwS := wantR_spec hi hw
  unfold gstep at h
  split at h
  · rename_i sv ob' hst
    cases h
    have hd := stepO_dst hst
    refine ok2_sym hwS hd (notDefer hst) (fun hq t sv hm hs => cndsS_spec (hob hq).2 t sv (mem_opTmps (by simpa using hm)) hs) fun hq => ?_
    have h1 := stepO_ok (C := C) hte hst (hob hq).1
    refine ⟨h1.1, fun s' hx => h1.2 s' ⟨hx.n, hx.df, fun x hxo hne => ?_, hx.l, hx.o⟩⟩
    have he : evalO (fun t => (klook t st.S).map unop) x = evalO (fun t => klook t (pickS st.S (opTmps o.op.operands.toList))) x := by
      cases x with
      | tmp t =>
        simp only [evalO, Stt.sy] at hne ⊢
        cases hk : klook t (pickS st.S (opTmps o.op.operands.toList)) with
        | none => exact absurd hk hne
        | some sv => exact pickS_look hk
      | _ => rfl
    have hx2 := hx.ops x hxo (by
      show evalO (fun t => (klook t st.S).map unop) x ≠ none
      rw [he]; exact hne)
    rw [hx2]; exact he
  · unfold gfall at h
    split at h
    · exact ok2_run (stepO_ok hte h hob) hwS
    · split at h
      · rename_i hd; cases h; exact ok2_skip hwS (dstOk_spec hd)
      · cases h
theorem pickG_ok {q : Bool} {c x y : Operand} (ho : o.op = .pick c x y) (hd : ∀ t, o.dst = some t → t < st.N) (hw : wantR i ds st.S o = some q) (h : pickG q o.guard st.S c x y = some (r, ob)) (hob : ob) : Ok2I P C i ds o st.sy r := fun ops hi => by
  have hwS := wantR_spec hi hw
  unfold pickG at h
  split at h
  case h_2 => cases h
  rename_i sc sx sy hc hx hy
  split at h
  case h_2 => cases h
  rename_i bc bx bz hbc hbx hbz
  cases h
  rw [evalL_eq] at hc hx hy
  have hqg : o.guard = none → q = true := fun hg => by unfold wantR at hw; rw [hg] at hw; simpa using hw.symm
  intro s' hext a w ⟨E, hE⟩
  have hwt : Region.wanted o (yielded ops a.tmps) = q := wantS_spec hE (wantS_ext hwS hext.look)
  have hd' : ∀ t, o.dst = some t → t < s'.N := fun t ht => by rw [hext.n]; exact hd t ht
  refine ⟨fun hh => ?_, fun hh => ?_⟩
  · have hq : q = true := hwt.symm.trans hh
    obtain ⟨h1, h2, h3⟩ := hob hq
    refine ⟨by simp [ho], ?_⟩
    have hx1 := hext.ext
    have e1 := (unop_den h1).1 (hx1.ev hE (x := c) (by simp [ho, Op.operands]) hc)
    rw [hbc] at e1
    simp only [DenV, RdV] at e1
    have e2 := hx1.ev hE (x := x) (by simp [ho, Op.operands]) hx
    have e3 := hx1.ev hE (x := y) (by simp [ho, Op.operands]) hy
    have hr : (execOp a.eval o).run P w = .ok (.value (.bool (bif bc then bx else bz))) w := by
      cases hcc : bc with
      | true =>
        have := (unop_den (h2 hcc)).1 e2
        rw [hbx] at this
        simp only [DenV, RdV] at this
        rw [hcc] at e1
        simp [execOp, ho, e1, asBool, this]
      | false =>
        have := (unop_den (h3 hcc)).1 e3
        rw [hbz] at this
        simp only [DenV, RdV] at this
        rw [hcc] at e1
        simp [execOp, ho, e1, asBool, this]
    unfold gives
    rw [hr]
    refine ⟨E, hE.slot hd' ?_⟩
    unfold opS
    split
    · simp [DenV, RdV]
    · subst hq; simp [DenV, RdV]
  · have hq : q = false := hwt.symm.trans hh
    refine ⟨E, hE.slot hd' ?_⟩
    unfold opS
    split
    · rename_i hg; have := hqg hg; rw [hq] at this; cases this
    · subst hq; simp [DenV]
theorem plainStep_ok (hte : TEok P te) (h : plainStep te i ds st o = some (r, ob)) (hob : ob) : Ok2I P C i ds o st.sy r := by
  unfold plainStep at h
  split at h
  · rename_i hg
    exact fun ops _ => ok2_run (stepO_ok hte h hob) (by simp [wantS, hg])
  · split at h
    · cases h
    · split at h
      · rename_i q hw; exact gstep_ok hte hw h hob
      · cases h
theorem step2_ok (hte : TEok P te) (h : step2 te i ds st o = some (r, ob)) (hob : ob) : Ok2I P C i ds o st.sy r := by
  unfold step2 at h
  split at h
  · rename_i c x y hop
    unfold pickStep at h
    split at h
    · rename_i hd
      split at h
      · rename_i q hw; exact pickG_ok hop (dstOk_spec hd) hw h hob
      · cases h
    · cases h
  · exact plainStep_ok hte h hob
end
/-! ### a region in the order of its text -/
def WalkI (P : Program) (C : Ctx) (ops : Array Oper) (i : Nat) (ds : List (Option Tmp)) (l : List Oper) (s : Sy) (Q : Sy → Prop) : Prop := GInv ops i ds → (∃ r, l ++ r = ops.toList.drop i) → Walk P C ops l s Q
theorem walkI_step {P : Program} {C : Ctx} {ops : Array Oper} {i : Nat} {ds : List (Option Tmp)} {o : Oper} {r : List Oper} {st : Stt} {Q : Sy → Prop} {res : Res} (h : Ok2I P C i ds o st.sy res)
    (hr : WalkI P C ops (i + 1) (o.dst :: ds) r (applyL o.dst res st).sy Q) : WalkI P C ops i ds (o :: r) st.sy Q := fun hi hl => by
  obtain ⟨r2, hl⟩ := hl
  obtain ⟨ho, hr'⟩ := drop_cons hl
  refine ⟨_, h ops hi _ (ExtG.refl _ _ _), ?_⟩
  rw [← applyL_sy]
  exact hr (hi.cons ho) ⟨r2, hr'⟩
/-- go on with what an operation makes: x is what the operation o at place i comes to; r stand behind it -/
def runX (P : Program) (C : Ctx) (te : TE) (ops : Array Oper) : List Oper → Nat → List (Option Tmp) → Option (Res × Prop) → Oper → Stt → (Sy → Prop) → Prop
  | [], i, ds, x, o, st, Q => match x with
    | some (res, ob) => ob ∧ Q (applyL o.dst res st).sy
    | none => WalkI P C ops i ds [o] st.sy Q
  | o' :: r, i, ds, x, o, st, Q => match x with
    | some (res, ob) => ob ∧ runX P C te ops r (i + 1) (o.dst :: ds) (step2 te (i + 1) (o.dst :: ds) (applyL o.dst res st) o') o' (applyL o.dst res st) Q
    | none => WalkI P C ops i ds (o :: o' :: r) st.sy Q
def runL (P : Program) (C : Ctx) (te : TE) (ops : Array Oper) (i : Nat) (ds : List (Option Tmp)) (l : List Oper) (st : Stt) (Q : Sy → Prop) : Prop := match l with
  | [] => Q st.sy
  | o :: r => runX P C te ops r i ds (step2 te i ds st o) o st Q
section
variable {P : Program} {C : Ctx} {te : TE} {ops : Array Oper} {i : Nat} {ds : List (Option Tmp)} {o o' : Oper} {r : List Oper} {st : Stt} {Q : Sy → Prop}
theorem runL_nil : runL P C te ops i ds [] st Q = Q st.sy := rfl
theorem runL_cons : runL P C te ops i ds (o :: r) st Q = runX P C te ops r i ds (step2 te i ds st o) o st Q := rfl
theorem runX_none : runX P C te ops r i ds none o st Q = WalkI P C ops i ds (o :: r) st.sy Q := by cases r <;> rfl
theorem runX_nil {res : Res} {ob : Prop} : runX P C te ops [] i ds (some (res, ob)) o st Q = (ob ∧ Q (applyL o.dst res st).sy) := rfl
theorem runX_cons {res : Res} {ob : Prop} : runX P C te ops (o' :: r) i ds (some (res, ob)) o st Q = (ob ∧ runX P C te ops r (i + 1) (o.dst :: ds) (step2 te (i + 1) (o.dst :: ds) (applyL o.dst res st) o') o' (applyL o.dst res st) Q) := rfl
theorem runX_some {res : Res} {ob : Prop} : runX P C te ops r i ds (some (res, ob)) o st Q = (ob ∧ runL P C te ops (i + 1) (o.dst :: ds) r (applyL o.dst res st) Q) := by cases r <;> rfl
end
theorem runL_walk {P : Program} {C : Ctx} {te : TE} (hte : TEok P te) {ops : Array Oper} : ∀ {l : List Oper} {i : Nat} {ds : List (Option Tmp)} {st : Stt} {Q : Sy → Prop}, runL P C te ops i ds l st Q → WalkI P C ops i ds l st.sy Q
  | [], _, _, _, _, h => fun _ _ => h
  | o :: r, i, ds, st, Q, h => by
    rw [runL_cons] at h
    cases hx : step2 te i ds st o with
    | none => rw [hx, runX_none] at h; exact h
    | some x =>
      obtain ⟨res, ob⟩ := x
      rw [hx, runX_some] at h
      exact walkI_step (step2_ok hte hx h.1) (runL_walk hte h.2)
/-- a region: its end state comes out of the walk -/
theorem Exec.regionL {P : Program} {b : Frame} {cs : List Frame} {T : Machine → Prop} {C : Ctx} {k : List Item} {te : TE} (hte : TEok P te) {id : Nat} {ops : Array Oper} {st st' : Stt} (h : ∀ ops' (Q : Sy → Prop), Q st'.sy → runL P C te ops' 0 [] ops.toList st Q) (hk : Exec ⟨P, b, cs, T, C⟩ k st'.sy) : Exec ⟨P, b, cs, T, C⟩ (.code (.region id ops false) :: k) st.sy :=
  Exec.region (runL_walk hte (h ops (Exec ⟨P, b, cs, T, C⟩ k) hk) GInv.nil ⟨[], by simp⟩)
/-! ### a part of a region -/
theorem walk_part {R : Rn} {k : List Item} {ops : Array Oper} {rest : List Nat} : ∀ (l : List Oper) (i : Nat) (s : Sy), (∀ j, j < l.length → l[j]? = ops[i + j]?) → Walk R.P R.C ops l s (Exec R (.inRegion ops rest :: k)) → Exec R (.inRegion ops (List.range' i l.length ++ rest) :: k) s
  | [], i, s, _, h => h
  | o :: r, i, s, hl, ⟨s', h1, h2⟩ => by
    have ho : ops[i]? = some o := by simpa using (hl 0 (by simp)).symm
    simp only [List.length_cons, List.range'_succ, List.cons_append]
    exact any_op ho h1 (walk_part (R := R) (k := k) (ops := ops) r (i + 1) s' (fun j hj => by have := hl (j + 1) (by simpa using hj); simpa [Nat.add_assoc, Nat.add_comm 1 j] using this) h2)
/-- what the first operations write, the last first -/
def dsts : List Oper → List (Option Tmp) → List (Option Tmp)
  | [], acc => acc
  | o :: r, acc => dsts r (o.dst :: acc)
theorem GInv.dsts {ops : Array Oper} : ∀ (l : List Oper) {i : Nat} {ds : List (Option Tmp)}, GInv ops i ds → (∃ r, l ++ r = ops.toList.drop i) → GInv ops (i + l.length) (Kin.dsts l ds)
  | [], i, ds, h, _ => h
  | o :: r, i, ds, h, ⟨r2, hl⟩ => by
    obtain ⟨ho, hr⟩ := drop_cons hl
    have := GInv.dsts r (h.cons ho) ⟨r2, hr⟩
    simpa [Kin.dsts, Nat.add_assoc, Nat.add_comm 1 r.length] using this
/-- n operations from place i on; m are left -/
theorem Exec.regPart {P : Program} {b : Frame} {cs : List Frame} {T : Machine → Prop} {C : Ctx} {k : List Item} {te : TE} (i n m : Nat) (hte : TEok P te) {ops : Array Oper} {st st' : Stt} (hs : ops.toList.length = i + n + m)
    (h : ∀ ops' (Q : Sy → Prop), Q st'.sy → runL P C te ops' i (dsts (ops.toList.take i) []) ((ops.toList.drop i).take n) st Q) (hk : Exec ⟨P, b, cs, T, C⟩ (.inRegion ops (List.range' (i + n) m) :: k) st'.sy) : Exec ⟨P, b, cs, T, C⟩ (.inRegion ops (List.range' i (n + m)) :: k) st.sy := by
  have h1 := runL_walk hte (h ops (Exec ⟨P, b, cs, T, C⟩ (.inRegion ops (List.range' (i + n) m) :: k)) hk)
  have h2 : GInv ops i (dsts (ops.toList.take i) []) := by
    have := GInv.dsts (ops.toList.take i) (GInv.nil (ops := ops)) ⟨ops.toList.drop i, by simp⟩
    rwa [List.length_take, Nat.zero_add, Nat.min_eq_left (by omega)] at this
  have h3 := h1 h2 ⟨(ops.toList.drop i).drop n, List.take_append_drop _ _⟩
  have hlen : ((ops.toList.drop i).take n).length = n := by simp only [List.length_take, List.length_drop]; omega
  have h4 := walk_part (R := ⟨P, b, cs, T, C⟩) (k := k) (ops := ops) (rest := List.range' (i + n) m) ((ops.toList.drop i).take n) i st.sy (fun j hj => by
    rw [hlen] at hj
    rw [List.getElem?_take_of_lt hj, List.getElem?_drop]; simp) h3
  rw [hlen, ← List.range'_append_1] at *
  exact h4
theorem Exec.regStart {R : Rn} {k : List Item} {id : Nat} {ops : Array Oper} {s : Sy} (n : Nat) (hs : ops.toList.length = n) (h : Exec R (.inRegion ops (List.range' 0 n) :: k) s) : Exec R (.code (.region id ops false) :: k) s := by
  subst hs
  rw [Array.length_toList, ← List.range_eq_range'] at h
  exact Exec.one (fun _ _ => stepR_region) h
theorem Exec.regEnd {R : Rn} {k : List Item} {i : Nat} {ops : Array Oper} {s : Sy} (h : Exec R k s) : Exec R (.inRegion ops (List.range' i 0) :: k) s := Exec.one (fun _ _ => stepR_region_end) h
/-! ### calls -/
section
variable {P : Program} {C : Ctx} {ops : Array Oper} {o : Oper} {r : List Oper} {i : Nat} {ds : List (Option Tmp)} {st : Stt} {Q : Sy → Prop} {te : TE}
theorem FnOK.args {g : FuncId} {xs ys : List D} {res : D} (h : FnOK I P g ys res) (hle : LeDs xs ys) : FnOK I P g xs res :=
  ⟨h.1, fun w Z vs hi hz hv => h.2 w Z vs hi hz (hle.rd hv)⟩
theorem ok2_call (hI : ∀ w, BelM C w → I w) (hg : o.guard = none) (hd : dstOk o st.N = true) {f : Operand} {args : Array Operand} {ts : Array TypeId} {g : FuncId} {caps xs : List D} {res : D}
    (ho : o.op = .call { callee := .value f, args := args, argTypes := ts }) (hf : evalO (fun t => klook t st.S) f = some (.d (.fn g caps))) (hargs : argsD (fun t => klook t st.S) args.toList = some xs)
    (h : FnOK I P g (xs ++ caps) res) : Ok2I P C i ds o st.sy ⟨.d res, [], [], [], []⟩ := fun ops _ =>
  ok2_run (ok_call hI ho (dstOk_spec hd) hf hargs h) (by simp [wantS, hg])
theorem ok2_callG (hI : ∀ w, BelM C w → I w) {q : Bool} (hw : wantR i ds st.S o = some q) (hd : dstOk o st.N = true) {f : Operand} {args : Array Operand} {ts : Array TypeId} {g : FuncId} {caps xs : List D} {res : D}
    (ho : o.op = .call { callee := .value f, args := args, argTypes := ts }) (hf : evalO (fun t => (klook t st.S).map unop) f = some (.d (.fn g caps))) (hargs : argsD (fun t => (klook t st.S).map unop) args.toList = some xs)
    (hc : q = true → cndsS st.S (opTmps o.op.operands.toList)) (h : q = true → FnOK I P g (xs ++ caps) res) : Ok2I P C i ds o st.sy ⟨.op q (.d res), [], [], [], []⟩ := fun ops hi =>
  ok2_sym (wantR_spec hi hw) (dstOk_spec hd) (by simp [ho]) (fun hq t sv hm hs => cndsS_spec (hc hq) t sv (mem_opTmps (by simpa using hm)) hs) fun hq =>
    ok_call hI ho (dstOk_spec hd) hf hargs (h hq)
/-- a call in a region -/
theorem kcall (hI : ∀ w, BelM C w → I w) (hte : TEok P te) (hg : o.guard = none) (hd : dstOk o st.N = true) {f : Operand} {args : Array Operand} {ts : Array TypeId} {g : FuncId} {caps xs all : List D} {res : D}
    (ho : o.op = .call { callee := .value f, args := args, argTypes := ts }) (hf : evalO (fun t => klook t st.S) f = some (.d (.fn g caps))) (hargs : argsD (fun t => klook t st.S) args.toList = some xs) (hall : xs ++ caps = all)
    (h : FnOK I P g all res) (hr : runL P C te ops (i + 1) (o.dst :: ds) r (applyL o.dst ⟨.d res, [], [], [], []⟩ st) Q) : WalkI P C ops i ds (o :: r) st.sy Q := by
  subst hall
  exact walkI_step (ok2_call hI hg hd ho hf hargs h) (runL_walk hte hr)
/-- a call under a guard -/
theorem kcallG (hI : ∀ w, BelM C w → I w) (hte : TEok P te) {q : Bool} (hw : wantR i ds st.S o = some q) (hd : dstOk o st.N = true) {f : Operand} {args : Array Operand} {ts : Array TypeId} {g : FuncId} {caps xs all : List D} {res : D}
    (ho : o.op = .call { callee := .value f, args := args, argTypes := ts }) (hf : evalO (fun t => (klook t st.S).map unop) f = some (.d (.fn g caps))) (hargs : argsD (fun t => (klook t st.S).map unop) args.toList = some xs) (hall : xs ++ caps = all)
    (hc : q = true → cndsS st.S (opTmps o.op.operands.toList)) (h : q = true → FnOK I P g all res) (hr : runL P C te ops (i + 1) (o.dst :: ds) r (applyL o.dst ⟨.op q (.d res), [], [], [], []⟩ st) Q) : WalkI P C ops i ds (o :: r) st.sy Q := by
  subst hall
  exact walkI_step (ok2_callG hI hw hd ho hf hargs hc h) (runL_walk hte hr)
end
end Go.Kin
