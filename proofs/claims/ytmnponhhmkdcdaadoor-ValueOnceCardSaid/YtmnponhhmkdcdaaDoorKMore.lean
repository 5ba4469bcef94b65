/- Calls and struct literals. -/
import Derived.Test.YtmnponhhmkdcdaaDoorKMem
namespace Go.Kin
open Go.RowKit
variable {I : World → Prop}

/-- the call of this function comes to its body -/
def Enters (P : Program) (f : FuncId) : Prop := ∃ fn, P.funcs[f]? = some fn ∧ fn.body.isNone = false ∧ (fn.name == "runtime.NumGoroutine") = false
theorem Enters.run {P : Program} {f : FuncId} (h : Enters P f) (args : Array Value) (w : World) : (callFunc f args).run P w = .ok (.enter f args) w := by
  obtain ⟨fn, h1, h2, h3⟩ := h
  have h2' : ¬ (fn.body = none) := by intro e; rw [e] at h2; simp at h2
  have h3' : ¬ (fn.name = "runtime.NumGoroutine") := by intro e; rw [e] at h3; simp at h3
  simp [callFunc, h1, h2', h3']

/-- nothing is asked of the world -/
def NoI : World → Prop := fun _ => True
/-- what stays so while memory grows -/
def Stable (I : World → Prop) : Prop := ∀ w w', I w → Below w.heap.size w w' → I w'
theorem NoI_stable : Stable NoI := fun _ _ _ _ => trivial

/-- THE CONTRACT: called with what reads as these data, in a world in which I is so, it gives back what reads as that one, and does nothing but make new memory -/
def FnOK (I : World → Prop) (P : Program) (f : FuncId) (args : List D) (res : D) : Prop :=
  Enters P f ∧ ∀ (w : World) (Z : Nat → Prop) (vs : List Value), I w → (∀ b, Z b → b < w.heap.size) → RdL w Z args vs →
    Calls P f vs.toArray w fun e w' => ∃ v Z', e = .returned v ∧ Below w.heap.size w w' ∧ (∀ b, Z' b → b < w'.heap.size ∧ (Z b ∨ w.heap.size ≤ b)) ∧ RdV w' Z' res v

section
variable {P : Program} {C : Ctx} {o : Oper} {s s' : Sy} {E : Env} {a : Act} {w : World}

/-- the data of arguments -/
def argD : SV → Option D
  | .d x => some x
  | _ => none
def argsD (S : FS) : List Operand → Option (List D)
  | [] => some []
  | x :: r => match evalO S x with
    | some (.d d) => match argsD S r with | some ds => some (d :: ds) | none => none
    | _ => none

theorem argsD_den (hext : Ext o s s') (hE : SatE C E s' a w) : ∀ {l : List Operand} {ds : List D}, (∀ x ∈ l, x ∈ o.op.operands) → argsD s.S l = some ds → RdL w E.Z ds (l.map a.eval)
  | [], ds, _, h => by simp [argsD] at h; subst h; simp [RdL]
  | x :: l, ds, hm, h => by
    simp only [argsD] at h
    split at h
    · rename_i d hx
      cases hr : argsD s.S l with
      | none => simp [hr] at h
      | some ds' =>
        simp [hr] at h; subst h
        have := hext.ev hE (hm x (by simp)) hx
        simp only [List.map_cons, RdL]
        simp only [DenV] at this
        exact ⟨_, _, rfl, this, argsD_den hext hE (fun y hy => hm y (by simp [hy])) hr⟩
    · cases h

theorem ok_call (hI : ∀ w, BelM C w → I w) {f : Operand} {args : Array Operand} {ts : Array TypeId} {g : FuncId} {caps ds : List D} {res : D} (ho : o.op = .call { callee := .value f, args := args, argTypes := ts }) (ht : ∀ t, o.dst = some t → t < s.N)
    (hf : evalO s.S f = some (.d (.fn g caps))) (hargs : argsD s.S args.toList = some ds) (h : FnOK I P g (ds ++ caps) res) : Ok1 P C o s ⟨.d res, [], [], [], []⟩ := by
  refine ⟨by simp [ho], fun s' hext a w ⟨E, hE⟩ => ?_⟩
  have hfv := hext.ev hE (x := f) (by simp [ho, Op.operands, Call.operands]) hf
  have hav := argsD_den hext hE (l := args.toList) (fun x hx => by simp [ho, Op.operands, Call.operands] at hx ⊢; exact .inr hx) hargs
  simp only [DenV, RdV] at hfv
  obtain ⟨cs, e1, h1⟩ := hfv
  have hr : (execOp a.eval o).run P w = .ok (.enter g (args.toList.map a.eval ++ cs).toArray) w := by
    have : (args.map a.eval ++ cs.toArray) = (args.toList.map a.eval ++ cs).toArray := Array.ext' (by simp)
    simp [execOp, ho, resolve, e1, Deferred.ofValue, invoke, h.1.run, this]
  have hc := h.2 w E.Z (args.toList.map a.eval ++ cs) (hI w hE.hp.bel) (fun b hb => (hE.hp.z b hb).1) (RdL_append hav h1)
  unfold gives
  rw [hr]
  refine hc.mono ?_
  rintro e w' ⟨v, Z', rfl, hb, hz, hv⟩
  refine ⟨v, rfl, ?_⟩
  have hg := hE.grow hb Z' hz
  exact ⟨_, hg.slot (fun t e => by rw [hext.n]; exact ht t e) (by
    simp only [DenV]
    exact hv.mono ⟨fun b hb => .inr hb, fun b _ => rfl⟩)⟩

/-! struct literals -/
def setMany : List D → Nat → List D → List D
  | cs, _, [] => cs
  | cs, off, d :: r => setMany (cs.set off d) (off + 1) r
def setManyV : List Value → Nat → List Value → List Value
  | cs, _, [] => cs
  | cs, off, d :: r => setManyV (cs.set off d) (off + 1) r
theorem setMany_length : ∀ (ds cs : List D) (off : Nat), (setMany cs off ds).length = cs.length
  | [], _, _ => rfl
  | d :: ds, cs, off => by simp [setMany, setMany_length ds]
theorem setManyV_length : ∀ (ds cs : List Value) (off : Nat), (setManyV cs off ds).length = cs.length
  | [], _, _ => rfl
  | d :: ds, cs, off => by simp [setManyV, setManyV_length ds]
theorem RdL_set {Z : Nat → Prop} {d : D} {v : Value} (hv : RdV w Z d v) : ∀ {cs : List D} {vs : List Value} {i : Nat}, RdL w Z cs vs → RdL w Z (cs.set i d) (vs.set i v)
  | [], vs, i, h => by simp only [RdL] at h; subst h; simp [RdL]
  | c :: cs, vs, i, h => by
    simp only [RdL] at h
    obtain ⟨v', vs', rfl, h1, h2⟩ := h
    cases i with
    | zero => simp only [List.set_cons_zero, RdL]; exact ⟨v, vs', rfl, hv, h2⟩
    | succ i => simp only [List.set_cons_succ, RdL]; exact ⟨v', _, rfl, h1, RdL_set hv h2⟩
theorem RdL_setMany {Z : Nat → Prop} : ∀ {ds cs : List D} {us vs : List Value} {off : Nat}, RdL w Z cs vs → RdL w Z ds us → RdL w Z (setMany cs off ds) (setManyV vs off us)
  | [], cs, us, vs, off, h, h' => by simp only [RdL] at h'; subst h'; exact h
  | d :: ds, cs, us, vs, off, h, h' => by
    simp only [RdL] at h'
    obtain ⟨v', vs', rfl, h1, h2⟩ := h'
    simp only [setMany, setManyV]
    exact RdL_setMany (RdL_set h1 h) h2
theorem foldl_set (off : Nat) : ∀ (vs : List Value) (n : Nat) (cs : Array Value), ((vs.zipIdx n).foldl (fun cs (c, j) => cs.setIfInBounds (off + j) c) cs).toList = setManyV cs.toList (off + n) vs
  | [], n, cs => by simp [setManyV]
  | v :: vs, n, cs => by
    simp only [List.zipIdx_cons, List.foldl_cons, setManyV]
    rw [foldl_set off vs (n + 1) _]
    simp [Nat.add_assoc]

def fillS (place : Nat → Option (Nat × Nat)) : List D → List (Nat × List D) → Option (List D)
  | cells, [] => some cells
  | cells, (i, ds) :: r => match place i with
    | some (off, size) => if ds.length = size ∧ off + ds.length ≤ cells.length then fillS place (setMany cells off ds) r else none
    | none => none

theorem fillS_spec {Z : Nat → Prop} {place : Nat → Option (Nat × Nat)} : ∀ {parts : List (Nat × List D)} {vparts : List (Nat × Value)} {cells : List D} {vcells : Array Value} {out : List D}, RdL w Z cells vcells.toList →
    parts.map (·.1) = vparts.map (·.1) → (∀ (j : Nat) (p : Nat × List D) (vp : Nat × Value), parts[j]? = some p → vparts[j]? = some vp → RdL w Z p.2 vp.2.cells.toList) → fillS place cells parts = some out →
    ∃ vout, Instr.fill place vcells vparts = some vout ∧ RdL w Z out vout.toList
  | [], vparts, cells, vcells, out, hc, hm, _, h => by
    cases vparts with
    | cons => simp at hm
    | nil => simp [fillS] at h; subst h; exact ⟨vcells, rfl, hc⟩
  | (i, ds) :: r, vparts, cells, vcells, out, hc, hm, hp, h => by
    cases vparts with
    | nil => simp at hm
    | cons vp vr =>
      obtain ⟨i', v⟩ := vp
      simp only [List.map_cons, List.cons.injEq] at hm
      obtain ⟨rfl, hm⟩ := hm
      simp only [fillS] at h
      cases hpl : place i with
      | none => simp [hpl] at h
      | some os =>
        obtain ⟨off, size⟩ := os
        simp only [hpl] at h
        split at h
        · rename_i hcond
          have h0 := hp 0 (i, ds) (i, v) rfl rfl
          have hl0 := RdL_length h0
          have hlc := RdL_length hc
          simp only [Array.length_toList] at hl0 hlc
          have hnot : ¬ (v.cells.size ≠ size || off + v.cells.size > vcells.size) = true := by
            simp; constructor
            · rw [hl0]; exact hcond.1
            · rw [hl0, hlc]; exact hcond.2
          obtain ⟨vout, h3, h4⟩ := fillS_spec (vparts := vr) (vcells := v.cells.zipIdx.foldl (fun cs (c, j) => cs.setIfInBounds (off + j) c) vcells) (out := out)
            (by
              have := foldl_set off v.cells.toList 0 vcells
              have e2 : v.cells.zipIdx.foldl (fun cs (c, j) => cs.setIfInBounds (off + j) c) vcells = (v.cells.toList.zipIdx 0).foldl (fun cs (c, j) => cs.setIfInBounds (off + j) c) vcells := by
                rw [← Array.foldl_toList]; simp
              rw [e2, this]
              exact RdL_setMany hc h0) hm (fun j p vp hj hvj => hp (j + 1) p vp (by simpa using hj) (by simpa using hvj)) h
          refine ⟨vout, ?_, h4⟩
          simp only [Instr.fill, hpl]
          rw [if_neg hnot]
          exact h3
        · cases h

/-- the data that a part of a literal brings -/
def partD : SV → Option (List D)
  | .d (.ag ds) => some ds
  | .d (.tup _) => none
  | .d (.v x) => match x with | .agg _ => none | .tuple _ => none | _ => some [.v x]
  | .d x => some [x]
  | _ => none
theorem partD_den {sv : SV} {ds : List D} (h : partD sv = some ds) {v : Value} (hv : DenV E w sv v) : RdL w E.Z ds v.cells.toList := by
  have h1 : ∀ x : D, (∀ y, x ≠ .ag y) → (∀ y, x ≠ .tup y) → (∀ y, x ≠ .v y) → RdV w E.Z x v → RdL w E.Z [x] v.cells.toList := fun x ha ht hvv hr => by
    have hsh : v.cells = #[v] := by
      cases x with
      | v x => exact absurd rfl (hvv x)
      | sl k n x row => simp only [RdV] at hr; obtain ⟨_, _, rfl, _⟩ := hr; rfl
      | ifc t d => simp only [RdV] at hr; obtain ⟨_, rfl, _⟩ := hr; rfl
      | ptr cs => simp only [RdV] at hr; obtain ⟨_, _, rfl, _⟩ := hr; rfl
      | fn f caps => simp only [RdV] at hr; obtain ⟨_, rfl, _⟩ := hr; rfl
      | ag ds => exact absurd rfl (ha ds)
      | tup ds => exact absurd rfl (ht ds)
    rw [hsh]
    simp only [RdL]
    exact ⟨v, [], rfl, hr, rfl⟩
  unfold partD at h
  split at h
  · cases h; simp only [DenV, RdV] at hv; obtain ⟨vs, rfl, hl⟩ := hv; simpa [Value.cells] using hl
  · cases h
  · rename_i x
    simp only [DenV, RdV] at hv
    subst hv
    split at h <;> first | cases h; done | skip
    rename_i a1 a2
    cases h
    cases v <;> first | exact absurd rfl (a1 _) | exact absurd rfl (a2 _) | (simp [Value.cells, RdL, RdV])
  · rename_i x a1 a2 a3
    cases h
    exact h1 x (fun y e => a1 y (by rw [e])) (fun y e => a2 y (by rw [e])) (fun y e => a3 y (by rw [e])) (by simpa [DenV] using hv)
  · cases h

def partsD (S : FS) : List (Nat × Operand) → Option (List (Nat × List D))
  | [] => some []
  | (i, x) :: r => match evalO S x with
    | some sv => match partD sv, partsD S r with
      | some ds, some l => some ((i, ds) :: l)
      | _, _ => none
    | none => none
theorem partsD_den (hext : Ext o s s') (hE : SatE C E s' a w) : ∀ {l : List (Nat × Operand)} {ps : List (Nat × List D)}, (∀ x ∈ l, x.2 ∈ o.op.operands) → partsD s.S l = some ps →
    ps.map (·.1) = (l.map fun (i, x) => (i, a.eval x)).map (·.1) ∧ ∀ (j : Nat) (p : Nat × List D) (vp : Nat × Value), ps[j]? = some p → (l.map fun (i, x) => (i, a.eval x))[j]? = some vp → RdL w E.Z p.2 vp.2.cells.toList
  | [], ps, _, h => by simp [partsD] at h; subst h; simp
  | (i, x) :: r, ps, hm, h => by
    simp only [partsD] at h
    cases hx : evalO s.S x with
    | none => simp [hx] at h
    | some sv =>
      simp only [hx] at h
      cases hp : partD sv with
      | none => simp [hp] at h
      | some ds =>
        cases hr : partsD s.S r with
        | none => simp [hp, hr] at h
        | some l =>
          simp [hp, hr] at h
          subst h
          obtain ⟨h1, h2⟩ := partsD_den hext hE (fun y hy => hm y (by simp [hy])) hr
          refine ⟨by simpa using h1, fun j p vp hj hvj => ?_⟩
          cases j with
          | zero =>
            simp at hj hvj
            subst hj; subst hvj
            exact partD_den hp (hext.ev hE (hm (i, x) (by simp)) hx)
          | succ j => exact h2 j p vp (by simpa using hj) (by simpa using hvj)

theorem RdL_plain (Z : Nat → Prop) (vs : List Value) : RdL w Z (vs.map D.v) vs := by
  induction vs with
  | nil => simp [RdL]
  | cons v vs ih => simp only [List.map_cons, RdL, RdV]; exact ⟨v, vs, rfl, rfl, ih⟩

def placesOf (te : TE) : List Field → Option (List (Nat × Nat))
  | [] => some []
  | f :: r => match klook f.type te, placesOf te r with
    | some i, some l => some ((f.offset, i.size) :: l)
    | _, _ => none
theorem placesOf_spec {te : TE} (hte : TEok P te) : ∀ {fs : List Field} {l : List (Nat × Nat)}, placesOf te fs = some l → fs.mapM (fun f => (P.info? f.type).map fun i => (f.offset, i.size)) = some l
  | [], l, h => by simp [placesOf] at h; subst h; rfl
  | f :: r, l, h => by
    simp only [placesOf] at h
    cases hf : klook f.type te with
    | none => simp [hf] at h
    | some i =>
      cases hr : placesOf te r with
      | none => simp [hf, hr] at h
      | some l' =>
        simp [hf, hr] at h; subst h
        obtain ⟨_, inf, z, h1, h2, _⟩ := hte _ _ hf
        have := placesOf_spec hte hr
        simp [List.mapM_cons, h1, h2, this]

theorem ok_build {te : TE} {t : TypeId} {parts : Array (Nat × Operand)} {ps : List (Nat × List D)} {fs : Array Field} {i : TyI} {pl : List (Nat × Nat)} {out : List D} (hte : TEok P te) (ho : o.op = .build t parts) (ht : ∀ t, o.dst = some t → t < s.N)
    (hi : klook t te = some i) (hu : i.u = .struct fs) (hpl : placesOf te fs.toList = some pl) (hp : partsD s.S parts.toList = some ps) (hf : fillS (fun j => pl[j]?) i.zero ps = some out) : Ok1 P C o s ⟨.d (.ag out), [], [], [], []⟩ := by
  refine ok_val (by simp [ho]) ht fun s' E a w hext hE => ?_
  obtain ⟨h1, h2⟩ := partsD_den hext hE (l := parts.toList) (fun x hx => by
    simp only [ho, Op.operands]
    simp only [List.mem_toArray, List.mem_map]
    exact ⟨x, hx, rfl⟩) hp
  obtain ⟨hun, inf, z, h3, h4, _, h5, h6⟩ := hte _ _ hi
  have hz : RdL w E.Z i.zero z.cells.toList := h6.1 w E.Z
  obtain ⟨vout, h7, h8⟩ := fillS_spec hz h1 h2 hf
  have hb : P.built t (parts.map fun (i, x) => (i, a.eval x)).toList = some vout := by
    unfold Program.built
    rw [hun, hu]
    simp only [h3, h5, placesOf_spec hte hpl]
    simpa using h7
  refine ⟨.agg vout, by simp [execOp, ho, run_build w t _ vout hb], ?_⟩
  simp only [DenV, RdV]
  exact ⟨vout.toList, by simp, h8⟩
end
end Go.Kin
