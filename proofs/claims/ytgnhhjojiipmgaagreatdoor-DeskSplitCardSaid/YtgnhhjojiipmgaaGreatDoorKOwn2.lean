/- Steps of a function body on data, and contracts of the functions of the seat, walked. -/
import Derived.Test.YtgnhhjojiipmgaaGreatDoorKOwn
set_option linter.unusedSimpArgs false
set_option linter.unusedVariables false
set_option linter.unusedSectionVars false
namespace Go.Kin
open Go.RowKit
variable {I : World → Prop}
/-- the call of this function comes to its body -/
def Enters (P : Program) (f : FuncId) : Prop := ∃ fn, P.funcs[f]? = some fn ∧ fn.body.isNone = false ∧ (fn.name == "runtime.NumGoroutine") = false
theorem Enters.run {P : Program} {f : FuncId} (h : Enters P f) (args : Array Value) (w : World) : (callFunc f args).run P w = .ok (.enter f args) w := by
  obtain ⟨fn, h1, h2, h3⟩ := h
  have h2' : ¬ (fn.body = none) := by intro e; rw [e] at h2; simp at h2
  have h3' : ¬ (fn.name = "runtime.NumGoroutine") := by intro e; rw [e] at h3; simp at h3
  simp [callFunc, h1, h2', h3']
/-- nothing is asked of the world -/
def NoI : World → Prop := fun _ => True
/-- what stays so while memory grows -/
def Stable (I : World → Prop) : Prop := ∀ w w', I w → Below w.heap.size w w' → I w'
theorem NoI_stable : Stable NoI := fun _ _ _ _ => trivial
/-- THE CONTRACT: called with what reads as these data, in a world in which I is so, it gives back what reads as that one, and does nothing but make new memory -/
def FnOK (I : World → Prop) (P : Program) (f : FuncId) (args : List D) (res : D) : Prop :=
  Enters P f ∧ ∀ (w : World) (Z : Nat → Prop) (vs : List Value), I w → (∀ b, Z b → b < w.heap.size) → RdL w Z args vs →
    Calls P f vs.toArray w fun e w' => ∃ v Z', e = .returned v ∧ Below w.heap.size w w' ∧ (∀ b, Z' b → b < w'.heap.size ∧ (Z b ∨ w.heap.size ≤ b)) ∧ RdV w' Z' res v
section
variable {P : Program} {C : Ctx} {o : Oper} {s s' : Sy} {E : Env} {a : Act} {w : World}
/-- the data of arguments -/
def argD : SV → Option D
  | .d x => some x
  | _ => none
def argsD (S : FS) : List Operand → Option (List D)
  | [] => some []
  | x :: r => match evalO S x with
    | some (.d d) => match argsD S r with | some ds => some (d :: ds) | none => none
    | _ => none
theorem argsD_den (hext : Ext o s s') (hE : SatE C E s' a w) : ∀ {l : List Operand} {ds : List D}, (∀ x ∈ l, x ∈ o.op.operands) → argsD s.S l = some ds → RdL w E.Z ds (l.map a.eval)
  | [], ds, _, h => by simp [argsD] at h; subst h; simp [RdL]
  | x :: l, ds, hm, h => by
    simp only [argsD] at h
    split at h
    · rename_i d hx
      cases hr : argsD s.S l with
      | none => simp [hr] at h
      | some ds' =>
        simp [hr] at h; subst h
        have := hext.ev hE (hm x (by simp)) hx
        simp only [List.map_cons, RdL]
        simp only [DenV] at this
        exact ⟨_, _, rfl, this, argsD_den hext hE (fun y hy => hm y (by simp [hy])) hr⟩
    · cases h
theorem ok_call (hI : ∀ w, BelM C w → I w) {f : Operand} {args : Array Operand} {ts : Array TypeId} {g : FuncId} {caps ds : List D} {res : D} (ho : o.op = .call { callee := .value f, args := args, argTypes := ts }) (ht : ∀ t, o.dst = some t → t < s.N)
    (hf : evalO s.S f = some (.d (.fn g caps))) (hargs : argsD s.S args.toList = some ds) (h : FnOK I P g (ds ++ caps) res) : Ok1 P C o s ⟨.d res, [], [], [], []⟩ := by
  refine ⟨by simp [ho], fun s' hext a w ⟨E, hE⟩ => ?_⟩
  have hfv := hext.ev hE (x := f) (by simp [ho, Op.operands, Call.operands]) hf
  have hav := argsD_den hext hE (l := args.toList) (fun x hx => by simp [ho, Op.operands, Call.operands] at hx ⊢; exact .inr hx) hargs
  simp only [DenV, RdV] at hfv
  obtain ⟨cs, e1, h1⟩ := hfv
  have hr : (execOp a.eval o).run P w = .ok (.enter g (args.toList.map a.eval ++ cs).toArray) w := by
    have : (args.map a.eval ++ cs.toArray) = (args.toList.map a.eval ++ cs).toArray := Array.ext' (by simp)
    simp [execOp, ho, resolve, e1, Deferred.ofValue, invoke, h.1.run, this]
  have hc := h.2 w E.Z (args.toList.map a.eval ++ cs) (hI w hE.hp.bel) (fun b hb => (hE.hp.z b hb).1) (RdL_append hav h1)
  unfold gives
  rw [hr]
  refine hc.mono ?_
  rintro e w' ⟨v, Z', rfl, hb, hz, hv⟩
  refine ⟨v, rfl, ?_⟩
  have hg := hE.grow hb Z' hz
  exact ⟨_, hg.slot (fun t e => by rw [hext.n]; exact ht t e) (by
    simp only [DenV]
    exact hv.mono ⟨fun b hb => .inr hb, fun b _ => rfl⟩)⟩
/-! struct literals -/
def setMany : List D → Nat → List D → List D
  | cs, _, [] => cs
  | cs, off, d :: r => setMany (cs.set off d) (off + 1) r
def setManyV : List Value → Nat → List Value → List Value
  | cs, _, [] => cs
  | cs, off, d :: r => setManyV (cs.set off d) (off + 1) r
theorem setMany_length : ∀ (ds cs : List D) (off : Nat), (setMany cs off ds).length = cs.length
  | [], _, _ => rfl
  | d :: ds, cs, off => by simp [setMany, setMany_length ds]
theorem setManyV_length : ∀ (ds cs : List Value) (off : Nat), (setManyV cs off ds).length = cs.length
  | [], _, _ => rfl
  | d :: ds, cs, off => by simp [setManyV, setManyV_length ds]
theorem RdL_set {Z : Nat → Prop} {d : D} {v : Value} (hv : RdV w Z d v) : ∀ {cs : List D} {vs : List Value} {i : Nat}, RdL w Z cs vs → RdL w Z (cs.set i d) (vs.set i v)
  | [], vs, i, h => by simp only [RdL] at h; subst h; simp [RdL]
  | c :: cs, vs, i, h => by
    simp only [RdL] at h
    obtain ⟨v', vs', rfl, h1, h2⟩ := h
    cases i with
    | zero => simp only [List.set_cons_zero, RdL]; exact ⟨v, vs', rfl, hv, h2⟩
    | succ i => simp only [List.set_cons_succ, RdL]; exact ⟨v', _, rfl, h1, RdL_set hv h2⟩
theorem RdL_setMany {Z : Nat → Prop} : ∀ {ds cs : List D} {us vs : List Value} {off : Nat}, RdL w Z cs vs → RdL w Z ds us → RdL w Z (setMany cs off ds) (setManyV vs off us)
  | [], cs, us, vs, off, h, h' => by simp only [RdL] at h'; subst h'; exact h
  | d :: ds, cs, us, vs, off, h, h' => by
    simp only [RdL] at h'
    obtain ⟨v', vs', rfl, h1, h2⟩ := h'
    simp only [setMany, setManyV]
    exact RdL_setMany (RdL_set h1 h) h2
theorem foldl_set (off : Nat) : ∀ (vs : List Value) (n : Nat) (cs : Array Value), ((vs.zipIdx n).foldl (fun cs (c, j) => cs.setIfInBounds (off + j) c) cs).toList = setManyV cs.toList (off + n) vs
  | [], n, cs => by simp [setManyV]
  | v :: vs, n, cs => by
    simp only [List.zipIdx_cons, List.foldl_cons, setManyV]
    rw [foldl_set off vs (n + 1) _]
    simp [Nat.add_assoc]
def fillS (place : Nat → Option (Nat × Nat)) : List D → List (Nat × List D) → Option (List D)
  | cells, [] => some cells
  | cells, (i, ds) :: r => match place i with
    | some (off, size) => if ds.length = size ∧ off + ds.length ≤ cells.length then fillS place (setMany cells off ds) r else none
    | none => none
theorem fillS_spec {Z : Nat → Prop} {place : Nat → Option (Nat × Nat)} : ∀ {parts : List (Nat × List D)} {vparts : List (Nat × Value)} {cells : List D} {vcells : Array Value} {out : List D}, RdL w Z cells vcells.toList →
    parts.map (·.1) = vparts.map (·.1) → (∀ (j : Nat) (p : Nat × List D) (vp : Nat × Value), parts[j]? = some p → vparts[j]? = some vp → RdL w Z p.2 vp.2.cells.toList) → fillS place cells parts = some out →
    ∃ vout, Instr.fill place vcells vparts = some vout ∧ RdL w Z out vout.toList
  | [], vparts, cells, vcells, out, hc, hm, _, h => by
    cases vparts with
    | cons => simp at hm
    | nil => simp [fillS] at h; subst h; exact ⟨vcells, rfl, hc⟩
  | (i, ds) :: r, vparts, cells, vcells, out, hc, hm, hp, h => by
    cases vparts with
    | nil => simp at hm
    | cons vp vr =>
      obtain ⟨i', v⟩ := vp
      simp only [List.map_cons, List.cons.injEq] at hm
      obtain ⟨rfl, hm⟩ := hm
      simp only [fillS] at h
      cases hpl : place i with
      | none => simp [hpl] at h
      | some os =>
        obtain ⟨off, size⟩ := os
        simp only [hpl] at h
        split at h
        · rename_i hcond
          have h0 := hp 0 (i, ds) (i, v) rfl rfl
          have hl0 := RdL_length h0
          have hlc := RdL_length hc
          simp only [Array.length_toList] at hl0 hlc
          have hnot : ¬ (v.cells.size ≠ size || off + v.cells.size > vcells.size) = true := by
            simp; constructor
            · rw [hl0]; exact hcond.1
            · rw [hl0, hlc]; exact hcond.2
          obtain ⟨vout, h3, h4⟩ := fillS_spec (vparts := vr) (vcells := v.cells.zipIdx.foldl (fun cs (c, j) => cs.setIfInBounds (off + j) c) vcells) (out := out)
            (by
              have := foldl_set off v.cells.toList 0 vcells
              have e2 : v.cells.zipIdx.foldl (fun cs (c, j) => cs.setIfInBounds (off + j) c) vcells = (v.cells.toList.zipIdx 0).foldl (fun cs (c, j) => cs.setIfInBounds (off + j) c) vcells := by
                rw [← Array.foldl_toList]; simp
              rw [e2, this]
              exact RdL_setMany hc h0) hm (fun j p vp hj hvj => hp (j + 1) p vp (by simpa using hj) (by simpa using hvj)) h
          refine ⟨vout, ?_, h4⟩
          simp only [Instr.fill, hpl]
          rw [if_neg hnot]
          exact h3
        · cases h
theorem RdL_vals {w : World} {Z : Nat → Prop} : ∀ l : List Value, RdL w Z (l.map D.v) l
  | [] => by simp [RdL]
  | v :: l => by simp only [List.map_cons, RdL, RdV]; exact ⟨v, l, rfl, rfl, RdL_vals l⟩
/-- the data that a part of a literal brings -/
def partD : SV → Option (List D)
  | .d (.ag ds) => some ds
  | .d (.tup _) => none
  | .d (.v x) => match x with | .agg cs => some (cs.toList.map D.v) | .tuple _ => none | _ => some [.v x]
  | .d x => some [x]
  | _ => none
theorem partD_den {sv : SV} {ds : List D} (h : partD sv = some ds) {v : Value} (hv : DenV E w sv v) : RdL w E.Z ds v.cells.toList := by
  have h1 : ∀ x : D, (∀ y, x ≠ .ag y) → (∀ y, x ≠ .tup y) → (∀ y, x ≠ .v y) → RdV w E.Z x v → RdL w E.Z [x] v.cells.toList := fun x ha ht hvv hr => by
    have hsh : v.cells = #[v] := by
      cases x with
      | v x => exact absurd rfl (hvv x)
      | sl k n x row => simp only [RdV] at hr; obtain ⟨_, _, rfl, _⟩ := hr; rfl
      | ifc t d => simp only [RdV] at hr; obtain ⟨_, rfl, _⟩ := hr; rfl
      | ptr cs => simp only [RdV] at hr; obtain ⟨_, _, rfl, _⟩ := hr; rfl
      | fn f caps => simp only [RdV] at hr; obtain ⟨_, rfl, _⟩ := hr; rfl
      | ag ds => exact absurd rfl (ha ds)
      | tup ds => exact absurd rfl (ht ds)
    rw [hsh]
    simp only [RdL]
    exact ⟨v, [], rfl, hr, rfl⟩
  unfold partD at h
  split at h
  · cases h; simp only [DenV, RdV] at hv; obtain ⟨vs, rfl, hl⟩ := hv; simpa [Value.cells] using hl
  · cases h
  · rename_i x
    simp only [DenV, RdV] at hv
    subst hv
    split at h <;> first | (simp at h; done) | skip
    · rename_i cs
      cases h
      simpa [Value.cells] using RdL_vals cs.toList
    rename_i a1 a2
    cases h
    cases v <;> first | exact absurd rfl (a1 _) | exact absurd rfl (a2 _) | (simp [Value.cells, RdL, RdV])
  · rename_i x a1 a2 a3
    cases h
    exact h1 x (fun y e => a1 y (by rw [e])) (fun y e => a2 y (by rw [e])) (fun y e => a3 y (by rw [e])) (by simpa [DenV] using hv)
  · cases h
def partsD (S : FS) : List (Nat × Operand) → Option (List (Nat × List D))
  | [] => some []
  | (i, x) :: r => match evalO S x with
    | some sv => match partD sv, partsD S r with
      | some ds, some l => some ((i, ds) :: l)
      | _, _ => none
    | none => none
theorem partsD_den (hext : Ext o s s') (hE : SatE C E s' a w) : ∀ {l : List (Nat × Operand)} {ps : List (Nat × List D)}, (∀ x ∈ l, x.2 ∈ o.op.operands) → partsD s.S l = some ps →
    ps.map (·.1) = (l.map fun (i, x) => (i, a.eval x)).map (·.1) ∧ ∀ (j : Nat) (p : Nat × List D) (vp : Nat × Value), ps[j]? = some p → (l.map fun (i, x) => (i, a.eval x))[j]? = some vp → RdL w E.Z p.2 vp.2.cells.toList
  | [], ps, _, h => by simp [partsD] at h; subst h; simp
  | (i, x) :: r, ps, hm, h => by
    simp only [partsD] at h
    cases hx : evalO s.S x with
    | none => simp [hx] at h
    | some sv =>
      simp only [hx] at h
      cases hp : partD sv with
      | none => simp [hp] at h
      | some ds =>
        cases hr : partsD s.S r with
        | none => simp [hp, hr] at h
        | some l =>
          simp [hp, hr] at h
          subst h
          obtain ⟨h1, h2⟩ := partsD_den hext hE (fun y hy => hm y (by simp [hy])) hr
          refine ⟨by simpa using h1, fun j p vp hj hvj => ?_⟩
          cases j with
          | zero =>
            simp at hj hvj
            subst hj; subst hvj
            exact partD_den hp (hext.ev hE (hm (i, x) (by simp)) hx)
          | succ j => exact h2 j p vp (by simpa using hj) (by simpa using hvj)
theorem RdL_plain (Z : Nat → Prop) (vs : List Value) : RdL w Z (vs.map D.v) vs := by
  induction vs with
  | nil => simp [RdL]
  | cons v vs ih => simp only [List.map_cons, RdL, RdV]; exact ⟨v, vs, rfl, rfl, ih⟩
def placesOf (te : TE) : List Field → Option (List (Nat × Nat))
  | [] => some []
  | f :: r => match klook f.type te, placesOf te r with
    | some i, some l => some ((f.offset, i.size) :: l)
    | _, _ => none
theorem placesOf_spec {te : TE} (hte : TEok P te) : ∀ {fs : List Field} {l : List (Nat × Nat)}, placesOf te fs = some l → fs.mapM (fun f => (P.info? f.type).map fun i => (f.offset, i.size)) = some l
  | [], l, h => by simp [placesOf] at h; subst h; rfl
  | f :: r, l, h => by
    simp only [placesOf] at h
    cases hf : klook f.type te with
    | none => simp [hf] at h
    | some i =>
      cases hr : placesOf te r with
      | none => simp [hf, hr] at h
      | some l' =>
        simp [hf, hr] at h; subst h
        obtain ⟨_, inf, z, h1, h2, _⟩ := hte _ _ hf
        have := placesOf_spec hte hr
        simp [List.mapM_cons, h1, h2, this]
theorem ok_build {te : TE} {t : TypeId} {parts : Array (Nat × Operand)} {ps : List (Nat × List D)} {fs : Array Field} {i : TyI} {pl : List (Nat × Nat)} {out : List D} (hte : TEok P te) (ho : o.op = .build t parts) (ht : ∀ t, o.dst = some t → t < s.N)
    (hi : klook t te = some i) (hu : i.u = .struct fs) (hpl : placesOf te fs.toList = some pl) (hp : partsD s.S parts.toList = some ps) (hf : fillS (fun j => pl[j]?) i.zero ps = some out) : Ok1 P C o s ⟨.d (.ag out), [], [], [], []⟩ := by
  refine ok_val (by simp [ho]) ht fun s' E a w hext hE => ?_
  obtain ⟨h1, h2⟩ := partsD_den hext hE (l := parts.toList) (fun x hx => by
    simp only [ho, Op.operands]
    simp only [List.mem_toArray, List.mem_map]
    exact ⟨x, hx, rfl⟩) hp
  obtain ⟨hun, inf, z, h3, h4, _, h5, h6⟩ := hte _ _ hi
  have hz : RdL w E.Z i.zero z.cells.toList := h6.1 w E.Z
  obtain ⟨vout, h7, h8⟩ := fillS_spec hz h1 h2 hf
  have hb : P.built t (parts.map fun (i, x) => (i, a.eval x)).toList = some vout := by
    unfold Program.built
    rw [hun, hu]
    simp only [h3, h5, placesOf_spec hte hpl]
    simpa using h7
  refine ⟨.agg vout, by simp [execOp, ho, run_build w t _ vout hb], ?_⟩
  simp only [DenV, RdV]
  exact ⟨vout.toList, by simp, h8⟩
end
end Go.Kin
namespace Go.Kin
open Go.RowKit
section
variable {P : Program} {C : Ctx} {o : Oper} {s s' : Sy} {E : Env} {a : Act} {w : World}
/-- so often one behind the other -/
def repD {α : Type} (zs : List α) : Nat → List α
  | 0 => []
  | n + 1 => zs ++ repD zs n
def chunk {α : Type} (k : Nat) : Nat → List α → List (List α)
  | 0, _ => []
  | n + 1, l => l.take k :: chunk k n (l.drop k)
theorem repD_length {α : Type} (zs : List α) : ∀ n, (repD zs n).length = n * zs.length
  | 0 => by simp [repD]
  | n + 1 => by simp only [repD, List.length_append, repD_length zs n, Nat.add_mul]; omega
theorem RdL_rep {Z : Nat → Prop} {ds : List D} {vs : List Value} (h : RdL w Z ds vs) : ∀ n, RdL w Z (repD ds n) (repD vs n)
  | 0 => by simp [repD, RdL]
  | n + 1 => by simp only [repD]; exact RdL_append h (RdL_rep h n)
theorem repD_get {α : Type} (zs : List α) : ∀ (n j : Nat), j < n * zs.length → (repD zs n)[j]? = zs[j % zs.length]?
  | 0, j, h => by simp at h
  | n + 1, j, h => by
    simp only [repD]
    rcases Nat.lt_or_ge j zs.length with h1 | h1
    · rw [List.getElem?_append_left h1, Nat.mod_eq_of_lt h1]
    · rw [List.getElem?_append_right h1, repD_get zs n (j - zs.length) (by rw [Nat.add_mul] at h; omega), ← Nat.mod_eq_sub_mod h1]
theorem cells_rep (z : Array Value) (n : Nat) : ((Array.range (n * z.size)).map (z[· % z.size]!)).toList = repD z.toList n := by
  refine List.ext_getElem? fun j => ?_
  simp only [Array.toList_map, List.getElem?_map, Array.toList_range]
  rcases Nat.lt_or_ge j (n * z.size) with h | h
  · rw [List.getElem?_range h, repD_get z.toList n j (by simpa using h)]
    have hk : j % z.size < z.size := by
      rcases Nat.eq_zero_or_pos z.size with h0 | h0
      · rw [h0] at h; simp at h
      · exact Nat.mod_lt _ h0
    simp [hk]
  · rw [List.getElem?_eq_none (by simpa using h), List.getElem?_eq_none (by rw [repD_length]; simpa using h)]; rfl
theorem chunk_get {α : Type} (k : Nat) : ∀ (n : Nat) (l : List α) (i : Nat), i < n → (chunk k n l).getD i [] = (l.drop (i * k)).take k
  | 0, _, _, h => by omega
  | n + 1, l, 0, _ => by simp [chunk]
  | n + 1, l, i + 1, h => by
    simp only [chunk, List.getD_cons_succ]
    rw [chunk_get k n (l.drop k) i (by omega), List.drop_drop]
    congr 2
    rw [Nat.add_mul]; omega
theorem lfR_take : ∀ {ds : List D} {n : Nat}, lfR ds = true → lfR (ds.take n) = true
  | [], n, _ => by simp [lfR]
  | d :: ds, 0, _ => by simp [lfR]
  | d :: ds, n + 1, h => by simp only [lfR, Bool.and_eq_true, List.take_succ_cons] at h ⊢; exact ⟨h.1, lfR_take h.2⟩
theorem lfR_drop : ∀ {ds : List D} {n : Nat}, lfR ds = true → lfR (ds.drop n) = true
  | ds, 0, h => by simpa using h
  | [], n + 1, _ => by simp [lfR]
  | d :: ds, n + 1, h => by simp only [lfR, Bool.and_eq_true] at h; simpa using lfR_drop h.2
theorem core_buildSlice {t e len d : Nat} {parts : Array (Nat × Operand)} {ps : List (Nat × List D)} {i j : TyI} {out : List D} (ho : o.op = .buildSlice t len parts)
    (hi : TyOk P t i) (hu : i.u = .slice e) (hj : TyOk P e j) (hz : j.zero.length = j.size) (hlen : len * j.size ≤ 16777216) (htop : len ≤ topLen) (hp : partsD s.S parts.toList = some ps) (hf : fillS (fun i => some (i * j.size, j.size)) (repD j.zero len) ps = some out) (hol : out.length = len * j.size) (hlf : lfR out = true) :
    ∀ s' E a w, Ext o s s' → SatE C E s' a w → ∃ v' w', (execOp a.eval o).run P w = .ok (.value v') w' ∧ w.grownBy w' (oldB E none) ∧ (∀ g, v'.ownBlock = some g → w.heap.size ≤ g ∨ some g = oldB E none) ∧
      ∀ E' : Env, E'.Z = E.Z → E'.ω d = v' → OwnE E' w' d ⟨e, j.size, len, len, lstR (chunk j.size len out)⟩ := by
  intro s' E a w hext hE
  obtain ⟨h1, h2⟩ := partsD_den hext hE (l := parts.toList) (fun x hx => by
    simp only [ho, Op.operands]
    simp only [List.mem_toArray, List.mem_map]
    exact ⟨x, hx, rfl⟩) hp
  obtain ⟨hun, inf, z, h3, h4, _, h5, h6, _⟩ := hj
  have hzz : RdL w E.Z j.zero z.cells.toList := h6 w E.Z
  have hzs : z.cells.size = j.size := by rw [← Array.length_toList, RdL_length hzz, hz]
  have hcells : ∀ zero : Array Value, (len * j.size = 0 ∨ zero = z.cells) → ((Array.range (len * j.size)).map (zero[· % zero.size]!)).toList = repD z.cells.toList len := fun zero hzero => by
    rcases hzero with h0 | rfl
    · rw [h0]
      have : (repD z.cells.toList len).length = 0 := by rw [repD_length, Array.length_toList, hzs, h0]
      rw [List.eq_nil_of_length_eq_zero this]; simp
    · have := cells_rep z.cells len
      rw [hzs] at this
      rw [hzs]; exact this
  obtain ⟨vout, h7, h8⟩ := fillS_spec (place := fun i => some (i * j.size, j.size)) (vcells := ((repD z.cells.toList len)).toArray) (by simpa using RdL_rep hzz len) h1 h2 hf
  have hrun : ∀ zero : Array Value, (len * j.size = 0 ∨ zero = z.cells) → Instr.fill (fun i => some (i * j.size, j.size)) ((Array.range (len * j.size)).map (zero[· % zero.size]!)) (parts.toList.map fun (i, x) => (i, a.eval x)) = some vout := fun zero hzero => by
    rw [show (Array.range (len * j.size)).map (zero[· % zero.size]!) = (repD z.cells.toList len).toArray from Array.ext' (by rw [hcells zero hzero])]
    exact h7
  have hn : ¬ (16777216 < len * j.size) := by omega
  have hr : (execOp a.eval o).run P w = .ok (.value (.slice (some ⟨w.heap.size, 0, none⟩) len len)) (w.alloc (.cells vout e)) := by
    have hti := hi.1
    rw [hu] at hti
    by_cases h0 : len * j.size = 0
    · have := hrun #[] (.inl h0)
      simp [execOp, ho, Instr.buildSlice, run_underlying hti, sizeOf, typeInfo, h3, h4, h0] at this ⊢
      simp [this, run_newRow]
    · have := hrun z.cells (.inr rfl)
      simp [execOp, ho, Instr.buildSlice, run_underlying hti, sizeOf, typeInfo, zeroValue, h3, h4, h5, hn, h0] at this ⊢
      simp [this, run_newRow]
  have hvl : vout.toList.length = len * j.size := by rw [RdL_length h8, hol]
  have hmax : maxLen = 9223372036854775807 := rfl
  have htp : topLen = 140737488355328 := rfl
  refine ⟨_, _, hr, World.grownBy_alloc w _ none, fun g hg => .inl (by simp [Value.ownBlock] at hg; omega), fun E' hZ hkn => ?_⟩
  have hrow : ∀ q, q < len → lstR (chunk j.size len out) q = (out.drop (q * j.size)).take j.size := fun q hq => chunk_get j.size len out q hq
  refine ⟨⟨fun q hq => ?_, Nat.le_refl _, htop⟩, .inr ⟨w.heap.size, len, vout.toList, hkn, Nat.le_refl _, by omega, ?_, hvl, fun q hq => ?_⟩⟩
  · simp only at hq ⊢
    rw [hrow q hq]
    refine ⟨?_, lfR_take (lfR_drop hlf)⟩
    rw [List.length_take, List.length_drop, hol]
    have h9 : (q + 1) * j.size ≤ len * j.size := Nat.mul_le_mul_right _ hq
    rw [Nat.add_mul] at h9; omega
  · simp only [alloc_heap, if_true, Array.toArray_toList]
  · simp only at hq ⊢
    rw [hrow q hq, hZ]
    exact (RdL_take _ (RdL_drop _ h8)).mono ⟨fun _ h => h, fun b hb => by rw [alloc_heap, if_neg (by have := (hE.hp.z b hb).1; omega)]⟩
theorem ok_buildSlice {t e len d : Nat} {parts : Array (Nat × Operand)} {ps : List (Nat × List D)} {i j : TyI} {out : List D} (ho : o.op = .buildSlice t len parts) (hd : o.dst = some d) (ht : d < s.N)
    (hi : TyOk P t i) (hu : i.u = .slice e) (hj : TyOk P e j) (hz : j.zero.length = j.size) (hlen : len * j.size ≤ 16777216) (htop : len ≤ topLen) (hp : partsD s.S parts.toList = some ps) (hf : fillS (fun i => some (i * j.size, j.size)) (repD j.zero len) ps = some out) (hol : out.length = len * j.size) (hlf : lfR out = true) :
    Ok1 P C o s ⟨.own d, [], [(d, ⟨e, j.size, len, len, lstR (chunk j.size len out)⟩)], [d], []⟩ :=
  ok_own_of hd ht d none _ (by simp [ho]) (fun q hq => by cases hq) (core_buildSlice ho hi hu hj hz hlen htop hp hf hol hlf)
/-- a slice of the function's own, read -/
theorem OwnE.rd {E : Env} {w : World} {key : Nat} {e : Ow} (h : OwnE E w key e) : RdV w (fun b => E.Z b ∨ (E.ω key).ownBlock = some b) (.sl e.k e.n e.x e.row) (E.ω key) := by
  obtain ⟨⟨h0, h0', h0''⟩, h1⟩ := h
  have hk : Keeps w E.Z w (fun b => E.Z b ∨ (E.ω key).ownBlock = some b) := ⟨fun _ h => .inl h, fun _ _ => rfl⟩
  simp only [RdV]
  rcases h1 with ⟨h1, h2⟩ | ⟨g, cap, vs, h1, h2, h3, h4, h5, h6⟩
  · exact ⟨none, 0, by rw [h1]; congr 1; omega, h0', by omega, h0'', .inl h2⟩
  · refine ⟨some ⟨g, 0, none⟩, cap, by rw [h1], h0', h2, h0'', .inr ⟨g, 0, rfl, .inr (by rw [h1]; rfl), fun i hi => ⟨(h0 i hi).1, (h0 i hi).2, ?_⟩⟩⟩
    refine RdC_of_vals ((h6 i hi).mono hk) fun j hj => ?_
    have hjk : j < e.k := by rw [← (h0 i hi).1]; exact hj
    rw [List.getElem?_take_of_lt hjk, List.getElem?_drop]
    simp [World.cell?, h4]
/-- new memory that is read alone -/
theorem ok_data_of {d : Nat} (hd : o.dst = some d) (ht : d < s.N) (ow : Ow) (hnd : ∀ c, o.op ≠ .defer c)
    (h : ∀ s' E a w, Ext o s s' → SatE C E s' a w → ∃ v' w', (execOp a.eval o).run P w = .ok (.value v') w' ∧ w.grownBy w' (oldB E none) ∧ (∀ g, v'.ownBlock = some g → w.heap.size ≤ g ∨ some g = oldB E none) ∧
      ∀ E' : Env, E'.Z = E.Z → E'.ω d = v' → OwnE E' w' d ow) : Ok1 P C o s ⟨.d (.sl ow.k ow.n ow.x ow.row), [], [], [], []⟩ := by
  refine ⟨hnd, fun s' hx a w ⟨E, hE⟩ => ?_⟩
  obtain ⟨v', w', h1, h2, h3, h4⟩ := h s' E a w hx hE
  unfold gives
  rw [h1]
  have hb : Below w.heap.size w w' := ⟨h2.os, h2.tape, h2.output, h2.size, fun k hk => h2.block k hk (by simp [oldB])⟩
  have h5 := h4 ⟨E.β, fun _ => v', E.Z⟩ rfl rfl
  have hg := hE.grow hb (fun b => v'.ownBlock = some b) (fun b hb' => ⟨?_, .inr ?_⟩)
  · exact ⟨_, hg.slot (fun t e => by rw [hd] at e; cases e; rw [hx.n]; exact ht) (by simp only [DenV]; exact h5.rd)⟩
  · obtain ⟨_, h6⟩ := h5
    rcases h6 with ⟨h6, _⟩ | ⟨g, cap, vs, h6, _, _, h7, _⟩
    · simp only at h6; rw [h6] at hb'; simp [Value.ownBlock] at hb'
    · simp only at h6; rw [h6] at hb'; simp [Value.ownBlock] at hb'
      subst hb'
      exact (Array.getElem?_eq_some_iff.1 h7).1
  · rcases h3 b hb' with h | h
    · exact h
    · simp [oldB] at h
theorem ok_buildSliceD {t e len d : Nat} {parts : Array (Nat × Operand)} {ps : List (Nat × List D)} {i j : TyI} {out : List D} (ho : o.op = .buildSlice t len parts) (hd : o.dst = some d) (ht : d < s.N)
    (hi : TyOk P t i) (hu : i.u = .slice e) (hj : TyOk P e j) (hz : j.zero.length = j.size) (hlen : len * j.size ≤ 16777216) (htop : len ≤ topLen) (hp : partsD s.S parts.toList = some ps) (hf : fillS (fun i => some (i * j.size, j.size)) (repD j.zero len) ps = some out) (hol : out.length = len * j.size) (hlf : lfR out = true) :
    Ok1 P C o s ⟨.d (.sl j.size len len (lstR (chunk j.size len out))), [], [], [], []⟩ :=
  ok_data_of hd ht ⟨e, j.size, len, len, lstR (chunk j.size len out)⟩ (by simp [ho]) (core_buildSlice ho hi hu hj hz hlen htop hp hf hol hlf)
theorem ok_makeSlice {t e d : Nat} {x y : Operand} {kx ky : IntKind} {l c : Int} {i j : TyI} (ho : o.op = .makeSlice t x y) (hd : o.dst = some d) (ht : d < s.N) (hi : TyOk P t i) (hu : i.u = .slice e) (hj : TyOk P e j) (hz : j.zero.length = j.size) (hb0 : 0 < j.bytes) (hlf : lfR j.zero = true)
    (hx : evalO s.S x = some (.d (.v (.int kx l)))) (hy : evalO s.S y = some (.d (.v (.int ky c)))) (h0 : 0 ≤ l) (h1 : l ≤ c) (h2 : c * (j.bytes : Int) ≤ 140737488355328) :
    Ok1 P C o s ⟨.own d, [], [(d, ⟨e, j.size, l.toNat, l.toNat, fun _ => j.zero⟩)], [d], []⟩ := by
  refine ok_own_of hd ht d none _ (by simp [ho]) (fun q hq => by cases hq) fun s' E a w hext hE => ?_
  have hx' := hext.ev hE (x := x) (by simp [ho, Op.operands]) hx
  have hy' := hext.ev hE (x := y) (by simp [ho, Op.operands]) hy
  simp only [DenV, RdV] at hx' hy'
  obtain ⟨hun, inf, z, h3, h4, h4b, h5, h6, _⟩ := hj
  have hzz : RdL w E.Z j.zero z.cells.toList := h6 w E.Z
  have hzs : z.cells.size = j.size := by rw [← Array.length_toList, RdL_length hzz, hz]
  have hti := hi.1
  rw [hu] at hti
  have hc : c ≤ 140737488355328 := by
    have h7 : c * 1 ≤ c * (j.bytes : Int) := Int.mul_le_mul_of_nonneg_left (by omega) (by omega)
    omega
  have hr := run_make (P := P) w t e inf z hti h3 h5 kx ky l c h0 h1 (by rw [h4b, Int.mul_comm]; omega) (by omega)
  have hmax : maxLen = 9223372036854775807 := rfl
  have htp : topLen = 140737488355328 := rfl
  refine ⟨_, _, by simp only [execOp, ho, hx', hy', Sem.run_bind, hr, Result.andThen_ok]; rfl, World.grownBy_alloc w _ none, fun g hg => .inl (by simp [Value.ownBlock] at hg; omega), fun E' hZ hkn => ?_⟩
  have hcl : (madeCells z.cells (c.toNat * inf.size)).toList = repD z.cells.toList c.toNat := by
    have := cells_rep z.cells c.toNat
    rw [hzs] at this
    unfold madeCells
    rw [hzs, h4]; exact this
  refine ⟨⟨fun q hq => ⟨hz, hlf⟩, Nat.le_refl _, by simp only; omega⟩, .inr ⟨w.heap.size, c.toNat, repD z.cells.toList c.toNat, hkn, by simp only; omega, by omega, ?_, by rw [repD_length, Array.length_toList, hzs], fun q hq => ?_⟩⟩
  · simp only [alloc_heap, if_true]
    congr 2
    exact Array.ext' (by rw [hcl])
  · simp only at hq ⊢
    have hqc : q < c.toNat := by omega
    have : ((repD z.cells.toList c.toNat).drop (q * j.size)).take j.size = z.cells.toList := by
      refine List.ext_getElem? fun p => ?_
      rcases Nat.lt_or_ge p j.size with hp | hp
      · have h8 := lt_mul_of hqc hp
        rw [List.getElem?_take_of_lt hp, List.getElem?_drop, repD_get _ _ _ (by rw [Array.length_toList, hzs]; exact h8), Array.length_toList, hzs]
        congr 1
        rw [Nat.mul_comm, Nat.mul_add_mod, Nat.mod_eq_of_lt hp]
      · rw [List.getElem?_eq_none (by simp; omega), List.getElem?_eq_none (by simp [hzs]; omega)]
    rw [this]
    exact h6 _ _
theorem ok_append_nil {x y : Operand} {d : Nat} {t e : TypeId} {i j : TyI} {ts : Array TypeId} {m : Nat} {row2 : Nat → List D} (ho : o.op = .call { callee := .builtin .append, args := #[x, y], argTypes := ts }) (hts : ts = #[t, t]) (hd : o.dst = some d) (ht : d < s.N)
    (hi : TyOk P t i) (hu : i.u = .slice e) (hj : TyOk P e j) (hz : j.zero.length = j.size) (hs0 : 0 < j.size) (hb0 : 0 < j.bytes) (hx : evalO s.S x = some (.d (.v (.slice none 0 0))))
    (hsrc : ∀ s' E a w, Ext o s s' → SatE C E s' a w → SrcOf w E.Z (a.eval y) m j.size row2) (hb : (0 + m) * j.bytes ≤ 140737488355328) : Ok1 P C o s ⟨.own d, [], [(d, ⟨e, j.size, 0 + m, 0 + m, catR 0 (fun _ => []) row2⟩)], [d], []⟩ := by
  subst hts
  refine ok_own_of hd ht d none _ (by simp [ho]) (fun q hq => by cases hq) fun s' E a w hext hE => ?_
  have hx' := hext.ev hE (x := x) (by simp [ho, Op.operands, Call.operands]) hx
  simp only [DenV, RdV] at hx'
  obtain ⟨v', w', h1, h2, h3, h4⟩ := append_run (P := P) (E := E) (w := w) (ty := o.type) hi hu hj hz hs0 hb0 (v := .slice none 0 0) (ow := ⟨e, j.size, 0, 0, fun _ => []⟩) rfl rfl rfl (fun E' hZ kn hkn => ⟨⟨by simp, by simp, by simp⟩, .inl ⟨hkn, rfl⟩⟩) (hsrc s' E a w hext hE) (fun b hb => ⟨(hE.hp.z b hb).1, by simp [Value.ownBlock]⟩) hb
  refine ⟨v', w', ?_, h2, h3, fun E' hZ hkn => h4 E' hZ d hkn⟩
  simp [execOp, ho, resolve, invoke, builtin, hx', h1]
/-- what a followed slice yields to an append -/
def srcSV (O : FO) (k : Nat) : SV → Option (Nat × (Nat → List D))
  | .d (.sl k' m _ row) => if k' = k then some (m, row) else none
  | .own key => match O key with
    | some ow => if ow.k = k then some (ow.n, ow.row) else none
    | none => none
  | .d (.v (.slice none 0 0)) => some (0, fun _ => [])
  | _ => none
theorem srcSV_ok {y : Operand} {k m : Nat} {row2 : Nat → List D} (hm : y ∈ o.op.operands) {sv : SV} (hy : evalO s.S y = some sv) (h : srcSV s.O k sv = some (m, row2)) : ∀ s' E a w, Ext o s s' → SatE C E s' a w → SrcOf w E.Z (a.eval y) m k row2 := by
  unfold srcSV at h
  split at h
  · split at h
    · rename_i hk; subst hk; cases h; exact src_d hm hy
    · cases h
  · split at h
    · rename_i ow hO
      split at h
      · rename_i hk; subst hk; cases h; exact src_own hm hy hO
      · cases h
    · cases h
  · cases h; exact src_nil hm hy
  · cases h
/-! ### pieces -/
/-- a bound, if there is one -/
def bndO (S : FS) (d : Nat) : Option Operand → Option Int
  | none => some (d : Int)
  | some x => match evalO S x with
    | some (.d (.v (.int _ n))) => some n
    | _ => none
theorem bndO_den {d : Nat} (hext : Ext o s s') (hE : SatE C E s' a w) {x : Option Operand} (hm : ∀ y, x = some y → y ∈ o.op.operands) {n : Int} (h : bndO s.S d x = some n) :
    (x = none ∧ n = d) ∨ ∃ y k, x = some y ∧ a.eval y = .int k n := by
  cases x with
  | none => simp [bndO] at h; exact .inl ⟨rfl, h.symm⟩
  | some y =>
    simp only [bndO] at h
    split at h
    · rename_i k m hy
      cases h
      have := hext.ev hE (hm y rfl) hy
      simp only [DenV, RdV] at this
      exact .inr ⟨y, k, rfl, this⟩
    · cases h
theorem ok_slice_sl {t e : Nat} {x : Operand} {lo hi mx : Option Operand} {k n ex : Nat} {row : Nat → List D} {l h m : Int} {i j : TyI} (ho : o.op = .slice t x lo hi mx) (ht : ∀ t, o.dst = some t → t < s.N) (hti : TyOk P t i) (hu : i.u = .slice e) (hj : TyOk P e j) (hk : j.size = k)
    (hx : evalO s.S x = some (.d (.sl k n ex row))) (hl : bndO s.S 0 lo = some l) (hh : bndO s.S n hi = some h) (hm : bndO s.S ex mx = some m) (hmx : mx ≠ none → hi ≠ none) (h0 : 0 ≤ l) (h1 : l ≤ h) (h2 : h ≤ m) (h3 : m ≤ ex) :
    Ok1 P C o s ⟨.d (.sl k (h - l).toNat (m - l).toNat (offR l.toNat row)), [], [], [], []⟩ := by
  refine ok_val (by simp [ho]) ht fun s' E a w hext hE => ?_
  have hx' := hext.ev hE (x := x) (by simp [ho, Op.operands]) hx
  have hl' := bndO_den hext hE (x := lo) (fun y hy => by simp [ho, Op.operands, hy]) hl
  have hh' := bndO_den hext hE (x := hi) (fun y hy => by simp [ho, Op.operands, hy]) hh
  have hm' := bndO_den hext hE (x := mx) (fun y hy => by simp [ho, Op.operands, hy]) hm
  simp only [DenV, RdV] at hx'
  obtain ⟨ad, cp, e1, e2, e3, e4, e5⟩ := hx'
  have hpu := hti.1
  rw [hu] at hpu
  have hel : P.elem t = e := by simp [Program.elem, hpu]
  have hpu' : P.underlying t = some (.slice (P.elem t)) := by rw [hel]; exact hpu
  have hs := hj.size (w := w)
  -- the capacity behind
  have hrun : ∃ M : Nat, (m ≤ M) ∧ (M : Int) ≤ cp ∧ (execOp a.eval o).run P w = .ok (.value (.slice (if M = l.toNat then ad else ad.map (·.add (l.toNat * j.size))) (h.toNat - l.toNat) (M - l.toNat))) w := by
    rcases hm' with ⟨rfl, rfl⟩ | ⟨ym, km, rfl, em⟩
    · refine ⟨cp, by omega, Int.le_refl _, ?_⟩
      rcases hl' with ⟨rfl, rfl⟩ | ⟨yl, kl, rfl, el⟩ <;> rcases hh' with ⟨rfl, rfl⟩ | ⟨yh, kh, rfl, eh⟩
      · simp [execOp, ho, e1, run_sliceAt_slice w t _ _ _ _ hpu', run_slice_all w t ad n cp hpu', hel, hs, sliced]
      · simp [execOp, ho, e1, eh, run_sliceAt_slice w t _ _ _ _ hpu', run_slice_h w t ad n cp hpu' kh h (by omega) (by omega), hel, hs, sliced]
      · simp [execOp, ho, e1, el, run_sliceAt_slice w t _ _ _ _ hpu', run_slice_l w t ad n cp hpu' kl l (by omega) (by omega), hel, hs, sliced]
      · simp [execOp, ho, e1, el, eh, run_sliceAt_slice w t _ _ _ _ hpu', run_slice_lh w t ad n cp hpu' kl kh l h (by omega) (by omega) (by omega), hel, hs, sliced]
    · refine ⟨m.toNat, by omega, by omega, ?_⟩
      rcases hh' with ⟨rfl, rfl⟩ | ⟨yh, kh, rfl, eh⟩
      · exact absurd rfl (hmx (by simp))
      · rcases hl' with ⟨rfl, rfl⟩ | ⟨yl, kl, rfl, el⟩
        · simp [execOp, ho, e1, eh, em, run_sliceAt_slice w t _ _ _ _ hpu', run_slice_hm w t ad n cp hpu' kh km h m (by omega) (by omega) (by omega), hel, hs, sliced]
        · simp [execOp, ho, e1, el, eh, em, run_sliceAt_slice w t _ _ _ _ hpu', run_slice_lhm w t ad n cp hpu' kl kh km l h m (by omega) (by omega) (by omega) (by omega), hel, hs, sliced]
  obtain ⟨M, hM1, hM2, hrun⟩ := hrun
  refine ⟨_, hrun, ?_⟩
  simp only [DenV, RdV]
  refine ⟨_, _, by rw [show h.toNat - l.toNat = (h - l).toNat from by omega], by omega, by omega, by omega, ?_⟩
  rcases e5 with e5 | ⟨b, off, rfl, hz, e5⟩
  · exact .inl (by omega)
  · rcases Nat.eq_zero_or_pos (m - l).toNat with h9 | h9
    · exact .inl h9
    · right
      have hne : ¬ (M = l.toNat) := by omega
      refine ⟨b, off + l.toNat * k, ?_, hz, fun q hq => ?_⟩
      · rw [if_neg hne]; simp [addr_add, hk]
      · have := e5 (l.toNat + q) (by omega)
        refine ⟨this.1, this.2.1, ?_⟩
        have h10 := this.2.2
        rw [show off + (l.toNat + q) * k = off + l.toNat * k + q * k from by rw [Nat.add_mul]; omega] at h10
        exact h10
/-- a piece of a text -/
theorem ok_slice_str {t : Nat} {x : Operand} {lo hi : Option Operand} {str : ByteArray} {l h : Int} {i : TyI} (ho : o.op = .slice t x lo hi none) (ht : ∀ t, o.dst = some t → t < s.N) (hti : TyOk P t i) (hu : i.u = .string)
    (hx : evalO s.S x = some (.d (.v (.string str)))) (hl : bndO s.S 0 lo = some l) (hh : bndO s.S (bytes str).length hi = some h) (h0 : 0 ≤ l) (h1 : l ≤ h) (h2 : h ≤ (bytes str).length) :
    Ok1 P C o s ⟨.d (.v (.string (mkS (((bytes str).drop l.toNat).take (h - l).toNat)))), [], [], [], []⟩ := by
  refine ok_val (by simp [ho]) ht fun s' E a w hext hE => ?_
  have hx' := hext.ev hE (x := x) (by simp [ho, Op.operands]) hx
  have hl' := bndO_den hext hE (x := lo) (fun y hy => by simp [ho, Op.operands, hy]) hl
  have hh' := bndO_den hext hE (x := hi) (fun y hy => by simp [ho, Op.operands, hy]) hh
  simp only [DenV, RdV] at hx'
  have hpu := hti.1
  rw [hu] at hpu
  have hsz := size_bytes str
  have hex : str.extract l.toNat h.toNat = mkS (((bytes str).drop l.toNat).take (h - l).toNat) := by
    apply ByteArray.ext
    apply Array.ext'
    simp only [mkS, bytes, ByteArray.data_extract, Array.toList_extract, List.extract_eq_take_drop]
    congr 1; omega
  have hb : ∀ (k : IntKind) (i : Int) (y : Nat) (code : BoundsCode), 0 ≤ i → i ≤ y → (Instr.sliceBound (.int k i) y code).run P w = .ok i.toNat w := fun k i y code h0 h1 => run_sliceBound w k i y code h0 h1
  refine ⟨.string (str.extract l.toNat h.toNat), ?_, by rw [hex]; simp [DenV, RdV]⟩
  rcases hl' with ⟨rfl, rfl⟩ | ⟨yl, kl, rfl, el⟩ <;> rcases hh' with ⟨rfl, rfl⟩ | ⟨yh, kh, rfl, eh⟩
  · have hall : str.extract 0 (bytes str).length = str := by
      apply ByteArray.ext
      apply Array.ext'
      simp [bytes]
    simp [execOp, ho, hx', run_sliceAt_string w t _ _ _ _ hpu, Instr.slice, run_underlying hpu, Instr.sliceBounds, hall]
  · simp [execOp, ho, hx', eh, run_sliceAt_string w t _ _ _ _ hpu, Instr.slice, run_underlying hpu, Instr.sliceBounds, hsz, hb kh h _ _ (by omega) h2]
  · simp [execOp, ho, hx', el, run_sliceAt_string w t _ _ _ _ hpu, Instr.slice, run_underlying hpu, Instr.sliceBounds, hsz, hb kl l _ _ h0 (by omega)]
  · have e1 := hb kh h (bytes str).length .sliceAlen (by omega) h2
    have e2 := hb kl l h.toNat .sliceB h0 (by omega)
    simp [execOp, ho, hx', el, eh, run_sliceAt_string w t _ _ _ _ hpu, Instr.slice, run_underlying hpu, Instr.sliceBounds, hsz, e1, e2]
end
end Go.Kin
