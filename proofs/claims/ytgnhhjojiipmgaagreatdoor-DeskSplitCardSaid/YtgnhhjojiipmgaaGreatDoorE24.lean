/- Steps of a function body on data, and contracts of the functions of the seat, walked. -/
import Derived.Test.YtgnhhjojiipmgaaGreatDoorE15t
set_option linter.unusedSimpArgs false
set_option linter.unusedVariables false
set_option linter.unusedSectionVars false
namespace Go.Cev
open Go.RowKit
/-- what is known of a program: its types; functions with a body; functions of the model's own -/
structure FnI where
  nt : Nat
  body : Code
  res : List ResultVar
structure Kn where
  ty : PT TyI
  fn : PT FnI
  ex : FuncId → Option (List Value → M Value)
  lb : FuncId → Option (List Value → M Value)
noncomputable def Kn.fb (kn : Kn) (g : FuncId) : Bool := match kn.fn.get g with
  | some _ => true
  | none => false
noncomputable section
def setPs : List Tmp → List Value → PT Value → Nat → Option (PT Value)
  | [], [], rg, _ => some rg
  | p :: ps, v :: vs, rg, n => cond (Nat.blt p n) (setPs ps vs (rg.set p (some v)) n) none
  | _, _, _, _ => none
def yieldA (l : Nat) (args : List Value) : M Nx := (gt l).bd fun o => match o with
  | .loop _ _ fn rg n ps assign body _ => match setPs ps.toList args rg n with
    | some rg' => .ret (.rnd l fn rg' n assign body)
    | none => .no
  | _ => .no
def val (m : M Value) : M Nx := m.bd fun v => .ret (.val v)
def builtA (tb : PT TyI) (b : Builtin) (ts : List TypeId) (args : List Value) : M Nx := match b, ts, args with
  | .len, t :: _, [v] => val (lenA tb t v)
  | .cap, t :: _, [v] => val (capA tb t v)
  | .append, ts, [s, x] => val (appA tb ts s x)
  | .min, _, args => val (.opt (minA args))
  | .max, _, args => val (.opt (maxA args))
  | .delete, t :: _, [m, k] => val (delA tb t m k)
  | .clear, t :: _, [v] => val (clearA tb t v)
  | .recover, _, _ => .ret .rcv
  | .unsafeSliceData, _, [v] => val (sdA v)
  | .unsafeString, ts, [p, x] => val (usA tb ts p x)
  | _, _, _ => .no
def callA (kn : Kn) (rg : PT Value) (c : Call) : M Nx := match c.callee with
  | .builtin b => (M.opt (evL rg c.args.toList)).bd fun args => builtA kn.ty b c.argTypes.toList args
  | .value f => (ev rg f).bd fun fv => (M.opt (evL rg c.args.toList)).bd fun args => match fv with
    | .func (.func g) first captured => cond (kn.fb g) (.ret (.ent g (first.toList ++ args ++ captured.toList))) (match kn.ex g with
      | some m => val (m (first.toList ++ args ++ captured.toList))
      | none => .no)
    | .func (.yield l) _ _ => yieldA l args
    | _ => .no
  | .invoke _ _ => .no
def deferA (rg : PT Value) (c : Call) : M Nx := match c.callee with
  | .value f => (ev rg f).bd fun fv => (M.opt (evL rg c.args.toList)).bd fun args => match fv with
    | .func (.func g) first captured => .ret (.dfr ⟨.fn (.func g) captured, (first.toList ++ args).toArray⟩)
    | _ => .no
  | _ => .no
def oMove (kn : Kn) (rg : PT Value) (x : Operand) : M Nx := val (ev rg x)
def oAssign (kn : Kn) (rg : PT Value) (x : Operand) : M Nx := val (ev rg x)
def oPick (kn : Kn) (rg : PT Value) (c a b : Operand) : M Nx := val (.opt (pickA (evO rg c) (evO rg a) (evO rg b)))
def oBuild (kn : Kn) (rg : PT Value) (t : TypeId) (ps : Array (Nat × Operand)) : M Nx := (M.opt (partsA rg ps.toList)).bd fun l => val (.opt (buildA kn.ty t l))
def oLoad (kn : Kn) (rg : PT Value) (t : TypeId) (a : Operand) : M Nx := (ev rg a).bd fun v => val (loadA kn.ty t v)
def oStore (kn : Kn) (rg : PT Value) (t : TypeId) (a x : Operand) : M Nx := (ev rg a).bd fun v => (ev rg x).bd fun y => (storeA kn.ty t v y).bd fun _ => .ret (.val undef)
def oNilCheck (kn : Kn) (rg : PT Value) (x : Operand) : M Nx := (ev rg x).bd fun v => val (nilA v)
def oBinOp (kn : Kn) (rg : PT Value) (op : BinOp) (t : TypeId) (x y : Operand) : M Nx := (ev rg x).bd fun a => (ev rg y).bd fun b => val (.opt (binA kn.ty op t x y a b))
def oUnOp (kn : Kn) (rg : PT Value) (op : UnOp) (x : Operand) : M Nx := (ev rg x).bd fun a => val (.opt (unA op a))
def oConvert (kn : Kn) (rg : PT Value) (s d : TypeId) (x : Operand) : M Nx := (ev rg x).bd fun a => (tyI kn.ty s).bd fun i => (tyI kn.ty d).bd fun j => val (cvA kn.ty i j a)
def oMakeInterface (kn : Kn) (rg : PT Value) (t : TypeId) (x : Operand) : M Nx := (ev rg x).bd fun a => val (ifaceA kn.ty t a)
def oMakeFunc (kn : Kn) (rg : PT Value) (fn : Fn) (fs cs : Array Operand) : M Nx := (M.opt (evL rg fs.toList)).bd fun a => (M.opt (evL rg cs.toList)).bd fun b => match fn with
  | .yield _ => .no
  | _ => .ret (.val (.func fn a.toArray b.toArray))
def oSlice (kn : Kn) (rg : PT Value) (t : TypeId) (x : Operand) (lo hi mx : Option Operand) : M Nx := (ev rg x).bd fun a => (M.opt (evB rg lo)).bd fun l => (M.opt (evB rg hi)).bd fun h => (M.opt (evB rg mx)).bd fun m => val (sliceA kn.ty t a l h m)
def oFieldAddr (kn : Kn) (rg : PT Value) (t : TypeId) (x : Operand) (f : Nat) : M Nx := (ev rg x).bd fun a => val (fieldAtA kn.ty t a f)
def oField (kn : Kn) (rg : PT Value) (t : TypeId) (x : Operand) (f : Nat) : M Nx := (ev rg x).bd fun a => val (fieldA kn.ty t a f)
def oIndexAddr (kn : Kn) (rg : PT Value) (t : TypeId) (x i : Operand) : M Nx := (ev rg x).bd fun a => (ev rg i).bd fun b => val (indexAtA kn.ty t a b)
def oIndex (kn : Kn) (rg : PT Value) (t : TypeId) (x i : Operand) : M Nx := (ev rg x).bd fun a => (ev rg i).bd fun b => val (indexA kn.ty t a b)
def oLookup (kn : Kn) (rg : PT Value) (t : TypeId) (x i : Operand) (ok : Bool) : M Nx := (ev rg x).bd fun a => (ev rg i).bd fun b => val (lookA kn.ty t a b ok)
def oMapUpdate (kn : Kn) (rg : PT Value) (t : TypeId) (m k x : Operand) : M Nx := (ev rg m).bd fun a => (ev rg k).bd fun b => (ev rg x).bd fun c => (updA kn.ty t a b c).bd fun _ => .ret (.val undef)
def oInsert (kn : Kn) (rg : PT Value) (t : TypeId) (m k x : Operand) : M Nx := (ev rg m).bd fun a => (ev rg k).bd fun b => (ev rg x).bd fun c => (updA kn.ty t a b c).bd fun _ => .ret (.val undef)
def oRange (kn : Kn) (rg : PT Value) (t : TypeId) (x : Operand) : M Nx := (ev rg x).bd fun a => val (rangeA kn.ty t a)
def oNext (kn : Kn) (rg : PT Value) (x : Operand) (s : Bool) : M Nx := (ev rg x).bd fun a => val (nextA a s)
def oEntry (kn : Kn) (rg : PT Value) (x : Operand) : M Nx := (ev rg x).bd fun a => val (entryA a)
def oTypeAssert (kn : Kn) (rg : PT Value) (x : Operand) (t : TypeId) (ok : Bool) : M Nx := (ev rg x).bd fun a => val (assertA kn.ty a t ok)
def oExtract (kn : Kn) (rg : PT Value) (x : Operand) (i : Nat) : M Nx := (ev rg x).bd fun a => val (.opt (extrA a i))
/-- one operation, by names -/
def opA (kn : Kn) (rg : PT Value) (o : Oper) : M Nx := match o.op with
  | .move x => oMove kn rg x
  | .assign x => oAssign kn rg x
  | .pick c a b => oPick kn rg c a b
  | .build t ps => oBuild kn rg t ps
  | .load t a => oLoad kn rg t a
  | .store t a x => oStore kn rg t a x
  | .nilCheck x => oNilCheck kn rg x
  | .binOp op t x y _ => oBinOp kn rg op t x y
  | .unOp op _ x => oUnOp kn rg op x
  | .convert s d x => oConvert kn rg s d x
  | .makeInterface t x => oMakeInterface kn rg t x
  | .makeFunc fn fs cs => oMakeFunc kn rg fn fs cs
  | .slice t x lo hi mx => oSlice kn rg t x lo hi mx
  | .fieldAddr t x f => oFieldAddr kn rg t x f
  | .field t x f => oField kn rg t x f
  | .indexAddr t x i => oIndexAddr kn rg t x i
  | .index t x i => oIndex kn rg t x i
  | .lookup t x i ok => oLookup kn rg t x i ok
  | .mapUpdate t m k x => oMapUpdate kn rg t m k x
  | .insert t m k x => oInsert kn rg t m k x
  | .range t x => oRange kn rg t x
  | .next x s => oNext kn rg x s
  | .entry x => oEntry kn rg x
  | .typeAssert x _ t ok => oTypeAssert kn rg x t ok
  | .extract x i => oExtract kn rg x i
  | .call c => callA kn rg c
  | .defer c => deferA rg c
  | _ => match alA kn.ty rg o with
    | some (ao, ak) => (nw ao).bd fun b => .ret (.val (ak.val b))
    | none => .no
end
/-- a frame on its way out, with its result -/
def Out (P : Program) (g : FuncId) (kind : CallKind) (fr : Frame) (v : Value) (w : World) : Prop := fr.mode = .returning ∧ fr.defers = [] ∧ fr.kind = kind ∧ fr.fn = g ∧ ∃ fn, P.funcs[g]? = some fn ∧ (results fn fr.tmps).run P w = .ok v w
/-- contracts of functions that are not gone into -/
def LbOk (P : Program) (H : Nat) (w0 : World) (g : FuncId) (m : List Value → M Value) : Prop := ∀ args W v W', m args W = some (v, W') → ∀ ω w args', WR H w0 ω W w → VRs ω args args' → ∀ cs,
  ∃ ω' v' w' fr, Gr ω W ω' W' ∧ WR H w0 ω' W' w' ∧ VR ω' v v' ∧ Steps P (lone (Frame.enter P g args'.toArray .normal) cs w) (lone fr cs w') ∧ Out P g .normal fr v' w'
/-- what is known is so -/
structure KnOk (P : Program) (H : Nat) (w0 : World) (kn : Kn) : Prop where
  ty : TbOk P kn.ty
  fn : ∀ g fi, kn.fn.get g = some fi → ∃ fn, P.funcs[g]? = some fn ∧ fn.body = some fi.body ∧ fn.ntmps = fi.nt ∧ fn.results.toList = fi.res ∧ (fn.name == "runtime.NumGoroutine") = false
  ex : ∀ g m, kn.ex g = some m → ∀ ω l l', VRs ω l l' → Sim P H w0 ω (val (m l)) (callFunc g l'.toArray) NR
  lb : ∀ g m, kn.lb g = some m → LbOk P H w0 g m
section
variable {P : Program} {H : Nat} {w0 : World} {ω : Om} {α β γ δ : Type} {kn : Kn}
theorem Sim.ev {rg : PT Value} {ρ : Operand → Value} {xs : Array Operand} {x : Operand} {f : Value → M α} {s : Sem β} {R : Om → α → β → Prop} (hρ : OpdR ω rg ρ xs) (hx : x ∈ xs) (h : ∀ v, VR ω v (ρ x) → Sim P H w0 ω (f v) s R) : Sim P H w0 ω ((Cev.ev rg x).bd f) s R := Sim.opt fun v hv => h v (hρ x hx v hv)
theorem Sim.evL {rg : PT Value} {ρ : Operand → Value} {xs : Array Operand} {l : List Operand} {f : List Value → M α} {s : Sem β} {R : Om → α → β → Prop} (hρ : OpdR ω rg ρ xs) (hx : ∀ x ∈ l, x ∈ xs) (h : ∀ v, VRs ω v (l.map ρ) → Sim P H w0 ω (f v) s R) : Sim P H w0 ω ((M.opt (Cev.evL rg l)).bd f) s R := Sim.opt fun v hv => h v (evL_R (fun y hy => hρ y (hx y hy)) hv)
theorem RegR.set {rg : PT Value} {n : Nat} {tm : Array Value} (h : RegR ω rg n tm) {t : Nat} (ht : t < n) {v v' : Value} (hv : VR ω v v') : RegR ω (rg.set t (some v)) n (tm.setIfInBounds t v') := by
  refine ⟨by simp [h.size], fun k => ?_⟩
  rw [PT.get_set]
  by_cases hk : k = t
  · subst hk
    rw [if_pos rfl]
    have : (tm.setIfInBounds k v').getD k undef = v' := by simp [Array.getD, h.size, ht]
    rw [this]; exact hv
  · rw [if_neg hk]
    have : (tm.setIfInBounds t v').getD k undef = tm.getD k undef := by
      simp only [Array.getD_eq_getD_getElem?, Array.getElem?_setIfInBounds]
      rw [if_neg (Ne.symm hk)]
    rw [this]; exact h.at_ k
theorem setPs_ok : ∀ {ps : List Tmp} {vs vs' : List Value} {rg rg' : PT Value} {n : Nat} {tm : Array Value}, setPs ps vs rg n = some rg' → RegR ω rg n tm → VRs ω vs vs' → ps.length = vs'.length ∧ RegR ω rg' n ((ps.zip vs').foldl (fun tm (t, a) => tm.setIfInBounds t a) tm)
  | [], _, _, rg, rg', n, tm, h, hr, .nil => by cases h; exact ⟨rfl, hr⟩
  | [], _, _, rg, rg', n, tm, h, hr, .cons _ _ => by cases h
  | p :: ps, _, _, rg, rg', n, tm, h, hr, .nil => by cases h
  | p :: ps, _, _, rg, rg', n, tm, h, hr, .cons h1 h2 => by
    rw [setPs] at h
    cases hc : Nat.blt p n with
    | false => rw [hc] at h; cases h
    | true =>
      rw [hc] at h
      obtain ⟨g1, g2⟩ := setPs_ok h (hr.set (by simpa [Nat.blt_eq] using hc) h1) h2
      exact ⟨by simp [g1], g2⟩
theorem sim_yield {l l' : Nat} {args args' : List Value} (hl : ω l = some (l', 0)) (ha : VRs ω args args') : Sim P H w0 ω (yieldA l args) (Instr.yield l' args'.toArray) NR := by
  unfold yieldA Instr.yield Instr.getLoop
  refine Sim.congrR (s' := (Go.getObj l' >>= fun o => match o with
    | .loop r => if args'.toArray.size ≠ r.params.size then (stuck "yield: the wrong number of arguments" : Sem Next) else pure (Next.round l' r.fn ((r.params.zip args'.toArray).foldl (fun tmps (t, a) => tmps.setIfInBounds t a) r.tmps) r.assign r.body)
    | _ => stuck "range over a function: no such loop")) (fun w => ?_) ?_
  · simp only [bind, Sem.run_bind' P]
    cases (Go.getObj l').run P w with
    | ok o w1 =>
      cases o with
      | loop r =>
        show (if args'.toArray.size ≠ r.params.size then _ else _ : Sem Next).run P w1 = (if args'.toArray.size ≠ r.params.size then _ else _ : Sem Next).run P w1
        split <;> rfl
      | _ => rfl
    | halt x w1 => rfl
  · refine Sim.getObj hl fun o o' ho => ?_
    cases ho ((0, 0), 0) with
    | @loop st pd fn rg n tm hreg ps assign body d d' hd =>
      simp only
      split
      · rename_i rg' hrg
        obtain ⟨g1, g2⟩ := setPs_ok hrg hreg ha
        show Sim P H w0 ω _ (if args'.toArray.size ≠ ps.size then _ else _) NR
        rw [if_neg (by simp at *; omega)]
        refine Sim.ret (.rnd hl fn ?_ assign body)
        have : (ps.zip args'.toArray).foldl (fun tmps x => tmps.setIfInBounds x.1 x.2) tm = (ps.toList.zip args').foldl (fun tm x => tm.setIfInBounds x.1 x.2) tm := by
          rw [← Array.foldl_toList, Array.toList_zip]
        show RegR ω rg' n ((ps.zip args'.toArray).foldl (fun tmps x => tmps.setIfInBounds x.1 x.2) tm)
        rw [this]; exact g2
      · exact Sim.no
    | _ => exact Sim.no
end
end Go.Cev
namespace Go.Cev
open Go.RowKit
section
variable {P : Program} {H : Nat} {w0 : World} {ω : Om} {α β γ δ : Type} {kn : Kn}
theorem VRs.one {l' : List Value} {a : Value} (h : VRs ω [a] l') : ∃ a', l' = [a'] ∧ VR ω a a' := by
  cases h with | cons h hs => cases hs; exact ⟨_, rfl, h⟩
theorem VRs.two {l' : List Value} {a b : Value} (h : VRs ω [a, b] l') : ∃ a' b', l' = [a', b'] ∧ VR ω a a' ∧ VR ω b b' := by
  cases h with | cons h hs => obtain ⟨b', rfl, hb⟩ := hs.one; exact ⟨_, _, rfl, h, hb⟩
theorem sim_val {m : M Value} {s' : Sem Value} (h : Sim P H w0 ω m s' VR) : Sim P H w0 ω (val m) (do pure (.value (← s'))) NR := sim_v h
theorem sim_built (hk : KnOk P H w0 kn) {b : Builtin} {ts : Array TypeId} {ty : TypeId} {cs : Array Bool} {args args' : List Value} (ha : VRs ω args args') : Sim P H w0 ω (builtA kn.ty b ts.toList args) (builtin b ts ty cs args'.toArray) NR := by
  have h0 : ∀ {t l}, ts.toList = t :: l → ts[0]? = some t := fun {t l} h => by
    have : ts = (t :: l).toArray := by rw [← h]
    rw [this]; rfl
  unfold builtA builtin
  split
  · rename_i he; obtain ⟨v', rfl, h⟩ := ha.one; exact sim_val (sim_len hk.ty (h0 he) h)
  · rename_i he; obtain ⟨v', rfl, h⟩ := ha.one; exact sim_val (sim_cap hk.ty (h0 he) h)
  · rename_i s x
    obtain ⟨s', x', rfl, h1, h2⟩ := ha.two
    have key : ∀ l, ts.toList = l → Sim P H w0 ω (val (appA kn.ty l s x)) (do pure (.value (← Builtin.append_ ts ty #[s', x']))) NR := fun l he => by
      match l, he with
      | [], _ => exact fun W w hw a W' hr => by cases hr
      | [_], _ => exact fun W w hw a W' hr => by cases hr
      | _ :: _ :: _ :: _, _ => exact fun W w hw a W' hr => by cases hr
      | [t, t2], he =>
        have e2 : ts = #[t, t2] := by
          apply Array.ext'; rw [he]
        subst e2
        exact sim_val (sim_app hk.ty h1 h2)
    exact key _ rfl
  · exact sim_val (sim_min ha)
  · exact sim_val (sim_max ha)
  · rename_i he; obtain ⟨m', k', rfl, h1, h2⟩ := ha.two; exact sim_val (sim_del hk.ty (h0 he) h1 h2)
  · rename_i he; obtain ⟨v', rfl, h⟩ := ha.one; exact sim_val (sim_clear hk.ty (h0 he) h)
  · exact Sim.ret .rcv
  · obtain ⟨v', rfl, h⟩ := ha.one; exact sim_val (sim_sd h)
  · obtain ⟨p', x', rfl, h1, h2⟩ := ha.two; exact sim_val (sim_us hk.ty h1 h2)
  · exact Sim.no
theorem callFunc_ent (hk : KnOk P H w0 kn) {g : FuncId} (hg : kn.fb g = true) (args : Array Value) (w : World) : (callFunc g args).run P w = .ok (.enter g args) w := by
  unfold Kn.fb at hg
  cases hf : kn.fn.get g with
  | none => rw [hf] at hg; cases hg
  | some fi =>
  obtain ⟨fn, h1, h2, _, _, h3⟩ := hk.fn g fi hf
  have h3' : ¬ fn.name = "runtime.NumGoroutine" := by simpa using h3
  simp [callFunc, program, bind, Sem.bind, Sem.run, pure, h1, h2, h3']
theorem sim_call (hk : KnOk P H w0 kn) {rg : PT Value} {ρ : Operand → Value} {c : Call} {ty : TypeId} (hρ : OpdR ω rg ρ c.operands) : Sim P H w0 ω (callA kn rg c) (do let d ← resolve ρ c ty; invoke d.target d.args) NR := by
  unfold callA
  have hargs : ∀ x ∈ c.args.toList, x ∈ c.operands := fun x hx => by unfold Call.operands; exact Array.mem_append.2 (.inr (by simpa using hx))
  split
  · rename_i b hb
    refine Sim.evL hρ hargs fun args ha => ?_
    refine Sim.runR (x := { target := .builtin b c.argTypes ty (c.args.map fun | .const _ => true | _ => false), args := c.args.map ρ }) (fun w => by unfold resolve; rw [hb]; rfl) ?_
    show Sim P H w0 ω _ (builtin b c.argTypes ty _ (c.args.map ρ)) NR
    have : c.args.map ρ = (c.args.toList.map ρ).toArray := by apply Array.ext'; rw [Array.toList_map]
    rw [this]
    exact sim_built hk ha
  · rename_i f hf
    refine Sim.ev hρ (by unfold Call.operands; rw [hf]; simp) fun fv hfv => ?_
    refine Sim.evL hρ hargs fun args ha => ?_
    have hA : c.args.map ρ = (c.args.toList.map ρ).toArray := by apply Array.ext'; rw [Array.toList_map]
    have hres : ∀ fn fs cs, ρ f = .func fn fs cs → ∀ w, (resolve ρ c ty).run P w = .ok { target := .fn fn cs, args := fs ++ c.args.map ρ } w := fun fn fs cs he w => by
      unfold resolve; rw [hf]; simp only [he]; rfl
    split
    · rename_i g first captured
      generalize hu : ρ f = u at hfv
      cases hfv with
      | @func _ fs fs' cs cs' hy h1 h2 =>
        refine Sim.runR (hres _ _ _ hu) ?_
        show Sim P H w0 ω _ (callFunc g (fs'.toArray ++ c.args.map ρ ++ cs'.toArray)) NR
        have e1 : fs'.toArray ++ c.args.map ρ ++ cs'.toArray = (fs' ++ c.args.toList.map ρ ++ cs').toArray := by rw [hA]; simp
        rw [e1]
        have hV : VRs ω (fs.toArray.toList ++ args ++ cs.toArray.toList) (fs' ++ c.args.toList.map ρ ++ cs') := by simpa using (h1.append ha).append h2
        cases hg : kn.fb g with
        | true =>
          exact fun W w hw a W' hr => by
            cases hr
            exact ⟨ω, _, w, Gr.refl ω _, callFunc_ent hk hg _ w, hw, .ent g hV⟩
        | false =>
          simp only [cond_false]
          split
          · rename_i m hm
            exact hk.ex g m hm ω _ _ hV
          · exact Sim.no
    · rename_i l first captured
      generalize hu : ρ f = u at hfv
      cases hfv with
      | @func _ fs fs' cs cs' hy h1 h2 => exact absurd rfl (hy l)
      | yield hl =>
        refine Sim.runR (hres _ _ _ hu) ?_
        show Sim P H w0 ω _ (Instr.yield _ (#[] ++ c.args.map ρ)) NR
        rw [hA, Array.empty_append]
        exact sim_yield hl ha
    · exact Sim.no
  · exact Sim.no
theorem sim_defer (hk : KnOk P H w0 kn) {rg : PT Value} {ρ : Operand → Value} {c : Call} {ty : TypeId} (hρ : OpdR ω rg ρ c.operands) : Sim P H w0 ω (deferA rg c) (do pure (.defer (← resolve ρ c ty))) NR := by
  unfold deferA
  have hargs : ∀ x ∈ c.args.toList, x ∈ c.operands := fun x hx => by unfold Call.operands; exact Array.mem_append.2 (.inr (by simpa using hx))
  split
  · rename_i f hf
    refine Sim.ev hρ (by unfold Call.operands; rw [hf]; simp) fun fv hfv => ?_
    refine Sim.evL hρ hargs fun args ha => ?_
    have hA : c.args.map ρ = (c.args.toList.map ρ).toArray := by apply Array.ext'; rw [Array.toList_map]
    split
    · rename_i g first captured
      generalize hu : ρ f = u at hfv
      cases hfv with
      | @func _ fs fs' cs cs' hy h1 h2 =>
        refine Sim.runR (x := { target := .fn (.func g) cs'.toArray, args := fs'.toArray ++ c.args.map ρ }) (fun w => by unfold resolve; rw [hf]; simp only [hu]; rfl) ?_
        refine Sim.ret (.dfr ⟨.fn hy h2, ?_⟩)
        rw [hA]
        simpa using h1.append ha
    · exact Sim.no
  · exact Sim.no
theorem sim_op (hk : KnOk P H w0 kn) {rg : PT Value} {ρ : Operand → Value} {o : Oper} (hρ : OpdR ω rg ρ o.op.operands) : Sim P H w0 ω (opA kn rg o) (execOp ρ o) NR := by
  have hal : ∀ {ao ak}, alA kn.ty rg o = some (ao, ak) → Sim P H w0 ω ((nw ao).bd fun b => .ret (.val (ak.val b))) (execOp ρ o) NR := fun h => sim_al hk.ty h hρ
  unfold opA
  split
  · rename_i x he; rw [he] at hρ; unfold execOp oMove; rw [he]
    exact fun W w hw a W' hr => by
      obtain ⟨v, W1, h1, h2⟩ := bd_some hr
      obtain ⟨hv, rfl⟩ := optS h1
      cases h2
      exact ⟨ω, _, w, Gr.refl ω _, rfl, hw, .value (hρ x (by simp [Op.operands]) v hv)⟩
  · rename_i x he; rw [he] at hρ; unfold execOp oAssign; rw [he]
    exact fun W w hw a W' hr => by
      obtain ⟨v, W1, h1, h2⟩ := bd_some hr
      obtain ⟨hv, rfl⟩ := optS h1
      cases h2
      exact ⟨ω, _, w, Gr.refl ω _, rfl, hw, .value (hρ x (by simp [Op.operands]) v hv)⟩
  · rename_i c a b he; rw [he] at hρ; unfold execOp oPick; rw [he]
    exact sim_pick (hρ c (by simp [Op.operands])) (hρ a (by simp [Op.operands])) (hρ b (by simp [Op.operands]))
  · rename_i t ps he; rw [he] at hρ; unfold execOp oBuild; rw [he]
    refine Sim.opt fun l hl => sim_val (Sim.optV fun v hv => ?_)
    have hp := partsA_R (ω := ω) (ρ := ρ) (l := ps.toList) (fun x hx v hv => hρ x (by simpa [Op.operands] using hx) v hv) hl
    exact buildA_ok hk.ty hv (by simpa using hp)
  · rename_i t a he; rw [he] at hρ; unfold execOp oLoad; rw [he]
    exact Sim.ev hρ (by simp [Op.operands]) fun v hv => sim_val (sim_load hk.ty hv)
  · rename_i t a x he; rw [he] at hρ; unfold execOp oStore; rw [he]
    exact Sim.ev hρ (by simp [Op.operands]) fun v hv => Sim.ev hρ (by simp [Op.operands]) fun y hy => sim_u (sim_store hk.ty hv hy)
  · rename_i x he; rw [he] at hρ; unfold execOp oNilCheck; rw [he]
    exact Sim.ev hρ (by simp [Op.operands]) fun v hv => sim_nil hv
  · rename_i op t x y yt he; rw [he] at hρ; unfold execOp oBinOp; rw [he]
    refine Sim.ev hρ (by simp [Op.operands]) fun a ha => Sim.ev hρ (by simp [Op.operands]) fun b hb => sim_val (Sim.optV fun v hv => ?_)
    exact ⟨v, fun w => (binA_ok hk.ty hv ha hb w).1, clean_VR (binA_ok hk.ty hv ha hb default).2⟩
  · rename_i op t x he; rw [he] at hρ; unfold execOp oUnOp; rw [he]
    exact Sim.ev hρ (by simp [Op.operands]) fun a ha => sim_val (sim_un ha)
  · rename_i s d x he; rw [he] at hρ; unfold execOp oConvert; rw [he]
    exact Sim.ev hρ (by simp [Op.operands]) fun a ha => Sim.ty hk.ty fun i hi => Sim.ty hk.ty fun j hj => sim_val (sim_cv hk.ty hi hj ha)
  · rename_i t x he; rw [he] at hρ; unfold execOp oMakeInterface; rw [he]
    exact Sim.ev hρ (by simp [Op.operands]) fun a ha => sim_val (sim_iface hk.ty ha)
  · rename_i fn fs cs he; rw [he] at hρ; unfold execOp oMakeFunc; rw [he]
    refine Sim.evL hρ (fun x hx => by simp only [Op.operands]; exact Array.mem_append.2 (.inl (by simpa using hx))) fun a ha => Sim.evL hρ (fun x hx => by simp only [Op.operands]; exact Array.mem_append.2 (.inr (by simpa using hx))) fun b hb => ?_
    split
    · exact Sim.no
    · rename_i hn
      refine Sim.ret (.value ?_)
      have := VR.func (fn := fn) (fun l h => hn l h) ha hb
      have e1 : ∀ (z : Array Operand), z.map ρ = (z.toList.map ρ).toArray := fun z => by apply Array.ext'; rw [Array.toList_map]
      rw [e1, e1]; exact this
  · rename_i t x lo hi mx he; rw [he] at hρ; unfold execOp oSlice; rw [he]
    have ho : ∀ (z : Option Operand), (∀ y, z = some y → y ∈ (Op.slice t x lo hi mx).operands) → ∀ v, evB rg z = some v → VRo ω v (z.map ρ) := fun z hz v hv => evB_R (fun y hy u hu => hρ y (hz y hy) u hu) hv
    refine Sim.ev hρ (by simp [Op.operands]) fun a ha => Sim.opt fun l hl => Sim.opt fun h hh => Sim.opt fun m hm => sim_val (sim_slice hk.ty ha ?_ ?_ ?_)
    · exact ho lo (fun y hy => by subst hy; simp [Op.operands]) _ hl
    · exact ho hi (fun y hy => by subst hy; simp [Op.operands]) _ hh
    · exact ho mx (fun y hy => by subst hy; simp [Op.operands]) _ hm
  · rename_i t x f he; rw [he] at hρ; unfold execOp oFieldAddr; rw [he]
    exact Sim.ev hρ (by simp [Op.operands]) fun a ha => sim_val (sim_fieldAt hk.ty ha)
  · rename_i t x f he; rw [he] at hρ; unfold execOp oField; rw [he]
    exact Sim.ev hρ (by simp [Op.operands]) fun a ha => sim_val (sim_field hk.ty ha)
  · rename_i t x i he; rw [he] at hρ; unfold execOp oIndexAddr; rw [he]
    exact Sim.ev hρ (by simp [Op.operands]) fun a ha => Sim.ev hρ (by simp [Op.operands]) fun b hb => sim_val (sim_indexAt hk.ty ha hb)
  · rename_i t x i he; rw [he] at hρ; unfold execOp oIndex; rw [he]
    exact Sim.ev hρ (by simp [Op.operands]) fun a ha => Sim.ev hρ (by simp [Op.operands]) fun b hb => sim_val (sim_index hk.ty ha hb)
  · rename_i t x i ok he; rw [he] at hρ; unfold execOp oLookup; rw [he]
    exact Sim.ev hρ (by simp [Op.operands]) fun a ha => Sim.ev hρ (by simp [Op.operands]) fun b hb => sim_val (sim_look hk.ty ha hb)
  · rename_i t m k x he; rw [he] at hρ; unfold execOp oMapUpdate; rw [he]
    exact Sim.ev hρ (by simp [Op.operands]) fun a ha => Sim.ev hρ (by simp [Op.operands]) fun b hb => Sim.ev hρ (by simp [Op.operands]) fun c hc => sim_u (sim_upd hk.ty ha hb hc)
  · rename_i t m k x he; rw [he] at hρ; unfold execOp oInsert; rw [he]
    exact Sim.ev hρ (by simp [Op.operands]) fun a ha => Sim.ev hρ (by simp [Op.operands]) fun b hb => Sim.ev hρ (by simp [Op.operands]) fun c hc => sim_u (sim_upd hk.ty ha hb hc)
  · rename_i t x he; rw [he] at hρ; unfold execOp oRange; rw [he]
    exact Sim.ev hρ (by simp [Op.operands]) fun a ha => sim_val (sim_range hk.ty ha)
  · rename_i x s he; rw [he] at hρ; unfold execOp oNext; rw [he]
    refine Sim.ev hρ (by simp [Op.operands]) fun a ha => sim_val ?_
    cases s with
    | true => exact sim_nextS ha
    | false => exact sim_nextM ha
  · rename_i x he; rw [he] at hρ; unfold execOp oEntry; rw [he]
    exact Sim.ev hρ (by simp [Op.operands]) fun a ha => sim_val (sim_entry ha)
  · rename_i x xt t ok he; rw [he] at hρ; unfold execOp oTypeAssert; rw [he]
    exact Sim.ev hρ (by simp [Op.operands]) fun a ha => sim_val (sim_assert hk.ty ha)
  · rename_i x i he; rw [he] at hρ; unfold execOp oExtract; rw [he]
    exact Sim.ev hρ (by simp [Op.operands]) fun a ha => sim_val (sim_extr ha)
  · rename_i c he; rw [he] at hρ; unfold execOp; rw [he]
    exact sim_call hk hρ
  · rename_i c he; rw [he] at hρ; unfold execOp; rw [he]
    exact sim_defer hk hρ
  · split
    · rename_i ao ak h; exact hal h
    · exact Sim.no
end
end Go.Cev
namespace Go.Cev
open Go.RowKit
/-! ### the evaluator -/
inductive Ex where
  | nor
  | exit (id : Nat)
  | ret
/-- where code runs: the function, its temporaries, the round -/
structure Cx where
  fn : FuncId
  n : Nat
  rd : Option Nat
structure Rc where
  code : Cx → Code → PT Value → List Deferred → M (Ex × PT Value × List Deferred)
  loop : Cx → Code → PT Value → List Deferred → M (Ex × PT Value × List Deferred)
  call : FuncId → List Value → M Value
  dfr : List Deferred → M Unit
noncomputable section
/-- are two values the same -/
def addrSame (a b : Addr) : Bool := Nat.beq a.block b.block && Nat.beq a.off b.off && (match a.spot, b.spot with | none, none => true | _, _ => false)
def eqVs (f : Value → Value → Bool) : List Value → List Value → Bool
  | [], [] => true
  | a :: l, b :: k => f a b && eqVs f l k
  | _, _ => false
def eqV : Nat → Value → Value → Bool
  | 0, _, _ => false
  | n + 1, a, b => match a, b with
    | .bool x, .bool y => x == y
    | .int k x, .int k' y => kEq k k' && decide (x = y)
    | .string x, .string y => bEq x y
    | .pointer none, .pointer none => true
    | .pointer (some a), .pointer (some b) => addrSame a b
    | .slice none i j, .slice none i' j' => Nat.beq i i' && Nat.beq j j'
    | .slice (some a) i j, .slice (some b) i' j' => addrSame a b && Nat.beq i i' && Nat.beq j j'
    | .map none, .map none => true
    | .map (some r), .map (some r') => Nat.beq r r'
    | .func (.func f) xs ys, .func (.func g) xs' ys' => Nat.beq f g && eqVs (eqV n) xs.toList xs'.toList && eqVs (eqV n) ys.toList ys'.toList
    | .func (.yield f) xs ys, .func (.yield g) xs' ys' => Nat.beq f g && eqVs (eqV n) xs.toList xs'.toList && eqVs (eqV n) ys.toList ys'.toList
    | .nilFunc, .nilFunc => true
    | .nilIface, .nilIface => true
    | .iface t v, .iface t' v' => Nat.beq t t' && eqV n v v'
    | .agg xs, .agg ys => eqVs (eqV n) xs.toList ys.toList
    | .tuple xs, .tuple ys => eqVs (eqV n) xs.toList ys.toList
    | _, _ => false
def putD (n : Nat) (d : Option Tmp) (v : Value) (rg : PT Value) : Option (PT Value) := match d with
  | none => some rg
  | some t => cond (Nat.blt t n) (some (rg.set t (some v))) none
def wantA (ops : List Oper) (o : Oper) (rg : PT Value) : Bool := match o.guard with
  | none => true
  | some (j, want) => match nth ops j with
    | none => false
    | some oj => match oj.dst with
      | none => false
      | some t => match rg.get t with
        | some (.bool b) => b == want
        | _ => false
/-- one round of a range over a function -/
def roundA (rc : Rc) (l : Nat) (f : FuncId) (rg : PT Value) (n : Nat) (assign body : Code) : M Value :=
  (rc.code ⟨f, n, some l⟩ assign rg []).bd fun x => match x with
    | (.nor, rg1, []) => (gt l).bd fun o => match o with
      | .loop .ready pd fn rg0 n0 ps as bo d => (st l (.loop .busy pd fn rg0 n0 ps as bo d)).bd fun _ => (rc.code ⟨f, n, some l⟩ body rg1 []).bd fun y => match y with
        | (e, _, []) => (gt l).bd fun o => match o with
          | .loop _ _ fn rg0 n0 ps as bo d => match e with
            | .nor => (st l (.loop .ready none fn rg0 n0 ps as bo d)).bd fun _ => .ret (.bool true)
            | .exit id => (st l (.loop .done (some (.exit id)) fn rg0 n0 ps as bo d)).bd fun _ => .ret (.bool false)
            | .ret => (st l (.loop .done (some .ret) fn rg0 n0 ps as bo d)).bd fun _ => .ret (.bool false)
          | _ => .no
        | _ => .no
      | _ => .no
    | _ => .no
/-- what an operation comes to, calls too -/
def nxA (kn : Kn) (rc : Rc) (cx : Cx) (df : List Deferred) (x : Nx) : M (Value × List Deferred) := match x with
  | .val v => .ret (v, df)
  | .dfr d => match cx.rd with
    | none => .ret (undef, d :: df)
    | some _ => .no
  | .ent g args => (match kn.lb g with | some m => m args | none => rc.call g args).bd fun v => .ret (v, df)
  | .rnd l f rg' n assign body => (roundA rc l f rg' n assign body).bd fun v => .ret (v, df)
  | .rcv => match cx.rd with
    | none => .ret (.nilIface, df)
    | some _ => .no
/-- one operation, calls too -/
def evOp (kn : Kn) (rc : Rc) (cx : Cx) (o : Oper) (rg : PT Value) (df : List Deferred) : M (Value × List Deferred) := (opA kn rg o).bd (nxA kn rc cx df)
/-- operations, one behind the other -/
def evSeq (kn : Kn) (rc : Rc) (cx : Cx) (ops : List Oper) : List Oper → PT Value → List Deferred → M (PT Value × List Deferred)
  | [], rg, df => .ret (rg, df)
  | o :: l, rg, df => (cond (wantA ops o rg) (evOp kn rc cx o rg df) (.ret (undef, df))).bd fun x => (M.opt (putD cx.n o.dst x.1 rg)).bd fun rg' => evSeq kn rc cx ops l rg' x.2
/-! #### regions that draw their order -/
structure Ent where
  i : Nat
  o : Oper
  m : Nat
def befF (bs : List Nat) : List Edge → Nat → Nat
  | [], m => m
  | e :: l, m => befF bs l (cond (Region.binds .any e) (Nat.lor (Nat.lor m (2 ^ e.on)) (match nth bs e.on with | some x => x | none => 0)) m)
/-- each operation with what is ahead of it -/
def planL : List Oper → Nat → List Nat → List Ent
  | [], _, _ => []
  | o :: l, i, bs => ⟨i, o, befF bs o.after.toList 0⟩ :: planL l (i + 1) (bs ++ [befF bs o.after.toList 0])
def bitA (m i : Nat) : Bool := Nat.testBit m i
def subA (m d : Nat) : Bool := Nat.beq (Nat.land m d) m
def isMv (o : Oper) : Bool := match o.op with
  | .call c => match c.callee with
    | .builtin .len => false
    | .builtin .min => false
    | .builtin .max => false
    | .builtin .cap => false
    | _ => true
  | .store .. => true
  | .defer _ => true
  | .mapUpdate .. => true
  | .insert .. => true
  | .next .. => true
  | .range .. => true
  | _ => false
/-- nothing but a value comes of it -/
def isSt (o : Oper) : Bool := match o.op with
  | .move _ => true
  | .assign _ => true
  | .pick .. => true
  | .build .. => true
  | .load .. => true
  | .nilCheck _ => true
  | .binOp .. => true
  | .unOp .. => true
  | .convert .. => true
  | .makeInterface .. => true
  | .makeFunc .. => true
  | .slice .. => true
  | .fieldAddr .. => true
  | .field .. => true
  | .indexAddr .. => true
  | .index .. => true
  | .lookup .. => true
  | .entry _ => true
  | .typeAssert .. => true
  | .extract .. => true
  | .call c => match c.callee with
    | .builtin .len => true
    | .builtin .min => true
    | .builtin .max => true
    | .builtin .cap => true
    | _ => false
  | _ => false
structure Xe where
  e : Ent
  rg : PT Value
  v : Value
/-- what the floaters leave: temporaries, what is done, the values to be looked at again, what is left -/
structure Ps where
  rg : PT Value
  done : Nat
  xs : List Xe
  rest : List Ent
def passF (kn : Kn) (n : Nat) (ops : List Oper) : List Ent → PT Value → Nat → List Xe → M Ps
  | [], rg, done, xs => .ret ⟨rg, done, xs, []⟩
  | e :: l, rg, done, xs => cond (isMv e.o || !subA e.m done) ((passF kn n ops l rg done xs).bd fun p => .ret ⟨p.rg, p.done, p.xs, e :: p.rest⟩)
      (cond (wantA ops e.o rg)
        (match alA kn.ty rg e.o with
          | some (ao, ak) => (nw ao).bd fun b => (M.opt (putD n e.o.dst (ak.val b) rg)).bd fun rg' => passF kn n ops l rg' (Nat.lor done (2 ^ e.i)) xs
          | none => (M.ok (isSt e.o)).bd fun _ => (opA kn rg e.o).bd fun x => match x with
            | .val v => (M.opt (putD n e.o.dst v rg)).bd fun rg' => passF kn n ops l rg' (Nat.lor done (2 ^ e.i)) (⟨e, rg, v⟩ :: xs)
            | _ => .no)
        ((M.opt (putD n e.o.dst undef rg)).bd fun rg' => passF kn n ops l rg' (Nat.lor done (2 ^ e.i)) xs))
/-- values looked at again, but those that are ahead of an operation -/
def lookF (kn : Kn) (m : Nat) : List Xe → M Unit
  | [] => .ret ()
  | x :: l => cond (bitA m x.e.i) (lookF kn m l) ((opA kn x.rg x.e.o).bd fun y => match y with
    | .val v => (M.ok (eqV 6 v x.v)).bd fun _ => lookF kn m l
    | _ => .no)
structure Ds where
  rg : PT Value
  df : List Deferred
  done : Nat
  mvs : Nat
  xs : List Xe
  pend : List Ent
/-- no floater may go -/
def noReady (done : Nat) : List Ent → Bool
  | [] => true
  | e :: l => (isMv e.o || !subA e.m done) && noReady done l
/-- floaters, as many as may go -/
def floatF (kn : Kn) (n : Nat) (ops : List Oper) (l : List Ent) (rg : PT Value) (done : Nat) (xs : List Xe) (m : Nat) : M Ps :=
  (passF kn n ops l rg done xs).bd fun p => (lookF kn m p.xs).bd fun _ => (M.ok (noReady p.done p.rest)).bd fun _ => .ret p
def goD (kn : Kn) (rc : Rc) (cx : Cx) (ops : List Oper) : Nat → Ds → M (PT Value × List Deferred)
  | 0, _ => .no
  | f + 1, s => match s.pend with
    | [] => .ret (s.rg, s.df)
    | e :: rest => (M.ok (isMv e.o && subA e.m s.done && subA s.mvs e.m)).bd fun _ =>
      (cond (wantA ops e.o s.rg) (evOp kn rc cx e.o s.rg s.df) (.ret (undef, s.df))).bd fun x => (M.opt (putD cx.n e.o.dst x.1 s.rg)).bd fun rg' =>
      (floatF kn cx.n ops rest rg' (Nat.lor s.done (2 ^ e.i)) s.xs e.m).bd fun p =>
        goD kn rc cx ops f ⟨p.rg, x.2, p.done, Nat.lor s.mvs (2 ^ e.i), p.xs, p.rest⟩
/-- one destination an operation; who reads what another one writes stands ahead of it or behind -/
def tmpsO : List Operand → List Tmp
  | [] => []
  | .tmp t :: l => t :: tmpsO l
  | _ :: l => tmpsO l
def okPair (a b : Ent) : Bool := match a.o.dst with
  | none => true
  | some t => (match b.o.dst with | some u => !Nat.beq t u | none => true) && (!memN t (tmpsO b.o.op.operands.toList) || bitA a.m b.i || bitA b.m a.i)
def okAll (e : Ent) : List Ent → Bool
  | [] => true
  | x :: l => okPair e x && okPair x e && okAll e l
def okGuard (e : Ent) : Bool := match e.o.guard with
  | none => true
  | some (j, _) => bitA e.m j
def okEdges (i : Nat) : List Edge → Bool
  | [] => true
  | e :: l => (!Region.binds .any e || Nat.blt e.on i) && okEdges i l
def okPlan : List Ent → Bool
  | [] => true
  | e :: l => okGuard e && okEdges e.i e.o.after.toList && okAll e l && okPlan l
def drawA (kn : Kn) (rc : Rc) (cx : Cx) (ops : List Oper) (rg : PT Value) (df : List Deferred) : M (PT Value × List Deferred) :=
  (M.ok (okPlan (planL ops 0 []))).bd fun _ => (floatF kn cx.n ops (planL ops 0 []) rg 0 [] 0).bd fun p =>
    goD kn rc cx ops (len ops + 1) ⟨p.rg, df, p.done, 0, p.xs, p.rest⟩
/-! #### code -/
def endA (pd : Option Code) (rg : PT Value) (df : List Deferred) : M (Ex × PT Value × List Deferred) := match pd with
  | none => .ret (.nor, rg, df)
  | some (.exit id) => .ret (.exit id, rg, df)
  | some .ret => .ret (.ret, rg, df)
  | some _ => .no
def cReg (kn : Kn) (rc : Rc) (cx : Cx) (ops : Array Oper) (draw : Bool) (rg : PT Value) (df : List Deferred) : M (Ex × PT Value × List Deferred) :=
  (cond draw (drawA kn rc cx ops.toList rg df) (evSeq kn rc cx ops.toList ops.toList rg df)).bd fun x => .ret (.nor, x.1, x.2)
def cSeq (rc : Rc) (cx : Cx) (a b : Code) (rg : PT Value) (df : List Deferred) : M (Ex × PT Value × List Deferred) := (rc.code cx a rg df).bd fun x => match x with
  | (.nor, rg', df') => rc.code cx b rg' df'
  | x => .ret x
def cCond (rc : Rc) (cx : Cx) (c : Operand) (a b : Code) (rg : PT Value) (df : List Deferred) : M (Ex × PT Value × List Deferred) := (ev rg c).bd fun v => match v with
  | .bool true => rc.code cx a rg df
  | .bool false => rc.code cx b rg df
  | _ => .no
def cBlk (rc : Rc) (cx : Cx) (id : Nat) (body : Code) (rg : PT Value) (df : List Deferred) : M (Ex × PT Value × List Deferred) := (rc.code cx body rg df).bd fun x => match x with
  | (.exit id', rg', df') => .ret (cond (Nat.beq id' id) .nor (.exit id'), rg', df')
  | x => .ret x
def cRf (kn : Kn) (rc : Rc) (cx : Cx) (f : Operand) (ps : Array Tmp) (assign body : Code) (rg : PT Value) (df : List Deferred) : M (Ex × PT Value × List Deferred) := (ev rg f).bd fun fv => match fv with
    | .func (.func g) first captured => (M.ok (kn.fb g)).bd fun _ => (match cx.rd with
        | none => (nw (.dfs (some []))).bd fun r => .ret (r, (⟨.collected r, #[]⟩ : Deferred) :: df)
        | some l => (gt l).bd fun o => match o with
          | .loop _ _ _ _ _ _ _ _ d => .ret (d, df)
          | _ => .no).bd fun y => (nw (.loop .ready none cx.fn rg cx.n ps assign body y.1)).bd fun l =>
        (rc.call g (first.toList ++ [Value.func (.yield l) #[] #[]] ++ captured.toList)).bd fun _ => (gt l).bd fun o => match o with
          | .loop .busy _ _ _ _ _ _ _ _ => .no
          | .loop _ pd fn rg0 n0 ps as bo d => (st l (.loop .exhausted pd fn rg0 n0 ps as bo d)).bd fun _ => endA pd rg y.2
          | _ => .no
    | _ => .no
def stepC (kn : Kn) (rc : Rc) (cx : Cx) (c : Code) (rg : PT Value) (df : List Deferred) : M (Ex × PT Value × List Deferred) := match c with
  | .skip => .ret (.nor, rg, df)
  | .label _ => .ret (.nor, rg, df)
  | .region _ ops draw => cReg kn rc cx ops draw rg df
  | .seq a b => cSeq rc cx a b rg df
  | .cond c a b => cCond rc cx c a b rg df
  | .block id body => cBlk rc cx id body rg df
  | .loop body => rc.loop cx body rg df
  | .scope body => rc.code cx body rg df
  | .exit id => .ret (.exit id, rg, df)
  | .ret => .ret (.ret, rg, df)
  | .rangeFunc f ps assign body => cRf kn rc cx f ps assign body rg df
  | .goto _ => .no
  | .refuse _ => .no
def stepL (rc : Rc) (cx : Cx) (body : Code) (rg : PT Value) (df : List Deferred) : M (Ex × PT Value × List Deferred) := (rc.code cx body rg df).bd fun x => match x with
  | (.nor, rg', df') => rc.loop cx body rg' df'
  | x => .ret x
/-- a function's results -/
def resA (tb : PT TyI) (rg : PT Value) : List ResultVar → M (List Value)
  | [] => .ret []
  | .tmp t :: l => (ev rg (.tmp t)).bd fun v => (resA tb rg l).bd fun vs => .ret (v :: vs)
  | .cell a t :: l => (ev rg (.tmp a)).bd fun p => (loadA tb t p).bd fun v => (resA tb rg l).bd fun vs => .ret (v :: vs)
def outA (vs : List Value) : Value := match vs with
  | [v] => v
  | vs => .tuple vs.toArray
def stepF (kn : Kn) (rc : Rc) (g : FuncId) (args : List Value) : M Value := (M.opt (kn.fn.get g)).bd fun fi =>
  (M.ok (Nat.ble (len args) fi.nt)).bd fun _ => (rc.code ⟨g, fi.nt, none⟩ fi.body (PT.ofL args 0 .leaf) []).bd fun x => match x with
    | (.exit _, _, _) => .no
    | (_, rg, df) => (rc.dfr df).bd fun _ => (resA kn.ty rg fi.res).bd fun vs => .ret (outA vs)
def stepD (rc : Rc) : List Deferred → M Unit
  | [] => .ret ()
  | d :: ds => match d.target with
    | .collected r => (gt r).bd fun o => match o with
      | .dfs (some cs) => (st r (.dfs none)).bd fun _ => rc.dfr (cs ++ ds)
      | _ => .no
    | .fn (.func g) captured => (rc.call g (d.args.toList ++ captured.toList)).bd fun _ => rc.dfr ds
    | _ => .no
def evN (kn : Kn) (n : Nat) : Rc := Nat.rec (motive := fun _ => Rc) ⟨fun _ _ _ _ => .no, fun _ _ _ _ => .no, fun _ _ => .no, fun _ => .no⟩ (fun _ rc => ⟨stepC kn rc, stepL rc, stepF kn rc, stepD rc⟩) n
end
end Go.Cev
namespace Go.Cev
/-! ### the tables of a program -/
noncomputable section
def undOf (P : Program) (i : TypeInfo) : Option TypeDesc := match i.desc with
  | .named _ u => match P.info? u with
    | some j => some j.desc
    | none => none
  | d => some d
def mkTy (P : Program) (eqs : List Nat) (t : Nat) (i : TypeInfo) : Option TyI := match undOf P i with
  | some d => some ⟨d, i.size, i.bytes, (match i.zero with
    | some z => cond (cleanC z) (some z) none
    | none => none), memN t eqs⟩
  | none => none
def tyL (P : Program) (eqs : List Nat) : List TypeInfo → Nat → PT TyI → PT TyI
  | [], _, t => t
  | i :: l, n, t => tyL P eqs l (n + 1) (t.set n (mkTy P eqs n i))
def mkFn (f : Func) : Option FnI := match f.body with
  | some c => some ⟨f.ntmps, c, f.results.toList⟩
  | none => none
def fnL : List Func → Nat → PT FnI → PT FnI
  | [], _, t => t
  | f :: l, n, t => fnL l (n + 1) (t.set n (mkFn f))
end
end Go.Cev
