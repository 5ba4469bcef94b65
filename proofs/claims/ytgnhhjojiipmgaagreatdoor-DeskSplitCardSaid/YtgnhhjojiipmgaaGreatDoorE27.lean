/- Steps of a function body on data, and contracts of the functions of the seat, walked. -/
import Derived.Test.YtgnhhjojiipmgaaGreatDoorE21
set_option linter.unusedSimpArgs false
set_option linter.unusedVariables false
set_option linter.unusedSectionVars false
namespace Go.Cev
open Go.RowKit
section
variable {P : Program} {H : Nat} {w0 : World} {kn : Kn} {rc : Rc}
theorem loop_ok (hr : RcOk P H w0 rc) : LoopOk P H w0 (stepL rc) := by
  intro cx c rg df W e rg' df' W' h ω w a hw hreg hdf b cs k hfit
  unfold stepL at h
  obtain ⟨⟨e1, rg1, df1⟩, W1, h1, h2⟩ := bd_some h; clear h
  obtain ⟨ω1, w1, a1, g1, g2, g3, g4, g5⟩ := hr.code _ _ _ _ _ _ _ _ _ h1 ω w a hw hreg hdf b cs (.inLoop c :: k) hfit
  cases e1 with
  | nor =>
    obtain ⟨ω2, w2, a2, f1, f2, f3, f4, f5⟩ := hr.loop _ _ _ _ _ _ _ _ _ h2 ω1 w1 a1 g2 g3 g4 b cs k (hfit.mono g1.le)
    exact ⟨ω2, w2, a2, g1.trans f1, f2, f3, f4, Arr.of_steps (Steps.trans g5 (.one stepR_inLoop)) f5⟩
  | exit id => cases h2; exact ⟨ω1, w1, a1, g1, g2, g3, g4, Arr.pass (x := .inLoop c) rfl (by intro e; cases e) g5⟩
  | ret => cases h2; exact ⟨ω1, w1, a1, g1, g2, g3, g4, Arr.pass (x := .inLoop c) rfl (by intro e; cases e) g5⟩
theorem dfr_ok (hk : KnOk P H w0 kn) (hfb : ∀ g args W x, rc.call g args W = some x → kn.fb g = true) (hr : RcOk P H w0 rc) : DfrOk P H w0 (stepD rc) := by
  intro ds W W' h ω w fr cs hw hds hm
  cases ds with
  | nil =>
    cases h
    have : fr.defers = [] := by generalize fr.defers = x at hds; cases hds; rfl
    refine ⟨ω, w, Gr.refl ω _, hw, ?_⟩
    rw [show ({ fr with defers := [] } : Frame) = fr by rw [← this]]
    exact Steps.refl _ _
  | cons d ds =>
    generalize hfd : fr.defers = x at hds
    cases hds with
    | @cons _ d' _ ds' hd hds =>
    unfold stepD at h
    simp only at h
    obtain ⟨ht, ha⟩ := hd
    generalize hdt : d.target = t at ht h
    generalize hdt' : d'.target = t' at ht
    cases ht with
    | builtin => cases h
    | yield => cases h
    | @collected r r' hrr =>
      simp only at h
      obtain ⟨o, W1, h1, h2⟩ := bd_some h; clear h
      obtain ⟨o1, o', q1, q2, q3⟩ := hw.obj _ _ _ hrr
      have hW1 : W1 = W ∧ o = o1 := by
        unfold gt at h1
        simp only [q1] at h1
        cases hob : o1.obj with
        | false => rw [hob] at h1; cases h1
        | true => rw [hob] at h1; cases h1; exact ⟨rfl, rfl⟩
      obtain ⟨e1, e2⟩ := hW1
      rw [e1, e2] at h2
      cases q3 <;> try (cases h2; done)
      rename_i cd cd' hcd
      simp only at h2
      obtain ⟨u, W2, h3, h4⟩ := bd_some h2; clear h2
      obtain ⟨g1, w1, g2, g3⟩ := st_ok (P := P) hw hrr h3 (o' := .deferred none) (fun rm => .def0)
      have htk : (Instr.takeDeferred r').run P w = .ok cd' w1 := by
        unfold Instr.takeDeferred
        simp only [bind, Sem.run_bind' P, run_getObj (P := P) q2 (fun _ _ _ e => by cases e), Result.andThen, pure, Sem.run]
        rw [g2]
      have hs := step_collected (P := P) (fr := fr) (cs := cs) (w := w) (d := d') (r := r') (ds := ds') (by rw [hm]; intro e; cases e) hfd hdt' htk
      have happ : DRs ω (cd ++ ds) (cd' ++ ds') := by
        have : ∀ {a a' : List Deferred}, DRs ω a a' → DRs ω (a ++ ds) (a' ++ ds') := fun h => by
          induction h with
          | nil => exact hds
          | cons h _ ih => exact .cons h ih
        exact this hcd
      obtain ⟨ω2, w2, f1, f2, f3⟩ := hr.dfr _ _ _ h4 ω w1 { fr with defers := cd' ++ ds' } cs g3 happ hm
      exact ⟨ω2, w2, g1.trans f1, f2, .head hs f3⟩
    | @fn fn cc cc' hy hcc =>
      cases fn <;> try (cases h; done)
      rename_i g
      simp only at h
      obtain ⟨v, W1, h1, h2⟩ := bd_some h; clear h
      have hgb := hfb g _ _ _ h1
      have hargs : VRs ω (d.args.toList ++ cc.toArray.toList) (d'.args.toList ++ cc') := by simpa using ha.append hcc
      obtain ⟨ω1, v', w1, fr1, f1, f2, f3, f4, f5, f6, f7, f8, fn, f9, f10⟩ := hr.call _ _ _ _ _ h1 ω w _ hw hargs .deferred ({ fr with defers := ds' } :: cs) (.inr ⟨rfl, _, _, rfl, hm⟩)
      have hinv : (invoke d'.target d'.args).run P w = .ok (.enter g (d'.args.toList ++ cc').toArray) w := by
        rw [hdt']
        show (callFunc g _).run P w = _
        rw [callFunc_ent hk hgb]
        congr 2
        apply Array.ext'; simp
      have hs := step_defer (P := P) (fr := fr) (cs := cs) (w := w) (d := d') (ds := ds') (by rw [hm]; intro e; cases e) hfd hdt' hinv
      have hs2 := step_going_returned (P := P) (fr := fr1) (c := { fr with defers := ds' }) (cs := cs) (w := w1) (v := v') f7 ⟨f5, f6, fn, by rw [f8]; exact f9, f10⟩
      have hset : ({ ({ fr with defers := ds' } : Frame) with mode := settle ({ fr with defers := ds' } : Frame).mode } : Frame) = { fr with defers := ds' } := by
        simp [settle, hm]
      rw [hset] at hs2
      obtain ⟨ω2, w2, z1, z2, z3⟩ := hr.dfr _ _ _ h2 ω1 w1 { fr with defers := ds' } cs f2 (hds.mono f1.le) hm
      exact ⟨ω2, w2, f1.trans z1, z2, .head hs (Steps.trans f4 (.head hs2 z3))⟩
/-- a load leaves both worlds -/
theorem load_at (ht : TbOk P kn.ty) {t : TypeId} {v v' x : Value} {W W' : AW} {ω : Om} {w : World} (h : loadA kn.ty t v W = some (x, W')) (hw : WR H w0 ω W w) (hv : VR ω v v') : W' = W ∧ ∃ x' a', v' = .pointer (some a') ∧ (loadVar t a').run P w = .ok x' w ∧ VR ω x x' := by
  unfold loadA at h
  cases v <;> try (cases h; done)
  rename_i ad
  cases ad <;> try (cases h; done)
  rename_i ad
  simp only at h
  obtain ⟨i, W1, h1, h2⟩ := bd_some h; clear h
  obtain ⟨hi, e1⟩ := optS h1
  rw [e1] at h2
  have hvv : ∃ a', v' = .pointer (some a') ∧ AR ω ad a' := by cases hv with | ptr hb => exact ⟨_, rfl, .ptr hb⟩
  obtain ⟨a', rfl, ha⟩ := hvv
  unfold ldV at h2
  cases hag : aggT i.und with
  | true =>
    rw [hag] at h2
    simp only at h2
    obtain ⟨l, W2, h3, h4⟩ := bd_some h2
    cases h4
    obtain ⟨rfl, _, y, h5, h6⟩ := rdN_ok (P := P) ha hw h3
    refine ⟨rfl, _, a', rfl, ?_, .agg h5⟩
    unfold loadVar
    simp only [bind, Sem.run_bind' P, ht.agg hi w, Result.andThen, hag, if_true, ht.size hi w, h6 w rfl, pure, Sem.run]
  | false =>
    rw [hag] at h2
    simp only at h2
    cases ha with
    | @ptr b r base o hb =>
      obtain ⟨ob, o', q1, q2, q3⟩ := hw.obj _ _ _ hb
      unfold rd at h2
      simp only [q1] at h2
      cases q3 with
      | @cells _ c c' kk e fz fr q3 qf qk qt =>
        simp only [nth_eq] at h2
        cases hv : c[o]? with
        | none => rw [hv] at h2; cases h2
        | some u =>
          rw [hv] at h2; cases h2
          obtain ⟨v', h4, h5⟩ := q3 o _ hv
          refine ⟨rfl, v', _, rfl, ?_, h5⟩
          unfold loadVar
          simp only [bind, Sem.run_bind' P, ht.agg hi w, Result.andThen, hag, Bool.false_eq_true, if_false, Go.load, Sem.run, World.cell?, q2, Option.isSome_none]
          have : c'.toArray[base + o]? = some v' := by simpa using h4
          simp only [this]
      | _ => cases h2
/-- one result -/
def rvS (tm : Array Value) (r : ResultVar) : Sem Value := match r with
  | .tmp t => pure (tm.getD t undef)
  | .cell a t => do loadVar t (← asAddr (tm.getD a undef))
theorem results_rv (fn : Func) (tm : Array Value) : results fn tm = (do
    let vs ← fn.results.mapM (rvS tm)
    pure (if h : vs.size = 1 then vs[0] else .tuple vs)) := by
  have : rvS tm = (fun r => match r with
    | .tmp t => pure (tm.getD t undef)
    | .cell a t => do loadVar t (← asAddr (tm.getD a undef))) := by funext r; cases r <;> rfl
  rw [this]; rfl
/-- results -/
theorem resA_ok (hk : KnOk P H w0 kn) {rg : PT Value} {n : Nat} {tm : Array Value} : ∀ {l : List ResultVar} {vs : List Value} {W W' : AW} {ω : Om} {w : World}, resA kn.ty rg l W = some (vs, W') → WR H w0 ω W w → RegR ω rg n tm →
    W' = W ∧ ∃ vs', VRs ω vs vs' ∧ (l.mapM (rvS tm)).run P w = .ok vs' w
  | [], vs, W, W', ω, w, h, hw, hreg => by cases h; exact ⟨rfl, [], .nil, rfl⟩
  | .tmp t :: l, vs, W, W', ω, w, h, hw, hreg => by
    unfold resA at h
    obtain ⟨v, W1, h1, h2⟩ := bd_some h; clear h
    obtain ⟨us, W2, h3, h4⟩ := bd_some h2; clear h2
    cases h4
    obtain ⟨e1, hv⟩ := ev_at (a := ⟨tm, []⟩) hreg h1
    rw [e1] at h3
    obtain ⟨e2, vs', g3, g4⟩ := resA_ok hk h3 hw hreg
    refine ⟨e2, tm.getD t undef :: vs', .cons hv g3, ?_⟩
    rw [List.mapM_cons]
    simp only [bind, Sem.run_bind' P, pure, Sem.run, Result.andThen, rvS] at g4 ⊢
    rw [g4]
  | .cell a t :: l, vs, W, W', ω, w, h, hw, hreg => by
    unfold resA at h
    obtain ⟨p, W1, h1, h2⟩ := bd_some h; clear h
    obtain ⟨v, W2, h3, h4⟩ := bd_some h2; clear h2
    obtain ⟨us, W3, h5, h6⟩ := bd_some h4; clear h4
    cases h6
    obtain ⟨e1, hp⟩ := ev_at (a := ⟨tm, []⟩) hreg h1
    rw [e1] at h3
    have hp : VR ω p (tm.getD a undef) := hp
    obtain ⟨e2, v', a', f1, f2, f3⟩ := load_at (P := P) hk.ty h3 hw hp
    rw [e2] at h5
    obtain ⟨e3, vs', g3, g4⟩ := resA_ok hk h5 hw hreg
    refine ⟨e3, v' :: vs', .cons f3 g3, ?_⟩
    rw [List.mapM_cons]
    have f2' : (rvS tm (.cell a t)).run P w = .ok v' w := by
      show (do loadVar t (← asAddr (tm.getD a undef)) : Sem Value).run P w = _
      rw [f1]
      simp only [bind, Sem.run_bind' P, asAddr, pure, Sem.run, Result.andThen]; exact f2
    simp only [bind, Sem.run_bind' P, pure, Sem.run] at g4 f2' ⊢
    rw [f2']
    simp only [Result.andThen]
    rw [g4]
theorem ofL_reg {ω : Om} {args args' : List Value} (h : VRs ω args args') {n : Nat} (hn : args.length ≤ n) : RegR ω (PT.ofL args 0 .leaf) n (args'.toArray ++ Array.replicate (n - args'.length) undef) := by
  have hl := h.length
  refine ⟨by simp; omega, fun t => ?_⟩
  rw [PT.get_ofL, Array.getD_eq_getD_getElem?]
  simp only [Nat.zero_le, true_and, Nat.zero_add, Nat.sub_zero, PT.get_leaf]
  by_cases ht : t < args.length
  · rw [if_pos ht]
    have h1 : args[t]? = some args[t] := by simp [ht]
    obtain ⟨v', h2, h3⟩ := h.get h1
    have h4 : (args'.toArray ++ Array.replicate (n - args'.length) undef)[t]? = some v' := by
      rw [Array.getElem?_append_left (by simp; omega)]; simpa using h2
    rw [h1, h4]; exact h3
  · rw [if_neg ht]
    have h4 : ((args'.toArray ++ Array.replicate (n - args'.length) undef)[t]?).getD undef = undef := by
      rw [Array.getElem?_append_right (by simp; omega)]
      rw [Array.getElem?_replicate]
      split <;> rfl
    rw [h4]; exact .tuple .nil
theorem call_ok (hk : KnOk P H w0 kn) (hr : RcOk P H w0 rc) : CallOk P H w0 (stepF kn rc) := by
  intro g args W v W' h ω w args' hw hargs kind cs hrec
  unfold stepF at h
  obtain ⟨fi, W1, h1, h2⟩ := bd_some h; clear h
  obtain ⟨hfi, e1⟩ := optS h1
  rw [e1] at h2
  obtain ⟨u, W2, h3, h4⟩ := bd_some h2; clear h2
  obtain ⟨hlen, e2⟩ := okS h3
  rw [e2] at h4
  have hlen := Nat.le_of_ble_eq_true hlen
  rw [len_eq] at hlen
  obtain ⟨⟨e, rg, df⟩, W3, h5, h6⟩ := bd_some h4; clear h4
  obtain ⟨fn, k1, k2, k3, k4, k5⟩ := hk.fn g fi hfi
  let b : Frame := { (default : Frame) with fn := g, kind := kind, roundOf := none }
  have hsz : args'.toArray.size = args'.length := by simp
  have hb0 : Frame.enter P g args'.toArray kind = b.atR { tmps := args'.toArray ++ Array.replicate (fi.nt - args'.length) undef, defers := [] } [.code fi.body] := by
    simp [Frame.enter, Frame.atR, b, k1, k2, k3]
  have hfit : ∀ ω1, Fit ⟨g, fi.nt, none⟩ b cs ω1 := fun ω1 => ⟨rfl, trivial, hrec, fun hh => absurd rfl hh⟩
  obtain ⟨ω1, w1, a1, g1, g2, g3, g4, g5⟩ := hr.code _ _ _ _ _ _ _ _ _ h5 ω w { tmps := args'.toArray ++ Array.replicate (fi.nt - args'.length) undef, defers := [] } hw (ofL_reg hargs hlen) .nil b cs [] (hfit ω)
  rw [← hb0] at g5
  have hend : (∃ todo, Steps P (lone (Frame.enter P g args'.toArray kind) cs w) (lone { b.atR a1 todo with mode := .returning } cs w1)) ∧ ∃ u W4 vs W5, rc.dfr df W3 = some (u, W4) ∧ resA kn.ty rg fi.res W4 = some (vs, W5) ∧ v = outA vs ∧ W' = W5 := by
    cases e with
    | exit id => cases h6
    | nor =>
      simp only at h6
      obtain ⟨u, W4, h7, h8⟩ := bd_some h6
      obtain ⟨vs, W5, h9, h10⟩ := bd_some h8
      cases h10
      exact ⟨⟨[], Steps.trans g5 (.one (stepR_end rfl))⟩, _, _, _, _, h7, h9, rfl, rfl⟩
    | ret =>
      simp only at h6
      obtain ⟨u, W4, h7, h8⟩ := bd_some h6
      obtain ⟨vs, W5, h9, h10⟩ := bd_some h8
      cases h10
      obtain ⟨k', g5⟩ := g5
      exact ⟨⟨_, Steps.trans g5 (.one (stepR_ret rfl))⟩, _, _, _, _, h7, h9, rfl, rfl⟩
  obtain ⟨⟨todo, hst⟩, u, W4, vs, W5, h7, h8, rfl, rfl⟩ := hend
  obtain ⟨ω2, w2, f1, f2, f3⟩ := hr.dfr _ _ _ h7 ω1 w1 { b.atR a1 todo with mode := .returning } cs g2 g4 rfl
  obtain ⟨e3, vs', z3, z4⟩ := resA_ok hk h8 f2 (g3.mono f1.le)
  rw [e3]
  have hres : (results fn a1.tmps).run P w2 = .ok (if hh : vs'.toArray.size = 1 then vs'.toArray[0] else .tuple vs'.toArray) w2 := by
    rw [results_rv, Array.mapM_eq_mapM_toList, k4]
    simp only [Functor.map, bind, pure, Sem.run_bind' P] at z4 ⊢
    rw [z4]; rfl
  have hout : VR ω2 (outA vs) (if hh : vs'.toArray.size = 1 then vs'.toArray[0] else .tuple vs'.toArray) := by
    cases z3 with
    | nil => exact .tuple .nil
    | cons h1 h2 =>
      cases h2 with
      | nil => exact h1
      | cons h2 h3 => exact .tuple (.cons h1 (.cons h2 h3))
  exact ⟨ω2, _, w2, { b.atR a1 todo with mode := .returning, defers := [] }, g1.trans f1, f2, hout, Steps.trans hst f3, rfl, rfl, rfl, rfl, fn, k1, hres⟩
theorem evN_ok (hk : KnOk P H w0 kn) (hd : ∀ rc, RcOk P H w0 rc → DrawOk P H w0 kn rc) : ∀ n, RcOk P H w0 (evN kn n) ∧ ∀ g args W x, (evN kn n).call g args W = some x → kn.fb g = true
  | 0 => ⟨⟨fun _ _ _ _ _ _ _ _ _ h => (by cases h), fun _ _ _ _ _ _ _ _ _ h => (by cases h), fun _ _ _ _ _ h => (by cases h), fun _ _ _ h => (by cases h)⟩, fun _ _ _ _ h => (by cases h)⟩
  | n + 1 => by
    obtain ⟨ih, ih2⟩ := evN_ok hk hd n
    refine ⟨⟨code_ok hk ih (hd _ ih), loop_ok ih, call_ok hk ih, dfr_ok hk ih2 ih⟩, fun g args W x h => ?_⟩
    have h : stepF kn (evN kn n) g args W = some x := h
    unfold stepF at h
    obtain ⟨fi, W1, h1, h2⟩ := bd_some h
    obtain ⟨hfi, e1⟩ := optS h1
    unfold Kn.fb
    rw [hfi]
end
end Go.Cev
namespace Go.Cev
open Go.RowKit
/-! ### regions that draw their order -/
/-- it leaves the world -/
def Pu {α : Type} (m : M α) : Prop := ∀ W a W', m W = some (a, W') → W' = W
section
variable {α β : Type}
theorem Pu.ret (a : α) : Pu (.ret a) := fun W b W' h => by cases h; rfl
theorem Pu.no : Pu (.no : M α) := fun W b W' h => by cases h
theorem Pu.opt (o : Option α) : Pu (.opt o) := fun W b W' h => (optS h).2
theorem Pu.ok (b : Bool) : Pu (.ok b) := fun W x W' h => (okS h).2
theorem Pu.bd {m : M α} {f : α → M β} (h : Pu m) (hf : ∀ a, Pu (f a)) : Pu (m.bd f) := fun W b W' hr => by
  obtain ⟨a, W1, h1, h2⟩ := bd_some hr
  rw [hf a _ _ _ h2, h _ _ _ h1]
theorem Pu.cond {b : Bool} {x y : M α} (hx : Pu x) (hy : Pu y) : Pu (cond b x y) := by cases b <;> assumption
theorem Pu.rd (a : Addr) : Pu (rd a) := fun W b W' h => by
  unfold Cev.rd at h
  cases hs : a.spot with
  | some x => rw [hs] at h; cases h
  | none =>
    rw [hs] at h
    simp only at h
    cases hg : W.heap.get a.block with
    | none => rw [hg] at h; cases h
    | some o =>
      rw [hg] at h
      cases o <;> try (cases h; done)
      rename_i c k fz
      simp only at h
      cases hn : nth c a.off with
      | none => rw [hn] at h; cases h
      | some v => rw [hn] at h; cases h; rfl
theorem Pu.rdN (a : Addr) (n : Nat) : Pu (rdN a n) := fun W b W' h => by
  unfold Cev.rdN at h
  cases hs : a.spot with
  | some x => rw [hs] at h; cases h
  | none =>
    rw [hs] at h
    simp only at h
    cases hg : W.heap.get a.block with
    | none => rw [hg] at h; cases h
    | some o =>
      rw [hg] at h
      cases o <;> try (cases h; done)
      rename_i c k fz
      simp only at h
      cases hn : Nat.ble (a.off + n) (len c) with
      | false => rw [hn] at h; cases h
      | true => rw [hn] at h; cases h; rfl
theorem Pu.gt (r : Nat) : Pu (gt r) := fun W b W' h => by
  unfold Cev.gt at h
  cases hg : W.heap.get r with
  | none => rw [hg] at h; cases h
  | some o =>
    rw [hg] at h
    simp only at h
    cases ho : o.obj with
    | false => rw [ho] at h; cases h
    | true => rw [ho] at h; cases h; rfl
theorem Pu.pkS (a : Addr) : Pu (pkS a) := fun W b W' h => by
  unfold Cev.pkS at h
  cases hg : W.heap.get a.block with
  | none => rw [hg] at h; cases h
  | some o =>
    rw [hg] at h
    cases o <;> first | (cases h; rfl) | cases h
theorem Pu.val {m : M Value} (h : Pu m) : Pu (val m) := h.bd fun _ => .ret _
end
section
variable {kn : Kn} {tb : PT TyI}
theorem Pu.ty (t : TypeId) : Pu (tyI tb t) := .opt _
theorem Pu.ev (rg : PT Value) (x : Operand) : Pu (ev rg x) := .opt _
theorem Pu.ldV (i : TyI) (a : Addr) : Pu (ldV i a) := by
  unfold Cev.ldV
  cases aggT i.und
  · exact .rd a
  · exact (Pu.rdN _ _).bd fun _ => .ret _
theorem Pu.load (t : TypeId) (v : Value) : Pu (loadA tb t v) := by
  unfold loadA
  split
  · exact (Pu.ty t).bd fun _ => .ldV _ _
  · exact .no
theorem Pu.nil (v : Value) : Pu (nilA v) := by
  unfold nilA
  split <;> first | exact .no | exact .ret _
theorem Pu.field (t : TypeId) (v : Value) (n : Nat) : Pu (fieldA tb t v n) := by
  unfold fieldA
  refine (Pu.ty t).bd fun i => ?_
  split
  · exact (Pu.opt _).bd fun _ => (Pu.ty _).bd fun _ => .opt _
  · exact .no
theorem Pu.index (t : TypeId) (v x : Value) : Pu (indexA tb t v x) := by
  unfold indexA
  refine (Pu.ty t).bd fun i => ?_
  split
  · exact (Pu.opt _).bd fun _ => (Pu.ty _).bd fun _ => .opt _
  · exact (Pu.opt _).bd fun _ => .opt _
  · exact .no
theorem Pu.iface (t : TypeId) (v : Value) : Pu (ifaceA tb t v) := by
  unfold ifaceA
  refine (Pu.ty t).bd fun i => ?_
  split <;> first | exact .no | exact .ret _
theorem Pu.assert (v : Value) (t : TypeId) (ok : Bool) : Pu (assertA tb v t ok) := by
  unfold assertA
  refine (Pu.ty t).bd fun i => ?_
  split
  · exact .no
  · exact .cond (.ret _) (.cond ((Pu.opt _).bd fun _ => .ret _) .no)
  · exact .cond ((Pu.opt _).bd fun _ => .ret _) .no
  · exact .no
theorem Pu.fieldAt (t : TypeId) (v : Value) (n : Nat) : Pu (fieldAtA tb t v n) := by
  unfold fieldAtA
  refine (Pu.ty t).bd fun i => ?_
  split
  · exact (Pu.opt _).bd fun _ => (Pu.ty _).bd fun _ => .cond .no (.ret _)
  · exact .no
theorem Pu.indexAt (t : TypeId) (v x : Value) : Pu (indexAtA tb t v x) := by
  unfold indexAtA
  refine (Pu.ty t).bd fun i => ?_
  split
  · exact (Pu.opt _).bd fun _ => (Pu.ty _).bd fun _ => .ret _
  · exact (Pu.opt _).bd fun _ => (Pu.ty _).bd fun _ => .ret _
  · exact .no
theorem Pu.slice (t : TypeId) (v : Value) (lo hi mx : Option Value) : Pu (sliceA tb t v lo hi mx) := by
  unfold sliceA
  refine (Pu.ty t).bd fun i => ?_
  split
  · refine (Pu.ty _).bd fun _ => (Pu.opt _).bd fun _ => (Pu.opt _).bd fun _ => (Pu.opt _).bd fun _ => (Pu.ok _).bd fun _ => ?_
    split
    · exact .ret _
    · split
      · exact .ret _
      · exact .cond (.ret _) ((Pu.pkS _).bd fun _ => (Pu.ok _).bd fun _ => .ret _)
  · split
    · exact .no
    · exact (Pu.opt _).bd fun _ => (Pu.opt _).bd fun _ => .ret _
  · exact .no
theorem Pu.getM (v : Value) : Pu (getM v) := by
  unfold Cev.getM
  split
  · exact .ret _
  · exact (Pu.gt _).bd fun o => by split <;> first | exact .ret _ | exact .no
  · exact .no
theorem Pu.look (t : TypeId) (m k : Value) (ok : Bool) : Pu (lookA tb t m k ok) := by
  unfold lookA
  refine (Pu.ty t).bd fun i => ?_
  split
  · refine (Pu.ty _).bd fun _ => (Pu.ok _).bd fun _ => (Pu.getM _).bd fun _ => (Pu.opt _).bd fun f => ?_
    split
    · exact .ret _
    · exact (Pu.ty _).bd fun _ => (Pu.opt _).bd fun _ => .ret _
  · exact .no
theorem Pu.entry (v : Value) : Pu (entryA v) := by
  unfold entryA
  split
  · refine (Pu.gt _).bd fun o => ?_
    split
    · refine (Pu.opt _).bd fun _ => (Pu.gt _).bd fun o => ?_
      split
      · exact (Pu.ok _).bd fun _ => (Pu.opt _).bd fun _ => .ret _
      · exact .no
    · exact .no
  · exact .no
theorem Pu.len (t : TypeId) (v : Value) : Pu (lenA tb t v) := by
  unfold lenA
  refine (Pu.ty t).bd fun i => ?_
  split <;> first | exact .ret _ | exact .no | skip
  exact (Pu.gt _).bd fun o => by split <;> first | exact .ret _ | exact .no
theorem Pu.cap (t : TypeId) (v : Value) : Pu (capA tb t v) := by
  unfold capA
  refine (Pu.ty t).bd fun i => ?_
  split <;> first | exact .ret _ | exact .no
theorem Pu.bx (b u n : Nat) : Pu (bxA b u n) := fun W x W' h => by
  unfold bxA at h
  cases hg : W.heap.get b with
  | none => rw [hg] at h; cases h
  | some o =>
    rw [hg] at h
    cases o <;> try (cases h; done)
    rename_i c k fz
    simp only at h
    cases hn : (Nat.beq k.1 0 && Nat.beq k.2 (u + 1) && Nat.beq (Cev.len c) n && Nat.blt 0 n) with
    | false => rw [hn] at h; cases h
    | true => rw [hn] at h; cases h; rfl
theorem Pu.cv (i j : TyI) (v : Value) : Pu (cvA tb i j v) := by
  unfold cvA
  split
  · exact (Pu.ty _).bd fun _ => (Pu.ok _).bd fun _ => (Pu.rd _).bd fun _ => .ret _
  · exact (Pu.ty _).bd fun _ => (Pu.bx _ _ _).bd fun _ => .ret _
  · exact .opt _
/-- operations that make but a value leave the world -/
theorem still_W {rg : PT Value} {o : Oper} (h : isSt o = true) : Pu (opA kn rg o) := by
  unfold isSt at h
  unfold opA
  cases ho : o.op <;> simp only [ho] at h ⊢ <;> first | (cases h; done) | skip
  · exact Pu.val (.ev _ _)
  · exact Pu.val (.ev _ _)
  · exact Pu.val (.opt _)
  · exact (Pu.opt _).bd fun _ => Pu.val (.opt _)
  · exact (Pu.ev _ _).bd fun _ => Pu.val (.load _ _)
  · exact (Pu.ev _ _).bd fun _ => Pu.val (.nil _)
  · exact (Pu.ev _ _).bd fun _ => (Pu.ev _ _).bd fun _ => Pu.val (.opt _)
  · exact (Pu.ev _ _).bd fun _ => Pu.val (.opt _)
  · exact (Pu.ev _ _).bd fun _ => (Pu.ty _).bd fun _ => (Pu.ty _).bd fun _ => Pu.val (.cv _ _ _)
  · exact (Pu.ev _ _).bd fun _ => Pu.val (.iface _ _)
  · exact (Pu.opt _).bd fun _ => (Pu.opt _).bd fun _ => by split <;> first | exact .no | exact .ret _
  · exact (Pu.ev _ _).bd fun _ => (Pu.opt _).bd fun _ => (Pu.opt _).bd fun _ => (Pu.opt _).bd fun _ => Pu.val (.slice _ _ _ _ _)
  · exact (Pu.ev _ _).bd fun _ => Pu.val (.fieldAt _ _ _)
  · exact (Pu.ev _ _).bd fun _ => Pu.val (.field _ _ _)
  · exact (Pu.ev _ _).bd fun _ => (Pu.ev _ _).bd fun _ => Pu.val (.indexAt _ _ _)
  · exact (Pu.ev _ _).bd fun _ => (Pu.ev _ _).bd fun _ => Pu.val (.index _ _ _)
  · exact (Pu.ev _ _).bd fun _ => (Pu.ev _ _).bd fun _ => Pu.val (.look _ _ _ _)
  · exact (Pu.ev _ _).bd fun _ => Pu.val (.entry _)
  · exact (Pu.ev _ _).bd fun _ => Pu.val (.assert _ _ _)
  · exact (Pu.ev _ _).bd fun _ => Pu.val (.opt _)
  · rename_i c
    unfold callA
    cases hc : c.callee with
    | value f => simp only [hc] at h; cases h
    | invoke r m => simp only [hc] at h; cases h
    | builtin b =>
      simp only [hc] at h ⊢
      refine (Pu.opt _).bd fun args => ?_
      unfold builtA
      cases b <;> first | (cases h; done) | skip
      all_goals (split <;> first | exact Pu.val (.len _ _) | exact Pu.val (.cap _ _) | exact Pu.val (.opt _) | exact .no | exact .ret _ | (simp_all; done))
end
end Go.Cev
namespace Go.Cev
open Go.RowKit
theorem addrSame_eq {a b : Addr} (h : addrSame a b = true) : a = b := by
  obtain ⟨b1, o1, s1⟩ := a
  obtain ⟨b2, o2, s2⟩ := b
  unfold addrSame at h
  simp only [Bool.and_eq_true] at h
  have h1 := Nat.eq_of_beq_eq_true h.1.1
  have h2 := Nat.eq_of_beq_eq_true h.1.2
  have h1 : b1 = b2 := h1
  have h2 : o1 = o2 := h2
  subst h1; subst h2
  cases s1 <;> cases s2 <;> first | rfl | (exact absurd h.2 (by simp))
theorem eqVs_eq {f : Value → Value → Bool} (hf : ∀ a b, f a b = true → a = b) : ∀ {l k : List Value}, eqVs f l k = true → l = k
  | [], [], _ => rfl
  | [], _ :: _, h => by cases h
  | _ :: _, [], h => by cases h
  | a :: l, b :: k, h => by
    simp only [eqVs, Bool.and_eq_true] at h
    rw [hf _ _ h.1, eqVs_eq hf h.2]
theorem arr_eq {α : Type} {a b : Array α} (h : a.toList = b.toList) : a = b := Array.ext' h
theorem eqV_eq : ∀ (n : Nat) (a b : Value), eqV n a b = true → a = b
  | 0, _, _, h => by cases h
  | n + 1, a, b, h => by
    have ih := eqV_eq n
    unfold eqV at h
    split at h
    · rw [eq_of_beq h]
    · simp only [Bool.and_eq_true, decide_eq_true_eq] at h
      rw [kEq_eq h.1, h.2]
    · rename_i x y
      have : (bl x == bl y) = true := by have := h; unfold bEq at this; rw [lEq_eq] at this; exact this
      have := eq_of_beq this
      congr 1
      apply ByteArray.ext
      exact arr_eq this
    · rfl
    · rw [addrSame_eq h]
    · simp only [Bool.and_eq_true] at h
      rw [Nat.eq_of_beq_eq_true h.1, Nat.eq_of_beq_eq_true h.2]
    · simp only [Bool.and_eq_true] at h
      rw [addrSame_eq h.1.1, Nat.eq_of_beq_eq_true h.1.2, Nat.eq_of_beq_eq_true h.2]
    · rfl
    · rw [Nat.eq_of_beq_eq_true h]
    · simp only [Bool.and_eq_true] at h
      rw [Nat.eq_of_beq_eq_true h.1.1, arr_eq (eqVs_eq ih h.1.2), arr_eq (eqVs_eq ih h.2)]
    · simp only [Bool.and_eq_true] at h
      rw [Nat.eq_of_beq_eq_true h.1.1, arr_eq (eqVs_eq ih h.1.2), arr_eq (eqVs_eq ih h.2)]
    · rfl
    · rfl
    · simp only [Bool.and_eq_true] at h
      rw [Nat.eq_of_beq_eq_true h.1, ih _ _ h.2]
    · rw [arr_eq (eqVs_eq ih h)]
    · rw [arr_eq (eqVs_eq ih h)]
    · cases h
/-! #### what is ahead -/
theorem befF_bit {bs : List Nat} : ∀ {l : List Edge} {m j : Nat}, Nat.testBit (befF bs l m) j = true → Nat.testBit m j = true ∨ ∃ e ∈ l, Region.binds .any e = true ∧ (e.on = j ∨ ∃ x, bs[e.on]? = some x ∧ Nat.testBit x j = true)
  | [], m, j, h => .inl h
  | e :: l, m, j, h => by
    unfold befF at h
    rcases befF_bit h with h | ⟨e', h1, h2, h3⟩
    · cases hb : Region.binds .any e with
      | false => rw [hb] at h; exact .inl h
      | true =>
        rw [hb] at h
        simp only [cond_true] at h
        have h : Nat.testBit ((m ||| 2 ^ e.on) ||| (match nth bs e.on with | some x => x | none => 0)) j = true := h
        rw [Nat.testBit_or, Nat.testBit_or] at h
        simp only [Bool.or_eq_true] at h
        rcases h with (h | h) | h
        · exact .inl h
        · rw [Nat.testBit_two_pow] at h
          exact .inr ⟨e, by simp, hb, .inl (by simpa using h)⟩
        · rw [nth_eq] at h
          cases hx : bs[e.on]? with
          | none => rw [hx] at h; simp at h
          | some x => rw [hx] at h; exact .inr ⟨e, by simp, hb, .inr ⟨x, hx, h⟩⟩
    · exact .inr ⟨e', by simp [h1], h2, h3⟩
/-- the plan of a region: each operation in its place, with a mask of its own -/
structure Planned (ops : List Oper) (L : List Ent) : Prop where
  at_ : ∀ e ∈ L, ops[e.i]? = some e.o
  all : ∀ i o, ops[i]? = some o → ∃ e ∈ L, e.i = i ∧ e.o = o
  uniq : ∀ e ∈ L, ∀ e' ∈ L, e.i = e'.i → e = e'
  mask : ∀ e ∈ L, ∀ j, Nat.testBit e.m j = true → ∃ d ∈ e.o.after.toList, Region.binds .any d = true ∧ (d.on = j ∨ ∃ e' ∈ L, e'.i = d.on ∧ Nat.testBit e'.m j = true)
theorem planL_ok {ops : List Oper} : ∀ (l : List Oper) (i : Nat) (bs : List Nat) (pre : List Ent), (∀ j, l[j]? = ops[i + j]?) → pre.length = i → bs = pre.map (·.m) → (∀ e ∈ pre, e.i < i) → (∀ (j : Nat) (e : Ent), pre[j]? = some e → e.i = j) →
    (∀ e ∈ planL l i bs, i ≤ e.i ∧ ops[e.i]? = some e.o) ∧ (∀ j o, i ≤ j → ops[j]? = some o → ∃ e ∈ planL l i bs, e.i = j ∧ e.o = o) ∧ (planL l i bs).Pairwise (fun a b => a.i < b.i) ∧
    ∀ e ∈ planL l i bs, ∀ j, Nat.testBit e.m j = true → ∃ d ∈ e.o.after.toList, Region.binds .any d = true ∧ (d.on = j ∨ ∃ e' ∈ pre ++ planL l i bs, e'.i = d.on ∧ Nat.testBit e'.m j = true)
  | [], i, bs, pre, hl, hp, hb, hlt, hix => by
    refine ⟨fun e he => (by cases he), fun j o hij ho => ?_, List.Pairwise.nil, fun e he => (by cases he)⟩
    have := hl (j - i)
    rw [show i + (j - i) = j by omega, ho] at this
    simp at this
  | o :: l, i, bs, pre, hl, hp, hb, hlt, hix => by
    have ho : ops[i]? = some o := by simpa using (hl 0).symm
    have hl' : ∀ j, l[j]? = ops[i + 1 + j]? := fun j => by
      have := hl (j + 1)
      rw [List.getElem?_cons_succ] at this
      rw [this]; congr 1; omega
    let e0 : Ent := ⟨i, o, befF bs o.after.toList 0⟩
    obtain ⟨h1, h2, h3, h4⟩ := planL_ok l (i + 1) (bs ++ [befF bs o.after.toList 0]) (pre ++ [e0]) hl' (by simp [hp]) (by simp [hb, e0]) (fun e he => by
      rcases List.mem_append.1 he with he | he
      · have := hlt e he; omega
      · simp at he; subst he; show i < i + 1; omega) (fun j e he => by
      rw [List.getElem?_append] at he
      split at he
      · exact hix j e he
      · rename_i hj
        have : j - pre.length = 0 := by
          rcases Nat.eq_zero_or_pos (j - pre.length) with h | h
          · exact h
          · rw [List.getElem?_eq_none (by simp; omega)] at he; cases he
        rw [this] at he
        simp at he
        subst he
        show i = j; omega)
    have hP : planL (o :: l) i bs = e0 :: planL l (i + 1) (bs ++ [befF bs o.after.toList 0]) := rfl
    rw [hP]
    refine ⟨fun e he => ?_, fun j o' hij ho' => ?_, ?_, fun e he j hj => ?_⟩
    · rcases List.mem_cons.1 he with rfl | he
      · exact ⟨Nat.le_refl _, ho⟩
      · have := h1 e he; exact ⟨by omega, this.2⟩
    · by_cases hj : j = i
      · subst hj
        rw [ho] at ho'; cases ho'
        exact ⟨e0, by simp, rfl, rfl⟩
      · obtain ⟨e, he, h5⟩ := h2 j o' (by omega) ho'
        exact ⟨e, by simp [he], h5⟩
    · exact .cons (fun e he => by have := (h1 e he).1; show i < e.i; omega) h3
    · rcases List.mem_cons.1 he with rfl | he
      · rcases befF_bit hj with hz | ⟨d, hd1, hd2, hd3⟩
        · simp at hz
        · refine ⟨d, hd1, hd2, hd3.imp id ?_⟩
          rintro ⟨x, hx, hx2⟩
          rw [hb, List.getElem?_map] at hx
          cases hq : pre[d.on]? with
          | none => rw [hq] at hx; cases hx
          | some e' =>
            rw [hq] at hx
            simp at hx
            exact ⟨e', List.mem_append.2 (.inl (List.mem_of_getElem? hq)), hix _ _ hq, by rw [hx]; exact hx2⟩
      · obtain ⟨d, hd1, hd2, hd3⟩ := h4 e he j hj
        refine ⟨d, hd1, hd2, hd3.imp id ?_⟩
        rintro ⟨e', he', h5⟩
        refine ⟨e', ?_, h5⟩
        simpa using he'
theorem pw_uniq : ∀ {l : List Ent} {e e' : Ent}, l.Pairwise (fun a b => a.i < b.i) → e ∈ l → e' ∈ l → e.i = e'.i → e = e'
  | [], _, _, _, h, _, _ => by cases h
  | a :: l, e, e', h, he, he', heq => by
    have h1 := (List.pairwise_cons.1 h).1
    have h2 := (List.pairwise_cons.1 h).2
    rcases List.mem_cons.1 he with q | q
    · rcases List.mem_cons.1 he' with q' | q'
      · rw [q, q']
      · have := h1 _ q'; rw [q] at heq; omega
    · rcases List.mem_cons.1 he' with q' | q'
      · have := h1 _ q; rw [q'] at heq; omega
      · exact pw_uniq h2 q q' heq
theorem planned (ops : List Oper) : Planned ops (planL ops 0 []) ∧ (planL ops 0 []).Pairwise (fun a b => a.i < b.i) := by
  obtain ⟨h1, h2, h3, h4⟩ := planL_ok (ops := ops) ops 0 [] [] (by simp) rfl rfl (fun e he => by cases he) (fun j e he => by simp at he)
  refine ⟨⟨fun e he => (h1 e he).2, fun i o ho => h2 i o (Nat.zero_le _) ho, fun e he e' he' heq => ?_, fun e he j hj => ?_⟩, h3⟩
  · exact pw_uniq h3 he he' heq
  · obtain ⟨d, hd1, hd2, hd3⟩ := h4 e he j hj
    exact ⟨d, hd1, hd2, by simpa using hd3⟩
/-- who is ahead is in each set that holds who one waits for -/
theorem Planned.closed {ops : List Oper} {L : List Ent} (hP : Planned ops L) (hback : ∀ e ∈ L, ∀ d ∈ e.o.after.toList, Region.binds .any d = true → d.on < e.i) {S : Nat → Prop} (hS : ∀ e ∈ L, S e.i → ∀ d ∈ e.o.after.toList, Region.binds .any d = true → S d.on) : ∀ (n : Nat) (e : Ent), e.i ≤ n → e ∈ L → (∀ d ∈ e.o.after.toList, Region.binds .any d = true → S d.on) → ∀ j, Nat.testBit e.m j = true → S j := by
  intro n
  induction n with
  | zero =>
    intro e hn he hd j hj
    obtain ⟨d, h1, h2, h3⟩ := hP.mask e he j hj
    have := hback e he d h1 h2; omega
  | succ n ih =>
    intro e hn he hd j hj
    obtain ⟨d, h1, h2, h3⟩ := hP.mask e he j hj
    rcases h3 with rfl | ⟨e', h4, h5, h6⟩
    · exact hd d h1 h2
    · have := hback e he d h1 h2
      exact ih e' (by omega) h4 (hS e' h4 (by rw [h5]; exact hd d h1 h2)) j h6
end Go.Cev
namespace Go.Cev
open Go.RowKit
/-! ### what is asked of a drawn region -/
theorem subA_ok {m d : Nat} (h : subA m d = true) {j : Nat} (hj : Nat.testBit m j = true) : Nat.testBit d j = true := by
  have h1 : Nat.land m d = m := Nat.eq_of_beq_eq_true h
  have h2 : Nat.testBit (m &&& d) j = true := by
    have : m &&& d = m := h1
    rw [this]; exact hj
  rw [Nat.testBit_and] at h2
  simp only [Bool.and_eq_true] at h2
  exact h2.2
theorem bit_or {d i j : Nat} : Nat.testBit (Nat.lor d (2 ^ i)) j = true ↔ Nat.testBit d j = true ∨ j = i := by
  have : Nat.lor d (2 ^ i) = d ||| 2 ^ i := rfl
  rw [this, Nat.testBit_or, Nat.testBit_two_pow]
  simp only [Bool.or_eq_true, decide_eq_true_eq]
  constructor <;> rintro (h | h) <;> first | exact .inl h | exact .inr h.symm
theorem memN_ok {t : Nat} : ∀ {l : List Nat}, t ∈ l → memN t l = true
  | [], h => by cases h
  | a :: l, h => by
    unfold memN
    rcases List.mem_cons.1 h with rfl | h
    · simp
    · simp [memN_ok h]
theorem tmpsO_ok {t : Tmp} : ∀ {l : List Operand}, Operand.tmp t ∈ l → t ∈ tmpsO l
  | [], h => by cases h
  | x :: l, h => by
    rcases List.mem_cons.1 h with rfl | h
    · simp [tmpsO]
    · have ih := tmpsO_ok h
      cases x with
      | tmp u => exact List.mem_cons_of_mem _ ih
      | const v => exact ih
      | global g => exact ih
      | func f => exact ih
theorem okEdges_ok {i : Nat} : ∀ {l : List Edge}, okEdges i l = true → ∀ d ∈ l, Region.binds .any d = true → d.on < i
  | [], _, d, hd, _ => by cases hd
  | e :: l, h, d, hd, hb => by
    simp only [okEdges, Bool.and_eq_true] at h
    rcases List.mem_cons.1 hd with rfl | hd
    · have := h.1; rw [hb] at this; simpa using this
    · exact okEdges_ok h.2 d hd hb
theorem okAll_ok {e : Ent} : ∀ {l : List Ent}, okAll e l = true → ∀ x ∈ l, okPair e x = true ∧ okPair x e = true
  | [], _, x, hx => by cases hx
  | a :: l, h, x, hx => by
    simp only [okAll, Bool.and_eq_true] at h
    rcases List.mem_cons.1 hx with rfl | hx
    · exact h.1
    · exact okAll_ok h.2 x hx
theorem okPlan_ok : ∀ {l : List Ent}, okPlan l = true → (∀ e ∈ l, okGuard e = true ∧ okEdges e.i e.o.after.toList = true) ∧ ∀ e ∈ l, ∀ e' ∈ l, e.i ≠ e'.i → okPair e e' = true
  | [], _ => ⟨fun e he => (by cases he), fun e he => (by cases he)⟩
  | a :: l, h => by
    simp only [okPlan, Bool.and_eq_true] at h
    obtain ⟨⟨⟨h1, h2⟩, h3⟩, h4⟩ := h
    obtain ⟨i1, i2⟩ := okPlan_ok h4
    refine ⟨fun e he => ?_, fun e he e' he' hne => ?_⟩
    · rcases List.mem_cons.1 he with rfl | he
      · exact ⟨h1, h2⟩
      · exact i1 e he
    · rcases List.mem_cons.1 he with q | q
      · rcases List.mem_cons.1 he' with q' | q'
        · exact absurd (by rw [q, q']) hne
        · rw [q]; exact (okAll_ok h3 e' q').1
      · rcases List.mem_cons.1 he' with q' | q'
        · rw [q']; exact (okAll_ok h3 e q).2
        · exact i2 e q e' q' hne
structure PlanOk (ops : List Oper) (L : List Ent) : Prop where
  pl : Planned ops L
  guard : ∀ e ∈ L, ∀ j want, e.o.guard = some (j, want) → Nat.testBit e.m j = true
  back : ∀ e ∈ L, ∀ d ∈ e.o.after.toList, Region.binds .any d = true → d.on < e.i
  dst : ∀ e ∈ L, ∀ e' ∈ L, e.i ≠ e'.i → ∀ t, e.o.dst = some t → e'.o.dst ≠ some t
  ord : ∀ e ∈ L, ∀ e' ∈ L, e.i ≠ e'.i → ∀ t, e.o.dst = some t → Operand.tmp t ∈ e'.o.op.operands → Nat.testBit e.m e'.i = true ∨ Nat.testBit e'.m e.i = true
theorem plan_ok {ops : List Oper} (h : okPlan (planL ops 0 []) = true) : PlanOk ops (planL ops 0 []) := by
  obtain ⟨h1, h2⟩ := okPlan_ok h
  refine ⟨(planned ops).1, fun e he j want hg => ?_, fun e he => okEdges_ok (h1 e he).2, fun e he e' he' hne t ht ht' => ?_, fun e he e' he' hne t ht hm => ?_⟩
  · have := (h1 e he).1
    unfold okGuard at this
    rw [hg] at this; exact this
  · have := h2 e he e' he' hne
    unfold okPair at this
    rw [ht, ht'] at this
    simp at this
  · have := h2 e he e' he' hne
    unfold okPair at this
    rw [ht] at this
    simp only [Bool.and_eq_true, Bool.or_eq_true] at this
    rcases this.2 with (h3 | h3) | h3
    · rw [memN_ok (tmpsO_ok (by simpa using hm))] at h3; cases h3
    · exact .inl h3
    · exact .inr h3
theorem PlanOk.lt {ops : List Oper} {L : List Ent} (h : PlanOk ops L) : ∀ (n : Nat) (e : Ent), e.i ≤ n → e ∈ L → ∀ j, Nat.testBit e.m j = true → j < e.i := by
  intro n
  induction n with
  | zero =>
    intro e hn he j hj
    obtain ⟨d, h1, h2, h3⟩ := h.pl.mask e he j hj
    have := h.back e he d h1 h2; omega
  | succ n ih =>
    intro e hn he j hj
    obtain ⟨d, h1, h2, h3⟩ := h.pl.mask e he j hj
    have hb := h.back e he d h1 h2
    rcases h3 with rfl | ⟨e', h4, h5, h6⟩
    · exact hb
    · have := ih e' (by omega) h4 j h6; omega
/-- the temporaries that an operation looks at -/
def Uses (ops : List Oper) (e : Ent) (t : Tmp) : Prop := Operand.tmp t ∈ e.o.op.operands ∨ ∃ j want oj, e.o.guard = some (j, want) ∧ ops[j]? = some oj ∧ oj.dst = some t
theorem PlanOk.both {ops : List Oper} {L : List Ent} (h : PlanOk ops L) {e e' : Ent} (he : e ∈ L) (he' : e' ∈ L) (hne : e'.i ≠ e.i) {t : Tmp} (hu : Uses ops e t) (ht : e'.o.dst = some t) : Nat.testBit e.m e'.i = true ∨ Nat.testBit e'.m e.i = true := by
  rcases hu with hu | ⟨j, want, oj, h1, h2, h3⟩
  · exact (h.ord e' he' e he hne t ht hu).symm
  · obtain ⟨ej, h4, h5, h6⟩ := h.pl.all j oj h2
    by_cases hj : e'.i = ej.i
    · left; rw [hj, h5]; exact h.guard e he j want h1
    · exact absurd (by rw [h6]; exact h3) (h.dst e' he' ej h4 hj t ht)
/-- temporaries as an operation finds them -/
def Snap (ops : List Oper) (L : List Ent) (rg0 : PT Value) (V : Nat → Option Value) (rg : PT Value) (e : Ent) : Prop := ∀ t, Uses ops e t →
  (∀ e' ∈ L, e'.o.dst = some t → Nat.testBit e.m e'.i = true → ∃ v, V e'.i = some v ∧ rg.get t = some v) ∧ ((∀ e' ∈ L, e'.o.dst = some t → Nat.testBit e.m e'.i = false) → rg.get t = rg0.get t)
theorem Snap.mono {ops : List Oper} {L : List Ent} {rg0 rg : PT Value} {V V' : Nat → Option Value} {e : Ent} (hV : ∀ i v, V i = some v → V' i = some v) (h : Snap ops L rg0 V rg e) : Snap ops L rg0 V' rg e := fun t ht =>
  ⟨fun e' he' h1 h2 => let ⟨v, h3, h4⟩ := (h t ht).1 e' he' h1 h2; ⟨v, hV _ _ h3, h4⟩, (h t ht).2⟩
structure Al where
  e : Ent
  rg : PT Value
  ao : AO
  ak : AK
  b : Nat
/-- the machine has done E, by names V is done -/
structure Inv (H : Nat) (w0 : World) (kn : Kn) (n : Nat) (ops : List Oper) (L : List Ent) (rg0 : PT Value) (ω0 : Om) (W0 : AW) (E : Nat → Prop) (V : Nat → Option Value) (ω : Om) (w : World) (a : Act) (rg : PT Value) (done : Nat) (xs : List Xe) (als : List Al) (W : AW) : Prop where
  wr : WR H w0 ω W w
  gr : Gr ω0 W0 ω W
  reg1 : ∀ e ∈ L, ∀ t v, e.o.dst = some t → V e.i = some v → rg.get t = some v
  reg0 : ∀ t, (∀ e ∈ L, e.o.dst = some t → V e.i = none) → rg.get t = rg0.get t
  bits : ∀ e ∈ L, Nat.testBit done e.i = true ↔ V e.i ≠ none
  closed : ∀ e ∈ L, V e.i ≠ none → ∀ j, Nat.testBit e.m j = true → Nat.testBit done j = true
  sub : ∀ e ∈ L, E e.i → V e.i ≠ none
  cl : ∀ e ∈ L, E e.i → ∀ j, Nat.testBit e.m j = true → E j
  mv : ∀ e ∈ L, isMv e.o = true → V e.i ≠ none → E e.i
  size : a.tmps.size = n
  mreg1 : ∀ e ∈ L, E e.i → ∀ t, e.o.dst = some t → ∃ v, V e.i = some v ∧ VR ω v (a.tmps.getD t undef)
  mreg0 : ∀ t, (∀ e ∈ L, e.o.dst = some t → ¬ E e.i) → VR ω ((rg0.get t).getD undef) (a.tmps.getD t undef)
  cov : ∀ e ∈ L, V e.i ≠ none → E e.i ∨ (∃ x ∈ xs, x.e = e) ∨ (∃ y ∈ als, y.e = e) ∨ ∃ rgx, Snap ops L rg0 V rgx e ∧ wantA ops e.o rgx = false ∧ V e.i = some undef
  st : ∀ x ∈ xs, x.e ∈ L ∧ Snap ops L rg0 V x.rg x.e ∧ wantA ops x.e.o x.rg = true ∧ V x.e.i = some x.v ∧ isSt x.e.o = true
  al : ∀ y ∈ als, y.e ∈ L ∧ Snap ops L rg0 V y.rg y.e ∧ wantA ops y.e.o y.rg = true ∧ alA kn.ty y.rg y.e.o = some (y.ao, y.ak) ∧ V y.e.i = some (y.ak.val y.b) ∧ W0.next ≤ y.b ∧ y.b < W.next ∧ (¬ E y.e.i → ω y.b = none ∧ W.heap.get y.b = some y.ao)
  dis : ∀ y ∈ als, ∀ z ∈ als, y.b = z.b → y.e.i = z.e.i
  lim : ∀ e ∈ L, V e.i ≠ none → ∀ t, e.o.dst = some t → t < n
def Look (kn : Kn) (E : Nat → Prop) (xs : List Xe) (W : AW) : Prop := ∀ x ∈ xs, ¬ E x.e.i → opA kn x.rg x.e.o W = some (.val x.v, W)
/-- one more is done by names -/
def Vp (V : Nat → Option Value) (i : Nat) (v : Value) : Nat → Option Value := fun j => if j = i then some v else V j
theorem Vp_at {V : Nat → Option Value} {i : Nat} {v : Value} : Vp V i v i = some v := if_pos rfl
theorem Vp_ne {V : Nat → Option Value} {i j : Nat} {v : Value} (h : j ≠ i) : Vp V i v j = V j := if_neg h
theorem Vp_le {V : Nat → Option Value} {i : Nat} {v : Value} (h : V i = none) (j : Nat) (u : Value) (hj : V j = some u) : Vp V i v j = some u := by
  rw [Vp_ne (fun e => by rw [e, h] at hj; cases hj)]; exact hj
theorem Vp_none {V : Nat → Option Value} {i j : Nat} {v : Value} (h : Vp V i v j ≠ none) : j = i ∨ V j ≠ none := by
  by_cases hj : j = i
  · exact .inl hj
  · rw [Vp_ne hj] at h; exact .inr h
section
variable {H : Nat} {w0 : World} {kn : Kn} {n : Nat} {ops : List Oper} {L : List Ent} {rg0 : PT Value} {ω0 : Om} {W0 : AW} {E : Nat → Prop} {V : Nat → Option Value} {ω : Om} {w : World} {a : Act} {rg : PT Value} {done : Nat} {xs : List Xe} {als : List Al} {W : AW}
theorem Inv.snap (hp : PlanOk ops L) (h : Inv H w0 kn n ops L rg0 ω0 W0 E V ω w a rg done xs als W) {e : Ent} (he : e ∈ L) (hV : V e.i = none) (hs : subA e.m done = true) : Snap ops L rg0 V rg e := fun t ht => by
  refine ⟨fun e' he' h1 h2 => ?_, fun hn => h.reg0 t fun e' he' h1 => ?_⟩
  · have := (h.bits e' he').1 (subA_ok hs h2)
    cases hv : V e'.i with
    | none => exact absurd hv this
    | some v => exact ⟨v, rfl, h.reg1 e' he' t v h1 hv⟩
  · by_cases hi : e'.i = e.i
    · rw [hi]; exact hV
    · rcases hp.both he he' hi ht h1 with h2 | h2
      · rw [hn e' he' h1] at h2; cases h2
      · cases hv : V e'.i with
        | none => rfl
        | some v =>
          have := (h.bits e he).1 (h.closed e' he' (by rw [hv]; exact fun e => by cases e) _ h2)
          exact absurd hV this
/-- what is found is what the machine finds -/
theorem Inv.found (hp : PlanOk ops L) (h : Inv H w0 kn n ops L rg0 ω0 W0 E V ω w a rg done xs als W) {e : Ent} (he : e ∈ L) (hE : ¬ E e.i) (hm : ∀ j, Nat.testBit e.m j = true → E j) {rgx : PT Value} (hs : Snap ops L rg0 V rgx e) {t : Tmp} (ht : Uses ops e t) : VR ω ((rgx.get t).getD undef) (a.tmps.getD t undef) := by
  by_cases hx : ∃ e' ∈ L, e'.o.dst = some t ∧ Nat.testBit e.m e'.i = true
  · obtain ⟨e', he', h1, h2⟩ := hx
    obtain ⟨v, h3, h4⟩ := (hs t ht).1 e' he' h1 h2
    obtain ⟨v', h5, h6⟩ := h.mreg1 e' he' (hm _ h2) t h1
    rw [h3] at h5; cases h5
    rw [h4]; exact h6
  · have hn : ∀ e' ∈ L, e'.o.dst = some t → Nat.testBit e.m e'.i = false := fun e' he' h1 => by
      cases hb : Nat.testBit e.m e'.i with
      | false => rfl
      | true => exact absurd ⟨e', he', h1, hb⟩ hx
    rw [(hs t ht).2 hn]
    refine h.mreg0 t fun e' he' h1 h2 => ?_
    by_cases hi : e'.i = e.i
    · rw [hi] at h2; exact hE h2
    · rcases hp.both he he' hi ht h1 with h3 | h3
      · rw [hn e' he' h1] at h3; cases h3
      · exact hE (h.cl e' he' h2 _ h3)
theorem Inv.opd (hp : PlanOk ops L) (h : Inv H w0 kn n ops L rg0 ω0 W0 E V ω w a rg done xs als W) {e : Ent} (he : e ∈ L) (hE : ¬ E e.i) (hm : ∀ j, Nat.testBit e.m j = true → E j) {rgx : PT Value} (hs : Snap ops L rg0 V rgx e) : OpdR ω rgx a.eval e.o.op.operands := fun x hx v hv => by
  cases x with
  | tmp t =>
    have := h.found hp he hE hm hs (t := t) (.inl hx)
    simp only [evO] at hv
    split at hv
    · rename_i u hu; cases hv; rw [hu] at this; exact this
    · rename_i hu; cases hv; rw [hu] at this; exact this
  | const u =>
    simp only [evO] at hv
    cases hc : cleanC u with
    | true => rw [hc] at hv; cases hv; exact cleanC_VR hc
    | false => rw [hc] at hv; cases hv
  | global g => cases hv
  | func f => cases hv; exact .func (fs := []) (cs := []) (fun l e => (by cases e)) .nil .nil
end
end Go.Cev
