/- Steps of a function body on data, and contracts of the functions of the seat, walked. -/
import Derived.Test.YtonchjamoblioaaGreatDoorKOb
import Derived.Recover
import Derived.Test.YtonchjamoblioaaGreatDoorP1
set_option linter.unusedSimpArgs false
set_option linter.unusedVariables false
set_option linter.unusedSectionVars false
namespace Go.Kin
open Go.RowKit
/-! ### deferred closures, recover -/
/-- a closure that waits for the end; what it captures stands in an activation that waits -/
def dfn (g : Nat) (ac : Act) : Deferred := { target := .fn (.func g) ac.tmps, args := #[] }
/-- the frame of a deferred call -/
def callD (g : Nat) : Frame := { (default : Frame) with fn := g, kind := .deferred, roundOf := none }
/-- an activation on its way out -/
def outF (b : Frame) (ao : Act) (k : List Item) (fm : FrameMode) : Frame := { b.atR ao k with mode := fm }
/-- it returns -/
def ExecR (R : Rn) (s : Sy) : Prop := ∀ a w k, Sat R.C s a w → ∃ m', R.T m' ∧ Steps R.P (lone (outF R.b a k .returning) R.cs w) m'
section
variable {P : Program} {b : Frame} {cs : List Frame} {T : Machine → Prop} {C : Ctx} {k : List Item} {s : Stt}
theorem Exec.retR (hro : b.roundOf = none) (hk : k = [] ∨ ∃ k', k = .code .ret :: k') (h : ExecR ⟨P, b, cs, T, C⟩ s.sy) : Exec ⟨P, b, cs, T, C⟩ k s.sy := fun a w hs => by
  obtain ⟨m', h1, h2⟩ := h a w k hs
  refine ⟨m', h1, ?_⟩
  rcases hk with rfl | ⟨k', rfl⟩
  · exact .head (stepR_end hro) h2
  · exact .head (stepR_ret hro) h2
theorem ExecR.norm {s' : Stt} (h : s = s') (hk : ExecR ⟨P, b, cs, T, C⟩ s'.sy) : ExecR ⟨P, b, cs, T, C⟩ s.sy := h ▸ hk
theorem ExecR.ren (π : Swp) (h : ExecR ⟨P, b, cs, T, C⟩ (renSt π s).sy) : ExecR ⟨P, b, cs, T, C⟩ s.sy := fun a w k ⟨E, hE⟩ => h a w k ⟨renE π E, hE.ren π⟩
theorem ExecR.done {te : TE} {I : World → Prop} {f : FuncId} {fn : Func} {res : D} (hR : FnRun ⟨P, b, cs, T, C⟩ I P f fn res) (hte : TEok P te) {rv : List ResultVar} (hrv : fn.results.toList = rv) (hdf : s.df = []) {ds : List D} (hr : resV te s rv = some ds) (he : LeD (resD ds) res) : ExecR ⟨P, b, cs, T, C⟩ s.sy := fun a w k hs => by
  subst hrv
  exact ⟨_, ret_T hR hte hdf hr he hs, Steps.refl _ _⟩
/-- a closure is put off -/
theorem Exec.deferOp {ops : Array Oper} {i : Nat} {rest : List Nat} {o : Oper} {f : Operand} {args : Array Operand} {ts : Array TypeId} {sv : SV} {g : Nat} {caps : List SV} (hro : b.roundOf = none)
    (ho : ops[i]? = some o) (hgd : o.guard = none) (hd : o.dst = none) (hop : o.op = .defer { callee := .value f, args := args, argTypes := ts }) (hargs : args.toList = []) (hf : evalL s.S f = some sv) (hc : fnCaps sv = some (g, caps))
    (h : ∀ ac : Act, ac.tmps.size = caps.length → Exec ⟨P, b, cs, T, C⟩ (.inRegion ops rest :: k) (Stt.mk s.N (dfn g ac :: s.df) s.S s.L s.O (s.fz ++ [(ac, slotsV 0 caps)]) s.pin).sy) : Exec ⟨P, b, cs, T, C⟩ (.inRegion ops (i :: rest) :: k) s.sy := by
  intro a w ⟨E, hE⟩
  have hgv : DenV E w sv (a.eval f) := evalO_den (s := s.sy) hE ((evalL_eq _ _).symm.trans hf)
  obtain ⟨us, e1, hus⟩ := fnCaps_den hc hgv
  have hlen := DenL_length hus
  have hw : Region.wanted o (yielded ops a.tmps) = true := by unfold Region.wanted; rw [hgd]
  have hg := stepGR_op (P := P) (b := b) (k := k) (cs := cs) (w := w) (a := a) (rest := rest) ho hw
  rw [hro, Oper.semAt_none] at hg
  have hargs' : args = #[] := Array.ext' hargs
  have hr : (execOp a.eval o).run P w = .ok (.defer (dfn g { tmps := us.toArray, defers := [] })) w := by
    simp [execOp, hop, resolve, e1, Deferred.ofValue, hargs', dfn]
  have hW : Waits E (s.fz ++ [({ tmps := us.toArray, defers := [] }, slotsV 0 caps)]) w := fun p hp => by
    simp only [List.mem_append, List.mem_singleton] at hp
    rcases hp with hp | rfl
    · exact hE.waits p hp
    · intro t sv' ht
      rw [look_slotsV] at ht
      simp only [Nat.zero_le, if_true, Nat.sub_zero] at ht
      obtain ⟨v, h3, h4⟩ := DenL_get hus ht
      exact ⟨v, by simpa using h3, h4⟩
  have hdf : a.defers = s.df := hE.df
  obtain ⟨m', h1, h2⟩ := h { tmps := us.toArray, defers := [] } (by simpa using hlen) { a with defers := dfn g { tmps := us.toArray, defers := [] } :: a.defers } w ⟨E, ⟨hE.sz, by simp only [Stt.sy]; rw [hdf], fun t sv' ht => hE.slots t sv' ht, hE.hp, hE.pins, hW⟩⟩
  refine ⟨m', h1, .head (step_lone_go ?_) h2⟩
  have hfin : ({ b.atR a (.inRegion ops (i :: rest) :: k) with defers := dfn g { tmps := us.toArray, defers := [] } :: a.defers } : Frame).finish undef = b.atR { a with defers := dfn g { tmps := us.toArray, defers := [] } :: a.defers } (.inRegion ops rest :: k) := by
    have := Frame.finish_atR b { a with defers := dfn g { tmps := us.toArray, defers := [] } :: a.defers } ops i rest k undef
    simp only [ho, Option.bind_some, hd, Act.put] at this
    exact this
  rw [hg]
  simp only [stepG.apply, Sem.runT_eq, hr, GStep.bare_after]
  exact congrArg (fun fr => GStep.go { frame := fr, callers := cs, status := .running, dying := none } w) hfin
theorem invoke_dfn {g : Nat} {fn : Func} {c : Code} (hfn : P.funcs[g]? = some fn) (hb : fn.body = some c) (hn : (fn.name == "runtime.NumGoroutine") = false) (ac : Act) (w : World) : (invoke (dfn g ac).target (dfn g ac).args).run P w = .ok (.enter g ac.tmps) w := by
  have hent : ∀ args w, (callFunc g args).run P w = .ok (.enter g args) w := fun args w => Enters.run ⟨fn, hfn, by simp [hb], hn⟩ args w
  simp [dfn, invoke, hent]
theorem enter_dfn {g : Nat} {fn : Func} {c : Code} (hfn : P.funcs[g]? = some fn) (hb : fn.body = some c) (args : Array Value) : Frame.enter P g args .deferred = (callD g).atR { tmps := args ++ Array.replicate (fn.ntmps - args.size) undef, defers := [] } [.code c] := by
  simp [Frame.enter, Frame.atR, hfn, hb, callD]
/-- the slots of the closure, when it is entered -/
theorem SatE.dfn_slots {E : Env} {a : Act} {w : World} (hE : SatE C E s.sy a w) {ac : Act} {Sc : List (Nat × SV)} (hmem : (ac, Sc) ∈ s.fz) {t : Nat} {sv : SV} (ht : klook t Sc = some sv) (m : Nat) : ∃ v, (ac.tmps ++ Array.replicate m undef)[t]? = some v ∧ DenV E w sv v := by
  obtain ⟨v, h1, h2⟩ := hE.waits (ac, Sc) hmem t sv ht
  have hlt : t < ac.tmps.size := (Array.getElem?_eq_some_iff.1 h1).1
  exact ⟨v, by rw [Array.getElem?_append_left hlt]; exact h1, h2⟩
/-- a closure runs, on the way out with a panic -/
theorem ExecP.defer {d : D} {g : Nat} {fn : Func} {c : Code} {ac : Act} {Sc : List (Nat × SV)} {ds : List Deferred} {n N : Nat} (hdf : s.df = dfn g ac :: ds) (hac : ac.tmps.size = n) (hmem : (ac, Sc) ∈ s.fz) (hfn : P.funcs[g]? = some fn) (hN : fn.ntmps = N) (hb : fn.body = some c) (hn : (fn.name == "runtime.NumGoroutine") = false) (hle : n ≤ N)
    (h : ∀ (ao av : Act) (k0 : List Item) (v : Value), ao.tmps.size = s.N → ao.defers = ds → av.tmps[0]? = some v →
      Exec ⟨P, callD g, outF b ao k0 (.panicking [{ v, recovered := false }]) :: cs, T, C⟩ [.code c] (Stt.mk N [] Sc s.L s.O ((ao, s.S) :: (av, [(0, .d d)]) :: s.fz) s.pin).sy) : ExecP ⟨P, b, cs, T, C⟩ d s.sy := by
  subst hN
  intro a w k v ⟨E, hE, hv⟩
  have hst := step_defer (P := P) (fr := { b.atR a k with mode := .panicking [{ v, recovered := false }] }) (cs := cs) (w := w) (d := dfn g ac) (ds := ds) (by simp) (hE.df.trans hdf) rfl (invoke_dfn hfn hb hn ac w)
  rw [enter_dfn hfn hb] at hst
  refine (?_ : ∃ m', T m' ∧ Steps P _ m').imp fun m' hm => ⟨hm.1, .head hst hm.2⟩
  refine h { a with defers := ds } { tmps := #[v], defers := [] } k v hE.sz rfl rfl _ _ ⟨E, ⟨?_, rfl, fun t sv ht => hE.dfn_slots hmem ht _, hE.hp, hE.pins, fun p hp => ?_⟩⟩
  · simp only [Stt.sy, Array.size_append, Array.size_replicate]; omega
  · simp only [Stt.sy, List.mem_cons] at hp
    rcases hp with rfl | rfl | hp
    · exact hE.slots
    · intro t sv' ht
      simp only [klook] at ht
      split at ht
      · rename_i e; subst e; cases ht; exact ⟨v, rfl, by simpa only [DenV] using hv⟩
      · cases ht
    · exact hE.waits p hp
/-- a closure runs, on the way out with a result -/
theorem ExecR.defer {g : Nat} {fn : Func} {c : Code} {ac : Act} {Sc : List (Nat × SV)} {ds : List Deferred} {n N : Nat} (hdf : s.df = dfn g ac :: ds) (hac : ac.tmps.size = n) (hmem : (ac, Sc) ∈ s.fz) (hfn : P.funcs[g]? = some fn) (hN : fn.ntmps = N) (hb : fn.body = some c) (hn : (fn.name == "runtime.NumGoroutine") = false) (hle : n ≤ N)
    (h : ∀ (ao : Act) (k0 : List Item), ao.tmps.size = s.N → ao.defers = ds →
      Exec ⟨P, callD g, outF b ao k0 .returning :: cs, T, C⟩ [.code c] (Stt.mk N [] Sc s.L s.O ((ao, s.S) :: s.fz) s.pin).sy) : ExecR ⟨P, b, cs, T, C⟩ s.sy := by
  subst hN
  intro a w k ⟨E, hE⟩
  have hst := step_defer (P := P) (fr := outF b a k .returning) (cs := cs) (w := w) (d := dfn g ac) (ds := ds) (by simp [outF]) (hE.df.trans hdf) rfl (invoke_dfn hfn hb hn ac w)
  rw [enter_dfn hfn hb] at hst
  refine (?_ : ∃ m', T m' ∧ Steps P _ m').imp fun m' hm => ⟨hm.1, .head hst hm.2⟩
  refine h { a with defers := ds } k hE.sz rfl _ _ ⟨E, ⟨?_, rfl, fun t sv ht => hE.dfn_slots hmem ht _, hE.hp, hE.pins, fun p hp => ?_⟩⟩
  · simp only [Stt.sy, Array.size_append, Array.size_replicate]; omega
  · simp only [Stt.sy, List.mem_cons] at hp
    rcases hp with rfl | hp
    · exact hE.slots
    · exact hE.waits p hp
/-- recover, in a deferred closure: a panic is caught -/
theorem Exec.recover {g : Nat} {ao av : Act} {Sv : List (Nat × SV)} {k0 : List Item} {v : Value} {d : D} {ops : Array Oper} {i : Nat} {rest : List Nat} {o : Oper} {ts : Array TypeId} {t : Nat}
    (ho : ops[i]? = some o) (hgd : o.guard = none) (hd : o.dst = some t) (htN : t < s.N) (hop : o.op = .call { callee := .builtin .recover, args := #[], argTypes := ts }) (hmem : (av, Sv) ∈ s.fz) (hv0 : klook 0 Sv = some (.d d)) (hav : av.tmps[0]? = some v)
    (h : Exec ⟨P, callD g, outF b ao k0 (.panicking [{ v, recovered := true }]) :: cs, T, C⟩ (.inRegion ops rest :: k) (applyL (some t) ⟨.d d, [], [], [], []⟩ s).sy) :
    Exec ⟨P, callD g, outF b ao k0 (.panicking [{ v, recovered := false }]) :: cs, T, C⟩ (.inRegion ops (i :: rest) :: k) s.sy := by
  intro a w ⟨E, hE⟩
  have hw : Region.wanted o (yielded ops a.tmps) = true := by unfold Region.wanted; rw [hgd]
  have hg := stepGR_op (P := P) (b := callD g) (k := k) (cs := outF b ao k0 (.panicking [{ v, recovered := false }]) :: cs) (w := w) (a := a) (rest := rest) ho hw
  rw [Oper.semAt_eq _ _ _ (by simp [hop])] at hg
  have hr : (execOp a.eval o).run P w = .ok .recover w := by
    simp [execOp, hop, resolve, invoke, builtin]
  have htr := tryRecover_deferred (fr := (callD g).atR a (.inRegion ops (i :: rest) :: k)) rfl (outF b ao k0 (.panicking [{ v, recovered := false }]) :: cs)
  have hrec : recoverD (outF b ao k0 (.panicking [{ v, recovered := false }]) :: cs) = some (v, outF b ao k0 (.panicking [{ v, recovered := true }]) :: cs) := rfl
  have hfin : ((callD g).atR a (.inRegion ops (i :: rest) :: k)).finish v = (callD g).atR (a.put o.dst v) (.inRegion ops rest :: k) := by
    rw [Frame.finish_atR, ho]; rfl
  obtain ⟨v', h3, h4⟩ := hE.waits (av, Sv) hmem 0 _ hv0
  rw [hav] at h3; cases h3
  obtain ⟨m', h5, h6⟩ := h (a.put o.dst v) w ⟨E, by rw [applyL_sy, ← hd]; exact hE.slot (fun t' e => by rw [hd] at e; cases e; exact htN) (by simpa only [DenV] using h4)⟩
  refine ⟨m', h5, .head (step_lone_go ?_) h6⟩
  rw [hg, ← hfin]
  have hro : (callD g).roundOf = none := rfl
  simp only [Frame.atR, hro] at htr ⊢
  simp only [stepG.apply, Sem.runT_eq, hr, htr, hrec, GStep.bare_after]
  rfl
/-- recover, where nothing panics -/
theorem Exec.recoverNo {g : Nat} {ao : Act} {k0 : List Item} {ops : Array Oper} {i : Nat} {rest : List Nat} {o : Oper} {ts : Array TypeId} {t : Nat}
    (ho : ops[i]? = some o) (hgd : o.guard = none) (hd : o.dst = some t) (htN : t < s.N) (hop : o.op = .call { callee := .builtin .recover, args := #[], argTypes := ts })
    (h : Exec ⟨P, callD g, outF b ao k0 .returning :: cs, T, C⟩ (.inRegion ops rest :: k) (applyL (some t) ⟨.d (.v .nilIface), [], [], [], []⟩ s).sy) :
    Exec ⟨P, callD g, outF b ao k0 .returning :: cs, T, C⟩ (.inRegion ops (i :: rest) :: k) s.sy := by
  intro a w ⟨E, hE⟩
  have hw : Region.wanted o (yielded ops a.tmps) = true := by unfold Region.wanted; rw [hgd]
  have hg := stepGR_op (P := P) (b := callD g) (k := k) (cs := outF b ao k0 .returning :: cs) (w := w) (a := a) (rest := rest) ho hw
  rw [Oper.semAt_eq _ _ _ (by simp [hop])] at hg
  have hr : (execOp a.eval o).run P w = .ok .recover w := by
    simp [execOp, hop, resolve, invoke, builtin]
  have htr := tryRecover_deferred (fr := (callD g).atR a (.inRegion ops (i :: rest) :: k)) rfl (outF b ao k0 .returning :: cs)
  have hrec : recoverD (outF b ao k0 .returning :: cs) = none := rfl
  have hfin : ((callD g).atR a (.inRegion ops (i :: rest) :: k)).finish .nilIface = (callD g).atR (a.put o.dst .nilIface) (.inRegion ops rest :: k) := by
    rw [Frame.finish_atR, ho]; rfl
  obtain ⟨m', h5, h6⟩ := h (a.put o.dst .nilIface) w ⟨E, by rw [applyL_sy, ← hd]; exact hE.slot (fun t' e => by rw [hd] at e; cases e; exact htN) (by simp [DenV, RdV])⟩
  refine ⟨m', h5, .head (step_lone_go ?_) h6⟩
  rw [hg, ← hfin]
  have hro : (callD g).roundOf = none := rfl
  simp only [Frame.atR, hro] at htr ⊢
  simp only [stepG.apply, Sem.runT_eq, hr, htr, hrec, GStep.bare_after]
  rfl
/-- the closure is done; the panic, if there was one, is over -/
theorem Exec.leaveD {g : Nat} {fn : Func} {ao : Act} {So : List (Nat × SV)} {fz : List (Act × List (Nat × SV))} {k0 : List Item} {fm : FrameMode} {N0 : Nat} {ds : List Deferred} (hfn : P.funcs[g]? = some fn) (hres : fn.results.toList = []) (hk : k = [] ∨ ∃ k', k = .code .ret :: k') (hdf : s.df = []) (hfz : s.fz = (ao, So) :: fz) (hao : ao.tmps.size = N0) (haod : ao.defers = ds) (hfm : settle fm = .returning)
    (h : ExecR ⟨P, b, cs, T, C⟩ (Stt.mk N0 ds So s.L s.O fz s.pin).sy) : Exec ⟨P, callD g, outF b ao k0 fm :: cs, T, C⟩ k s.sy := by
  intro a w ⟨E, hE⟩
  have s1 : step P (lone ((callD g).atR a k) (outF b ao k0 fm :: cs) w) = .next (lone { (callD g).atR a k with mode := .returning } (outF b ao k0 fm :: cs) w) := by
    rcases hk with rfl | ⟨k1, rfl⟩
    · exact stepR_end rfl
    · exact stepR_ret rfl
  have hgo : Frame.going P { (callD g).atR a k with mode := .returning } w (.returned (.tuple #[])) := by
    refine ⟨rfl, hE.df.trans hdf, fn, hfn, ?_⟩
    have hm : (fn.results.mapM (rvSem a.tmps)).run P w = .ok #[] w := by
      rw [Array.mapM_eq_mapM_toList, hres]; simp
    show (results fn a.tmps).run P w = _
    rw [results_eq]
    simp only [Sem.run_bind, hm, Result.andThen_ok]
    rfl
  have s2 := step_going_returned (P := P) (c := outF b ao k0 fm) (cs := cs) (fr := { (callD g).atR a k with mode := .returning }) rfl hgo
  have e2 : ({ outF b ao k0 fm with mode := settle (outF b ao k0 fm).mode } : Frame) = outF b ao k0 .returning := by
    simp only [outF, hfm]
  rw [e2] at s2
  obtain ⟨m', h1, h2⟩ := h ao w k0 ⟨E, ⟨hao, haod, fun t sv ht => hE.waits (ao, So) (by simp only [Stt.sy, hfz]; exact List.mem_cons_self) t sv ht, hE.hp, hE.pins, fun p hp => hE.waits p (by simp only [Stt.sy, hfz]; exact List.mem_cons_of_mem _ hp)⟩⟩
  exact ⟨m', h1, .head s1 (.head s2 h2)⟩
end
end Go.Kin
namespace Go.Kin
open Go.RowKit
/-! ### is a value of an interface of a type? -/
theorem ok_assert {P : Program} {C : Ctx} {o : Oper} {s : Sy} {t xt : TypeId} {x : Operand} {d : D} {i : TyI} (ho : o.op = .typeAssert x xt t true) (ht : ∀ t, o.dst = some t → t < s.N) (hx : evalO s.S x = some (.d (.ifc t d))) (hi : TyOk P t i) (hu : ∀ m, i.u ≠ .interface m) : Ok1 P C o s ⟨.d (.tup [d, .v (.bool true)]), [], [], [], []⟩ := by
  refine ok_val (by simp [ho]) ht fun s' E a w hext hE => ?_
  have h := hext.ev hE (x := x) (by simp [ho, Op.operands]) hx
  simp only [DenV, RdV] at h
  obtain ⟨v, e, hv⟩ := h
  refine ⟨.tuple #[v, .bool true], ?_, by simp only [DenV, RdV, RdL]; exact ⟨[v, .bool true], rfl, v, [.bool true], rfl, hv, .bool true, [], rfl, rfl, rfl⟩⟩
  have hun := hi.under (w := w)
  cases hk : i.u with
  | interface m => exact absurd hk (hu m)
  | _ => rw [hk] at hun; simp [execOp, ho, Instr.typeAssert, hun, e]
theorem kassert {P : Program} {C : Ctx} {te : TE} (hte : TEok P te) {ops : Array Oper} {q : Nat} {ds : List (Option Tmp)} {o : Oper} {r : List Oper} {st : Stt} {Q : Sy → Prop} (hg : o.guard = none) (hd : dstOk o st.N = true) {t xt : TypeId} {x : Operand} {d : D} {i : TyI}
    (ho : o.op = .typeAssert x xt t true) (hx : evalL st.S x = some (.d (.ifc t d))) (hi : klook t te = some i) (hu : ∀ m, i.u ≠ .interface m) (h : runL P C te ops (q + 1) (o.dst :: ds) r (applyL o.dst ⟨.d (.tup [d, .v (.bool true)]), [], [], [], []⟩ st) Q) : WalkI P C ops q ds (o :: r) st.sy Q :=
  walkI_step (fun _ _ => ok2_run (ok_assert ho (dstOk_spec hd) ((evalL_eq _ _).symm.trans hx) (hte _ _ hi) hu) (by simp [wantS, hg])) (runL_walk hte h)
/-! ### a slice of the function's own, its rows written otherwise -/
theorem Exec.rowTo {R : Rn} {k : List Item} {s : Stt} (key : Nat) {ow : Ow} (ow' : Ow) (hO : klook key s.O = some ow) (hle : LeOw ow ow') (h : Exec R k (Stt.mk s.N s.df s.S s.L ((key, ow') :: delK key s.O) s.fz s.pin).sy) : Exec R k s.sy := fun a w ⟨E, hE⟩ => by
  have hOO : ∀ key' e, klook key' ((key, ow') :: delK key s.O) = some e → ∃ e', klook key' s.O = some e' ∧ LeOw e' e := fun key' e he => by
    simp only [klook] at he
    by_cases hk : key' = key
    · subst hk; simp at he; subst he; exact ⟨ow, hO, hle⟩
    · rw [if_neg hk, look_delK, if_neg hk] at he
      exact ⟨e, he, rfl, rfl, rfl, .inl rfl, fun _ _ => rfl⟩
  refine h a w ⟨E, hE.sz, hE.df, hE.slots, ⟨hE.hp.bel, hE.hp.z, hE.hp.loc, hE.hp.locN, hE.hp.locD, fun key' e hk => ?_, fun key' e g hk hg => ?_, fun key1 key2 e e' g hk hk' hg hg' => ?_⟩, fun b o hb => ?_, hE.waits⟩
  · obtain ⟨e', h1, h2⟩ := hOO _ _ hk
    exact (hE.hp.own key' e' h1).le h2
  · obtain ⟨e', h1, _⟩ := hOO _ _ hk
    exact hE.hp.ownN key' e' g h1 hg
  · obtain ⟨e1, h1, _⟩ := hOO _ _ hk
    obtain ⟨e2, h2, _⟩ := hOO _ _ hk'
    exact hE.hp.ownD key1 key2 e1 e2 g h1 h2 hg hg'
  · obtain ⟨p1, p2, p3, p4, p5⟩ := hE.pins b o hb
    exact ⟨p1, p2, p3, p4, fun key' e he => let ⟨e', h1, _⟩ := hOO _ _ he; p5 key' e' h1⟩
theorem FnM.weak {I I' : World → Prop} {P : Program} {f : FuncId} {T : TypeId} {cs : List D} {args : List SV} {o : Out} (h : FnM I P f T cs args o) (hi : ∀ w, I' w → I w) : FnM I' P f T cs args o :=
  ⟨h.1, fun w Z b us vs h1 h2 h3 h4 h5 h6 => h.2 w Z b us vs (hi w h1) (fun w' ha => hi _ (h2 w' ha)) h3 h4 h5 h6⟩
/-! ### a call of a function that lends a box and leaves it as it is, under a guard -/
def unl : List (Nat × SV) → List (Nat × SV)
  | [] => []
  | (t, sv) :: r => (t, unop sv) :: unl r
section
variable {I : World → Prop} {P : Program} {C : Ctx} {o : Oper}
end
end Go.Kin
namespace Go.Proofs.YtonchjamoblioaaGreatDoor
open Go.Kin
set_option maxRecDepth 100000
set_option maxHeartbeats 0
/-! ### what stands between separators; expressions -/
section
variable {α : Type} {l : List Tk} {rd : PS → PR α} {w : List UInt8}
theorem sep_end {f : Nat} {s s1 : PS} {x : α} {acc : List α} (hf : 0 < f) (hr : rd s = .ok s1 x) (hi : isP l w s1 = false) : sepP l rd w f s acc = .ok s1 (acc ++ [x]) := by
 obtain ⟨g, rfl⟩ : ∃ g, f = g + 1 := ⟨f - 1, by omega⟩
 simp only [sepP, hr, PR.bind, hi]; rfl
theorem sep_on {f : Nat} {s s1 : PS} {x : α} {acc : List α} (hf : 0 < f) (hr : rd s = .ok s1 x) (hi : isP l w s1 = true) : sepP l rd w f s acc = sepP l rd w (f - 1) s1.adv (acc ++ [x]) := by
 obtain ⟨g, rfl⟩ : ∃ g, f = g + 1 := ⟨f - 1, by omega⟩
 simp only [sepP, hr, PR.bind, hi, if_true, Nat.add_sub_cancel]
theorem sep_err {f : Nat} {s : PS} {a : Int} {acc : List α} (hf : 0 < f) (hr : rd s = .err a) : sepP l rd w f s acc = .err a := by
 obtain ⟨g, rfl⟩ : ∃ g, f = g + 1 := ⟨f - 1, by omega⟩
 simp only [sepP, hr, PR.bind]
end
/-- a rule for an expression: it goes on, and reads no more parts than tokens -/
def AdvX (l : List Tk) (s : PS) (r : PR Ex) : Prop := ∀ s1 x, r = .ok s1 x → (s.n < s1.n ∧ s1.n < l.length) ∧ x.size + s.n ≤ s1.n
theorem AdvX.adv {l : List Tk} {s : PS} {r : PR Ex} (h : AdvX l s r) : AdvP l s r := fun s1 x e => (h s1 x e).1
theorem sep_x {l : List Tk} {rd : PS → PR Ex} {w : List UInt8} (hk : TkOk l) {n0 : Nat} (hr : ∀ s : PS, n0 ≤ s.n → s.n < l.length → AdvX l s (rd s)) : ∀ (f : Nat) (s : PS) (acc : List Ex), n0 ≤ s.n → s.n < l.length → ∀ s1 xs, sepP l rd w f s acc = .ok s1 xs →
  (s.n < s1.n ∧ s1.n < l.length) ∧ acc.length < xs.length ∧ Ex.sizes xs + s.n + xs.length ≤ Ex.sizes acc + s1.n + acc.length + 1
 | 0, s, acc, _, _, s1, xs, h => by cases h
 | f + 1, s, acc, h0, hn, s1, xs, h => by
  obtain ⟨s2, x, h1, h⟩ := bind_ok h
  have a1 := hr s h0 hn _ _ h1
  split at h
  ·rename_i hp
   have a2 := is_adv hk a1.1.2 hp
   have a3 := sep_x hk hr f s2.adv _ (by simp [PS.adv]; omega) a2 s1 xs h
   simp [PS.adv, Ex.sizes_app, Ex.sizes] at a3; omega
  ·cases h; simp [Ex.sizes_app, Ex.sizes]; omega
theorem one_size {k : Int} {xs : List Ex} (h : 0 < xs.length) : (oneEx k xs).size + 1 ≤ Ex.sizes xs + xs.length := by
 unfold oneEx
 split
 ·rename_i h1
  have : xs = [nth xs 0] := by
   cases xs with
   | nil => simp at h
   | cons a r => cases r with
    | nil => rfl
    | cons b r => simp at h1
  rw [this]; simp [Ex.sizes, nth]
 ·rw [Ex.size_eq]; simp [Ex.kids]; omega
theorem join_adv {l : List Tk} {rd : PS → PR Ex} {w : List UInt8} {k : Int} (hk : TkOk l) {s : PS} (hn : s.n < l.length) (hr : ∀ s' : PS, s.n ≤ s'.n → s'.n < l.length → AdvX l s' (rd s')) : AdvX l s (joinP l rd w k s) := by
 intro s1 x h
 obtain ⟨s2, xs, h1, h⟩ := bind_ok h
 cases h
 have := sep_x hk hr _ s [] (Nat.le_refl _) hn _ _ h1
 have h2 := one_size (k := k) (xs := xs) (by simp at this; omega)
 simp [Ex.sizes] at this
 exact ⟨this.1, by omega⟩
theorem row_adv {l : List Tk} {it : PS → PR Ex} (hk : TkOk l) {s : PS} (hn : s.n < l.length) (hr : ∀ s' : PS, s.n ≤ s'.n → s'.n < l.length → AdvX l s' (it s')) : AdvX l s (rowP l it s) := join_adv hk hn hr
theorem expr_adv {l : List Tk} {it : PS → PR Ex} (hk : TkOk l) {s : PS} (hn : s.n < l.length) (hr : ∀ s' : PS, s.n ≤ s'.n → s'.n < l.length → AdvX l s' (it s')) : AdvX l s (exprP l it s) :=
 join_adv hk hn fun s' h h' => row_adv hk h' fun s'' h2 h2' => hr s'' (by omega) h2'
theorem sign_adv {l : List Tk} (hk : TkOk l) : ∀ (f : Nat) (s : PS) (x : Ex), s.n < l.length → ∀ s1 y, signP l f s x = .ok s1 y → s.n ≤ s1.n ∧ s1.n < l.length ∧ y.size + s.n ≤ x.size + s1.n
 | 0, s, x, hn, s1, y, h => by cases h; exact ⟨Nat.le_refl _, hn, Nat.le_refl _⟩
 | f + 1, s, x, hn, s1, y, h => by
  have go : ∀ (w : List UInt8) (k : Int), isP l w s = true → signP l f s.adv (.mk k [] [x]) = .ok s1 y → s.n ≤ s1.n ∧ s1.n < l.length ∧ y.size + s.n ≤ x.size + s1.n := fun w k hp h => by
   have := sign_adv hk f s.adv _ (is_adv hk hn hp) s1 y h
   simp [PS.adv, Ex.size_eq (.mk k [] [x]), Ex.kids, Ex.sizes] at this; omega
  unfold signP at h
  split at h
  ·rename_i hp; exact go _ _ hp h
  ·split at h
   ·rename_i hp; exact go _ _ hp h
   ·split at h
    ·rename_i hp; exact go _ _ hp h
    ·cases h; exact ⟨Nat.le_refl _, hn, Nat.le_refl _⟩
theorem item_adv {l : List Tk} (hk : TkOk l) : ∀ (f : Nat) (s : PS), s.n < l.length → AdvX l s (itemP l f s)
 | 0, s, _ => fun s1 x h => by cases h
 | f + 1, s, hn => fun s1 x h => by
  unfold itemP at h
  split at h
  ·rename_i hp
   have a0 := is_adv hk hn hp
   obtain ⟨s2, y, h1, h⟩ := bind_ok h
   obtain ⟨s3, _, h2, h⟩ := bind_ok h
   have a1 := expr_adv hk (s := s.adv) a0 (fun s' _ h' => item_adv hk f s' h') _ _ h1
   have a2 := must_adv hk a1.1.2 _ _ h2
   have a3 := sign_adv hk _ s3 y a2.2 _ _ h
   simp [PS.adv] at a1
   exact ⟨by omega, by omega⟩
  ·obtain ⟨s2, w, h1, h⟩ := bind_ok h
   have a1 := name_adv hk hn _ _ h1
   have a3 := sign_adv hk _ s2 _ a1.2 _ _ h
   rw [Ex.size_eq (.mk 1 w [])] at a3
   simp [Ex.kids, Ex.sizes] at a3
   exact ⟨by omega, by omega⟩
theorem exP_adv {l : List Tk} (hk : TkOk l) {s : PS} (hn : s.n < l.length) : AdvX l s (exP l s) := expr_adv hk hn fun s' _ h' => item_adv hk _ s' h'
theorem whole_adv {l : List Tk} (hk : TkOk l) {s : PS} (hn : s.n < l.length) : AdvX l s (wholeP l s) := by
 intro s1 x h
 obtain ⟨s2, y, h1, h⟩ := bind_ok h
 cases h
 have := exP_adv hk hn _ _ h1
 rw [limS_n]; exact this
theorem wl (n : Nat) (h : n ≤ 1099511627776) : IntKind.i64.wrap ((n : Int) + 1) = ((n + 1 : Nat) : Int) := by rw [wrap_id (by constructor <;> omega)]; simp
theorem kdR_put (acc : List Ex) (x : Ex) (r : List D) (i : Nat) (h : i < (acc ++ [x]).length) : setR acc.length ((((catR acc.length (kdR acc) (lstR [[D.v (.int .i64 0), sv [], D.v (.slice none 0 0)]]) acc.length).set 0 (.v (.int .i64 x.k))).set 1 (.v (.string (mkS x.s)))).set 2 (kdX x)) (catR acc.length (kdR acc) (lstR [r])) i = kdR (acc ++ [x]) i := by
 rw [kdR_at h]
 unfold setR
 by_cases h2 : i = acc.length
 ·subst h2
  rw [if_pos rfl, nth_of (a := x) (by simp)]
  simp [catR, lstR, exC]
 ·have h1 : i < acc.length := by simp at h; omega
  rw [if_neg h2]
  unfold catR
  rw [if_pos h1, kdR_at h1]; congr 1; simp [nth, List.getD_eq_getElem?_getD, List.getElem?_append_left h1]
theorem pjoined_ok (l : List Tk) (n : Nat) (m : Int) (hk : TkOk l) (hn : n < l.length) (w : List UInt8) (k : Int) (g : Nat) (rd : PS → PR Ex) (hrd : ∀ (i : Nat) (q : Int), n ≤ i → i < l.length → FnM Laid Tryz.prog g 157 [tksD l, iv i, iv q] [.lp 900 0] (outP 152 l exD (rd ⟨i, q⟩))) (hadv : ∀ s : PS, n ≤ s.n → s.n < l.length → AdvX l s (rd s)) : FnM Laid Tryz.prog 170 157 [tksD l, iv n, iv m] [.lp 900 0, .d (sv w), .d (iv k), .mv g [.lp 900 0]] (outP 152 l exD (joinP l rd w k ⟨n, m⟩)) := by
 refine FnM_of Tryz.func170 Tryz.ntmps170 rfl (by as_aux_lemma => kernel_rfl) (Nat.le_of_ble_eq_true rfl) (fun R b0 hR => ?_)
 obtain ⟨_, b, cs, T, C⟩ := R
 obtain rfl : _ = Tryz.prog := hR.p
 refine sreg te_ok ?_
 refine sreg te_ok ?_
 refine sq ?_
 refine sq ?_
 refine Exec.regStart 3 rfl ?_
 apply Exec.regPart 0 2 1 te_ok rfl
 ·intro u' Q hQ
  simp only [go_sem]
  repeat refine ob2 ?_
  exact hQ
 refine Exec.enter (m := 0) rfl rfl rfl rfl rfl rfl Tryz.func126 Tryz.ntmps126 rfl (by as_aux_lemma => kernel_rfl) (Nat.le_of_ble_eq_true rfl) (fun ai0 hai0 hdi0 => ?_)
 refine Exec.ren (swJ 5) ?_
 apply Exec.norm
 ·simp only [go_sem]
  rfl
 refine sreg te_ok ?_
 refine sreg te_ok ?_
 refine Exec.leave te_ok Tryz.func126 rfl rfl rfl (.inr ⟨_, rfl⟩) rfl rfl hai0 hdi0 rfl rfl ?_
 refine Exec.ren (swJ 5) ?_
 apply Exec.norm
 ·simp only [go_sem]
  rfl
 refine Exec.regEnd ?_
 refine Exec.block ?_
 refine Exec.range 1 hR.round hR.bfn rfl rfl Tryz.func166 Tryz.ntmps166 rfl (by as_aux_lemma => kernel_rfl) (Nat.le_of_ble_eq_true rfl) (fun a0 l0 r0 lo0 hlo0 hN0 hD0 hfr0 hfl0 => ?_)
 apply Exec.norm
 ·simp only [go_sem]
  rfl
 refine sreg te_ok ?_
 refine Exec.block ?_
 refine Exec.ownNilL 1009 0 1500 30 3 rfl rfl rfl ?_
 apply Exec.norm
 ·simp only [go_sem]
  rfl
 apply Exec.loopU [0, 1, 2] (X := Nat × Int × List Ex) (fun ⟨i, q, acc⟩ => [(4, .d (iv acc.length))]) (fun ⟨i, q, acc⟩ => [(1009, 28, [.own 1500]), (1900, 157, [.d (tksD l), .d (iv i), .d (iv q)])]) (fun ⟨i, q, acc⟩ => [(1500, ⟨30, 3, acc.length, acc.length, kdR acc⟩)]) (fun ⟨i, q, acc⟩ => l.length - i) (fun ⟨i, q, acc⟩ => (n ≤ i ∧ i < l.length ∧ n + acc.length ≤ i) ∧ sepP l rd w (l.length + 1) ⟨n, m⟩ [] = sepP l rd w (l.length + 1 - acc.length) ⟨i, q⟩ acc) (n, m, [])
 case h0 =>
  exact ⟨⟨Nat.le_refl _, hn, by simp⟩, rfl⟩
 case hw =>
  simp only [go_sem]; exact fun i hi => absurd hi (Nat.not_lt_zero i)
 case body =>
  rintro ⟨i, q, acc⟩ hx ih0
  try simp only at hx
  have hlen := hk.len
  have hf : 0 < l.length + 1 - acc.length := by omega
  have hw1 := wl acc.length (by have := hk.len; omega)
  apply Exec.norm
  ·simp only [go_sem, hw1]
   rfl
  refine sq ?_
  refine sq ?_
  refine Exec.regStart 8 rfl ?_
  apply Exec.regPart 0 2 6 te_ok rfl
  ·intro u' Q hQ
   simp only [go_sem, hw1]
   repeat refine ob2 ?_
   exact hQ
  refine Exec.yield 1 (m := 5) rfl rfl rfl rfl rfl rfl hlo0 rfl hN0 rfl (fun ag0 hag0 hdg0 => ?_)
  apply Exec.norm
  ·simp only [go_sem, hw1]
   rfl
  refine sk ?_
  refine Exec.begin rfl hlo0 hfl0 ?_
  apply Exec.norm
  ·simp only [go_sem, hw1]
   rfl
  refine Exec.block ?_
  rcases hq1 : rd ⟨i, q⟩ with ⟨⟨i1, m1⟩, x1⟩ | at1
  ·have ha1 := hadv ⟨i, q⟩ hx.1.1 hx.1.2.1 _ _ hq1
   simp only at ha1
   apply Exec.free (st := _) 10 9 [(0, 1), (0, 2), (1, 3), (2, 3), (0, 4), (1, 4), (2, 4), (3, 4), (6, 8), (7, 8)] te_ok (by as_aux_lemma => kernel_rfl) rfl (by as_aux_lemma => kernel_rfl)
   ·intro u' Q hQ
    simp only [go_sem, hw1]
    repeat refine ob2 ?_
    refine kfcallM 900 hR.inv te_ok rfl rfl rfl rfl rfl rfl rfl rfl rfl (fOk (hrd i q (by omega) (by omega)) hq1) ?_
    simp only [go_sem, hw1]
    repeat refine ob2 ?_
    refine kfstore te_ok rfl rfl rfl rfl rfl (by simp only [go_sem, hw1]; rfl) rfl rfl rfl rfl rfl (by decide) ?_
    simp only [go_sem, hw1]
    repeat refine ob2 ?_
    exact hQ
   ·rfl
   refine Exec.rowTo 500 ⟨30, 3, (acc ++ [x1]).length, (acc ++ [x1]).length, kdR (acc ++ [x1])⟩ rfl ⟨rfl, rfl, by simp, .inl (by simp), fun i hi => kdR_put acc x1 _ i hi⟩ ?_
   apply Exec.norm
   ·simp only [go_sem]
    rfl
   refine Exec.inBlock ?_
   refine Exec.roundEnd 1 .fall rfl hlo0 hfl0 rfl hag0 hdg0 rfl rfl rfl ?_
   apply Exec.norm
   ·simp only [go_sem, hw1]
    rfl
   apply Exec.regPart 3 5 0 te_ok rfl
   ·intro u' Q hQ
    simp only [go_sem, hw1]
    repeat refine ob2 ?_
    refine kun te_ok [9, 10] (by simp only [go_sem, hw1]; rfl) ?_
    simp only [go_sem, hw1]
    repeat refine ob2 ?_
    refine kcallM 1900 hR.inv te_ok rfl rfl rfl rfl rfl rfl rfl rfl rfl (is_ok _ _ _ _ (by omega) hk.len) ?_
    simp only [go_sem, hw1]
    repeat refine ob2 ?_
    exact hQ
   refine Exec.regEnd ?_
   refine Exec.cond_split rfl (fun h0 => ?_) (fun h0 => ?_)
   ·have hs0 : isS l w ⟨i1, m1⟩ = ⟨i1 + 1, m1⟩ := by rw [isS, if_pos h0]; rfl
    have hn1 : i1 + 1 < l.length := is_adv hk (s := ⟨i1, m1⟩) ha1.1.2 h0
    have hz := sep_on (acc := acc) hf hq1 h0
    refine sk ?_
    refine sq ?_
    refine Exec.block ?_
    refine sk ?_
    refine Exec.inBlock ?_
    apply Exec.regionL te_ok
    ·intro u' Q hQ
     simp only [go_sem, hw1, hs0]
     repeat refine ob2 ?_
     exact hQ
    refine Exec.back (ih0 (i1 + 1, m1, acc ++ [x1]) ?_ ?_) ?_ ?_ ?_ ?_ ?_ ?_ ?_
    ·try simp only
     exact ⟨⟨by omega, hn1, by simp; omega⟩, by rw [hx.2, hz]; congr 1; simp; omega⟩
    ·try simp only
     omega
    ·rfl
    ·rfl
    ·(simp only [go_sem, hw1]; simp)
    ·(simp only [go_sem])
    ·simp only [go_sem]
    ·simp only [go_sem, hw1, hs0]
    ·rfl
   ·have hs0 : isS l w ⟨i1, m1⟩ = ⟨i1, m1⟩ := by rw [isS, if_neg (by rw [h0]; decide)]
    have hz := sep_end (acc := acc) hf hq1 h0
    refine Exec.exit rfl ?_
    refine Exec.rangeEnd 1 (pd := none) Tryz.func166 rfl (.inl rfl) rfl rfl hlo0 hfl0 rfl rfl hN0 hD0 ?_
    apply Exec.norm
    ·simp only [go_sem, hw1, hs0]
     rfl
    refine Exec.inBlock ?_
    refine sq ?_
    refine sq ?_
    apply Exec.regionL te_ok
    ·intro u' Q hQ
     simp only [go_sem, hw1, hs0]
     repeat refine ob2 ?_
     exact hQ
    refine Exec.cond_split rfl (fun h1 => ?_) (fun h1 => ?_)
    ·have hr0 : kdR (acc ++ [x1]) 0 = exC (nth (acc ++ [x1]) 0) := kdR_at (by simp)
     refine sq ?_
     apply Exec.regionL te_ok
     ·intro u' Q hQ
      simp only [go_sem, hw1, hs0, hr0]
      repeat refine ob2 ?_
      exact hQ
     refine Exec.retsMu hR te_ok rfl (.cons hfr0 .nil) rfl rfl rfl ?_ (.inr ⟨_, rfl⟩)
     have hj : joinP l rd w k ⟨n, m⟩ = .ok ⟨i1, m1⟩ (oneEx k (acc ++ [x1])) := by simp only [joinP, hx.2, hz, PR.bind]
     have h1e : oneEx k (acc ++ [x1]) = nth (acc ++ [x1]) 0 := by unfold oneEx; rw [if_pos (by have h2 := of_decide_eq_true (by simpa using h1 : decide ((acc.length : Int) + 1 = 1) = true); simp only [List.length_append, List.length_singleton]; omega)]
     rw [h1e] at hj
     refine ⟨_, _, outP_ok hj, ?_⟩
     simp only [go_sem]
    ·refine sk ?_
     refine sq ?_
     apply Exec.regionL te_ok
     ·intro u' Q hQ
      simp only [go_sem, hw1, hs0]
      repeat refine ob2 ?_
      refine kfreeze 500 rfl (by simp only [go_sem, hw1, hs0]; rfl) ?_
      refine runL_walk te_ok ?_
      simp only [go_sem, hw1, hs0]
      repeat refine ob2 ?_
      exact hQ
     refine Exec.retsMu hR te_ok rfl (.cons hfr0 .nil) rfl rfl rfl ?_ (.inr ⟨_, rfl⟩)
     have hj : joinP l rd w k ⟨n, m⟩ = .ok ⟨i1, m1⟩ (oneEx k (acc ++ [x1])) := by simp only [joinP, hx.2, hz, PR.bind]
     have h1e : oneEx k (acc ++ [x1]) = .mk k [] (acc ++ [x1]) := by unfold oneEx; rw [if_neg (by have h2 := of_decide_eq_false (by simpa using h1 : decide ((acc.length : Int) + 1 = 1) = false); simp only [List.length_append, List.length_singleton]; omega)]
     rw [h1e] at hj
     refine ⟨_, _, outP_ok hj, ?_⟩
     simp only [go_sem]
     exact ⟨rfl, rfl, by rw [kd_eq]; simp [LeX, Ex.kids]⟩
  ·apply Exec.freeE (st := _) 10 2 [0, 1, 3, 4] [(0, 1), (1, 2), (0, 3), (1, 3), (2, 3)] [0, 2, 3] te_ok (by as_aux_lemma => kernel_rfl) rfl (by as_aux_lemma => kernel_rfl) (by as_aux_lemma => kernel_rfl)
   ·intro u' Q hQ
    simp only [go_sem, hw1]
    repeat refine ob2 ?_
    exact hQ
   ·rfl
   ·rfl
   apply EndsT.norm
   ·simp only [go_sem, hw1]
    rfl
   refine EndsT.callP 900 hR.inv rfl rfl rfl rfl rfl rfl rfl rfl rfl (fEr (hrd i q (by omega) (by omega)) hq1) ?_
   refine ExecP.popC Tryz.func170 rfl rfl hag0 hdg0 ?_
   refine ExecP.ren (swJ 1) ?_
   refine ExecP.popR Tryz.func166 rfl rfl rfl hN0 hD0 ?_
   refine ExecP.ren (swJ 1) ?_
   refine ExecP.endM hR (.cons hfr0 .nil) ?_
   exact ⟨_, outP_err (a := at1) (by simp only [joinP, hx.2, sep_err hf hq1, PR.bind]), by simp only [go_sem]⟩
theorem prow_ok (l : List Tk) (n : Nat) (m : Int) (hk : TkOk l) (hn : n < l.length) (it : PS → PR Ex) (hit : ∀ (i : Nat) (q : Int), n ≤ i → i < l.length → FnM Laid Tryz.prog 200 157 [tksD l, iv i, iv q] [.lp 900 0] (outP 152 l exD (it ⟨i, q⟩))) (hadv : ∀ s : PS, n ≤ s.n → s.n < l.length → AdvX l s (it s)) : FnM Laid Tryz.prog 171 157 [tksD l, iv n, iv m] [.lp 900 0] (outP 152 l exD (rowP l it ⟨n, m⟩)) := by
 refine FnM_of Tryz.func171 Tryz.ntmps171 rfl (by as_aux_lemma => kernel_rfl) (Nat.le_of_ble_eq_true rfl) (fun R b0 hR => ?_)
 obtain ⟨_, b, cs, T, C⟩ := R
 obtain rfl : _ = Tryz.prog := hR.p
 refine sreg te_ok ?_
 refine sq ?_
 rcases hq1 : rowP l it ⟨n, m⟩ with ⟨⟨n1, m1⟩, x1⟩ | at1
 ·apply Exec.regionL te_ok
  ·intro u' Q hQ
   simp only [go_sem]
   repeat refine ob2 ?_
   refine kcallM 900 hR.inv te_ok rfl rfl rfl rfl rfl rfl rfl rfl rfl (fOk (r := rowP l it ⟨n, m⟩) (pjoined_ok l n m hk hn [46] 2 200 it hit hadv) hq1) ?_
   simp only [go_sem]
   repeat refine ob2 ?_
   exact hQ
  refine Exec.retsMu hR te_ok rfl .nil rfl rfl rfl ?_ (.inr ⟨_, rfl⟩)
  refine ⟨_, _, outP_ok hq1, ?_⟩
  simp only [go_sem]
 ·refine Exec.regStart 5 rfl ?_
  apply Exec.regPart 0 3 2 te_ok rfl
  ·intro u' Q hQ
   simp only [go_sem]
   repeat refine ob2 ?_
   exact hQ
  refine Exec.callP 900 hR.inv rfl rfl rfl rfl rfl rfl rfl rfl rfl (fEr (r := rowP l it ⟨n, m⟩) (pjoined_ok l n m hk hn [46] 2 200 it hit hadv) hq1) ?_
  refine ExecP.endM hR .nil ?_
  exact ⟨_, outP_err (a := at1) hq1, by simp only [go_sem]⟩
theorem pexpr_ok (l : List Tk) (n : Nat) (m : Int) (hk : TkOk l) (hn : n < l.length) (it : PS → PR Ex) (hit : ∀ (i : Nat) (q : Int), n ≤ i → i < l.length → FnM Laid Tryz.prog 200 157 [tksD l, iv i, iv q] [.lp 900 0] (outP 152 l exD (it ⟨i, q⟩))) (hadv : ∀ s : PS, n ≤ s.n → s.n < l.length → AdvX l s (it s)) : FnM Laid Tryz.prog 134 157 [tksD l, iv n, iv m] [.lp 900 0] (outP 152 l exD (exprP l it ⟨n, m⟩)) := by
 refine FnM_of Tryz.func134 Tryz.ntmps134 rfl (by as_aux_lemma => kernel_rfl) (Nat.le_of_ble_eq_true rfl) (fun R b0 hR => ?_)
 obtain ⟨_, b, cs, T, C⟩ := R
 obtain rfl : _ = Tryz.prog := hR.p
 have hrow : ∀ (i : Nat) (q : Int), n ≤ i → i < l.length → FnM Laid Tryz.prog 171 157 [tksD l, iv i, iv q] [.lp 900 0] (outP 152 l exD (rowP l it ⟨i, q⟩)) := fun i q h h2 => prow_ok l i q hk h2 it (fun i2 q2 h3 h4 => hit i2 q2 (by omega) h4) (fun s h3 h4 => hadv s (by omega) h4)
 have hra : ∀ s : PS, n ≤ s.n → s.n < l.length → AdvX l s (rowP l it s) := fun s h h2 => row_adv hk h2 fun s2 h3 h4 => hadv s2 (by omega) h4
 refine sreg te_ok ?_
 refine sq ?_
 rcases hq1 : exprP l it ⟨n, m⟩ with ⟨⟨n1, m1⟩, x1⟩ | at1
 ·apply Exec.regionL te_ok
  ·intro u' Q hQ
   simp only [go_sem]
   repeat refine ob2 ?_
   refine kcallM 900 hR.inv te_ok rfl rfl rfl rfl rfl rfl rfl rfl rfl (fOk (r := exprP l it ⟨n, m⟩) (pjoined_ok l n m hk hn [124] 3 171 _ hrow hra) hq1) ?_
   simp only [go_sem]
   repeat refine ob2 ?_
   exact hQ
  refine Exec.retsMu hR te_ok rfl .nil rfl rfl rfl ?_ (.inr ⟨_, rfl⟩)
  refine ⟨_, _, outP_ok hq1, ?_⟩
  simp only [go_sem]
 ·refine Exec.regStart 5 rfl ?_
  apply Exec.regPart 0 3 2 te_ok rfl
  ·intro u' Q hQ
   simp only [go_sem]
   repeat refine ob2 ?_
   exact hQ
  refine Exec.callP 900 hR.inv rfl rfl rfl rfl rfl rfl rfl rfl rfl (fEr (r := exprP l it ⟨n, m⟩) (pjoined_ok l n m hk hn [124] 3 171 _ hrow hra) hq1) ?_
  refine ExecP.endM hR .nil ?_
  exact ⟨_, outP_err (a := at1) hq1, by simp only [go_sem]⟩
end Go.Proofs.YtonchjamoblioaaGreatDoor
namespace Go.Proofs.YtonchjamoblioaaGreatDoor
open Go.Kin
set_option maxRecDepth 100000
set_option maxHeartbeats 0
abbrev W135 (x : Ex) (n : Nat) : List (Nat × TypeId × List SV) := [(1002, 3, [.d (iv n)]), (1001, 30, [.d (iv x.k), .d (sv x.s), .d (kdX x)])]
abbrev So135 (x : Ex) : List (Nat × SV) := [(4, .d (.fn 144 [.ptr (exC x)])), (3, .d (exD x)), (2, .lp 1002 0), (1, .lp 1001 0), (0, .d (exD x))]
attribute [go_sem] W135 So135
theorem xsize_ok (x : Ex) (hx : x.size ≤ 1000000) : FnOK Laid Tryz.prog 135 [exD x] (iv x.size) := by
 refine FnOK_of laid_stable Tryz.func135 Tryz.ntmps135 rfl (by as_aux_lemma => kernel_rfl) (Nat.le_of_ble_eq_true rfl) (fun R hR => ?_)
 obtain ⟨_, b, cs, T, C⟩ := R
 obtain rfl : _ = Tryz.prog := hR.p
 refine sreg te_ok ?_
 refine sq ?_
 refine sq ?_
 apply Exec.regionL te_ok
 ·intro u' Q hQ
  simp only [go_sem]
  repeat refine ob2 ?_
  refine kcall hR.inv te_ok rfl rfl rfl rfl rfl rfl (parts_ok x) ?_
  simp only [go_sem]
  repeat refine ob2 ?_
  exact hQ
 refine Exec.block ?_
 refine Exec.range 1 hR.round hR.bfn rfl rfl Tryz.func144 Tryz.ntmps144 rfl (by as_aux_lemma => kernel_rfl) (Nat.le_of_ble_eq_true rfl) (fun a0 l0 r0 lo0 hlo0 hN0 hD0 hfr0 hfl0 => ?_)
 have yl : ∀ (y : Ex), ∀ (n : Nat), n ≤ 1000000 → ∀ {b' : Frame} {cs' : List Frame} {k : List Item} {ops : Array Oper} {i m : Nat} {o : Oper} {f : Operand} {args : Array Operand} {ts : Array TypeId} {N d : Nat} {S : List (Nat × SV)} {fz : List (Act × List (Nat × SV))},
   ops[i]? = some o → o.op = .call { callee := .value f, args := args, argTypes := ts } → o.guard = none → evalL S f = some (.d (.v (.func (.yield l0) #[] #[]))) → argsV S args.toList = some [.d (exD y)] → args.size = 1 → (ops[i]?).bind (·.dst) = some d → dstLt (some d) N = true → (a0, So135 x) ∈ fz → ClS S → Cl fz →
   Exec ⟨Tryz.prog, b', cs', T, C⟩ (.inRegion ops (List.range' (i + 1) m) :: k) (Stt.mk N [] ((d, .d (bv true)) :: S) (W135 x (n + 1)) [] fz [(l0, lo0 .ready none), (r0, .deferred (some []))]).sy →
   Exec ⟨Tryz.prog, b', cs', T, C⟩ (.inRegion ops (List.range' i (m + 1)) :: k) (Stt.mk N [] S (W135 x n) [] fz [(l0, lo0 .ready none), (r0, .deferred (some []))]).sy := by
  intro y n hn b' cs' k ops i m o f args ts N d S fz ho hop hgd hf hargs hsz hd hdN hmem hS hF hk1
  refine Exec.yieldD 1 ho hop hgd hf hargs rfl hlo0 hmem hN0 (by simp [hsz]) (fun ag hag hdg => ?_)
  have wn : IntKind.i64.wrap ((n : Int) + 1) = ((n + 1 : Nat) : Int) := by rw [wrap_id (by omega)]; omega
  apply Exec.norm
  ·simp only [go_sem, renS_renS, renF_renF, wn, hS.m4, hF.m4]
   rfl
  refine sk ?_
  refine Exec.begin rfl hlo0 hfl0 ?_
  apply Exec.norm
  ·simp only [go_sem, renS_renS, renF_renF, wn, hS.m4, hF.m4]
   rfl
  refine Exec.block ?_
  apply Exec.regionL te_ok
  ·intro u' Q hQ
   simp only [go_sem, renS_renS, renF_renF, wn, hS.m4, hF.m4]
   repeat refine ob2 ?_
   exact hQ
  refine Exec.inBlock ?_
  refine Exec.roundEnd 1 .fall rfl hlo0 hfl0 rfl hag hdg hd hdN rfl ?_
  apply Exec.norm
  ·simp only [go_sem, renS_renS, renF_renF, wn, hS.m4, hF.m4]
   rfl
  exact hk1
 have wk : ∀ (y : Ex), ∀ (n : Nat), n + y.size ≤ 1000000 → ∀ {b' : Frame} {cs' : List Frame} {k : List Item} {ops : Array Oper} {i m : Nat} {o : Oper} {f : Operand} {args : Array Operand} {ts : Array TypeId} {N d : Nat} {S : List (Nat × SV)} {fz : List (Act × List (Nat × SV))},
   ops[i]? = some o → o.op = .call { callee := .value f, args := args, argTypes := ts } → o.guard = none → evalL S f = some (.d (.fn 145 [])) → argsV S args.toList = some [.d (exD y), .d (.v (.func (.yield l0) #[] #[]))] → args.size = 2 → (ops[i]?).bind (·.dst) = some d → dstLt (some d) N = true → (a0, So135 x) ∈ fz → ClS S → Cl fz →
   Exec ⟨Tryz.prog, b', cs', T, C⟩ (.inRegion ops (List.range' (i + 1) m) :: k) (Stt.mk N [] ((d, .d (bv true)) :: S) (W135 x (n + y.size)) [] fz [(l0, lo0 .ready none), (r0, .deferred (some []))]).sy →
   Exec ⟨Tryz.prog, b', cs', T, C⟩ (.inRegion ops (List.range' i (m + 1)) :: k) (Stt.mk N [] S (W135 x n) [] fz [(l0, lo0 .ready none), (r0, .deferred (some []))]).sy := by
  intro y
  refine Ex.ind (p := fun y => ∀ (n : Nat), n + y.size ≤ 1000000 → ∀ {b' : Frame} {cs' : List Frame} {k : List Item} {ops : Array Oper} {i m : Nat} {o : Oper} {f : Operand} {args : Array Operand} {ts : Array TypeId} {N d : Nat} {S : List (Nat × SV)} {fz : List (Act × List (Nat × SV))},
   ops[i]? = some o → o.op = .call { callee := .value f, args := args, argTypes := ts } → o.guard = none → evalL S f = some (.d (.fn 145 [])) → argsV S args.toList = some [.d (exD y), .d (.v (.func (.yield l0) #[] #[]))] → args.size = 2 → (ops[i]?).bind (·.dst) = some d → dstLt (some d) N = true → (a0, So135 x) ∈ fz → ClS S → Cl fz →
   Exec ⟨Tryz.prog, b', cs', T, C⟩ (.inRegion ops (List.range' (i + 1) m) :: k) (Stt.mk N [] ((d, .d (bv true)) :: S) (W135 x (n + y.size)) [] fz [(l0, lo0 .ready none), (r0, .deferred (some []))]).sy →
   Exec ⟨Tryz.prog, b', cs', T, C⟩ (.inRegion ops (List.range' i (m + 1)) :: k) (Stt.mk N [] S (W135 x n) [] fz [(l0, lo0 .ready none), (r0, .deferred (some []))]).sy) (fun y ih => ?_) y
  intro n0 hn b' cs' k ops i m o f args ts N d S fz ho hop hgd hf hargs hsz hd hdN hmem hS hF hK1
  have hys := y.size_eq
  refine Exec.enter ho hop hgd hf rfl hargs Tryz.func145 Tryz.ntmps145 rfl (by as_aux_lemma => kernel_rfl) (Nat.le_of_ble_eq_true rfl) (fun ag hag hdg => ?_)
  apply Exec.norm
  ·simp only [go_sem, hS.m2, hS.m6, hS.f2, hS.f6, hS.le, hF.m2, hF.m6, hF.f2, hF.f6, hF.le]
   rfl
  refine sq ?_
  apply Exec.regionL te_ok
  ·intro u' Q hQ
   simp only [go_sem, hS.m2, hS.m6, hS.f2, hS.f6, hS.le, hF.m2, hF.m6, hF.f2, hF.f6, hF.le]
   repeat refine ob2 ?_
   exact hQ
  refine sq ?_
  refine sq ?_
  have hyk : y.kids.length ≤ 1000000 := by have := Ex.len_le y.kids; omega
  refine Exec.freezeB 2 rfl rfl rfl ?_
  apply Exec.norm
  ·simp only [go_sem, hS.f2, hF.f2]
   rfl
  refine Exec.regStart 4 rfl ?_
  apply Exec.regPart 0 2 2 te_ok rfl
  ·intro u' Q hQ
   simp only [go_sem, hS.m2, hS.m6, hS.f2, hS.f6, hS.le, hF.m2, hF.m6, hF.f2, hF.f6, hF.le]
   repeat refine ob2 ?_
   exact hQ
  refine yl y n0 (by omega) (m := 1) rfl rfl rfl rfl rfl rfl rfl rfl (List.mem_cons_of_mem _ hmem) (by constructor <;> (intros; first | rfl | simp only [go_sem, hS.m2, hS.m6, hS.f2, hS.f6, hS.le, hF.m2, hF.m6, hF.f2, hF.f6, hF.le])) (Cl.cons hS hF) ?_
  apply Exec.norm
  ·simp only [go_sem, hS.m2, hS.m6, hS.f2, hS.f6, hS.le, hF.m2, hF.m6, hF.f2, hF.f6, hF.le]
   rfl
  apply Exec.regPart 3 1 0 te_ok rfl
  ·intro u' Q hQ
   simp only [go_sem, hS.m2, hS.m6, hS.f2, hS.f6, hS.le, hF.m2, hF.m6, hF.f2, hF.f6, hF.le]
   repeat refine ob2 ?_
   exact hQ
  refine Exec.regEnd ?_
  refine Exec.cond (t := false) rfl ?_
  simp only [reduceIte, Bool.false_eq_true]
  refine sk ?_
  refine sq ?_
  refine sq ?_
  have hk := kd_eq y
  apply Exec.regionL te_ok
  ·intro u' Q hQ
   simp only [go_sem, hS.m2, hS.m6, hS.f2, hS.f6, hS.le, hF.m2, hF.m6, hF.f2, hF.f6, hF.le, hk]
   repeat refine ob2 ?_
   exact hQ
  refine Exec.block ?_
  apply Exec.loopU [1, 12, 13] (X := Nat × Nat) (fun ⟨i, n⟩ => [(14, .d (iv i))]) (fun ⟨i, n⟩ => [(1002, 3, [.d (iv n)])]) (fun ⟨i, n⟩ => []) (fun ⟨i, n⟩ => y.kids.length - i) (fun ⟨i, n⟩ => i ≤ y.kids.length ∧ n = n0 + 1 + Ex.sizes (y.kids.take i)) (0, n0 + 1)
  case h0 =>
   exact ⟨Nat.zero_le _, by simp [Ex.sizes]⟩
  case hw =>
   simp only [go_sem, hS.m2, hS.m6, hS.f2, hS.f6, hS.le, hF.m2, hF.m6, hF.f2, hF.f6, hF.le]
  case body =>
   rintro ⟨i, n⟩ hx ih0
   try simp only at hx
   apply Exec.norm
   ·simp only [go_sem, hS.m2, hS.m6, hS.f2, hS.f6, hS.le, hF.m2, hF.m6, hF.f2, hF.f6, hF.le]
    rfl
   refine sq ?_
   apply Exec.regionL te_ok
   ·intro u' Q hQ
    simp only [go_sem, hS.m2, hS.m6, hS.f2, hS.f6, hS.le, hF.m2, hF.m6, hF.f2, hF.f6, hF.le]
    repeat refine ob2 ?_
    exact hQ
   refine sq ?_
   refine Exec.cond_split rfl (fun h1 => ?_) (fun h1 => ?_)
   ·have hi : i < y.kids.length := by have := of_decide_eq_true h1; omega
    have ha := kdR_at hi
    have w2 : IntKind.i64.wrap ((i : Int) + 1) = ((i + 1 : Nat) : Int) := by rw [wrap_id (by omega)]; omega
    have hss := Ex.sizes_take hi
    have hsl := Ex.sizes_le y.kids (i + 1)
    refine sk ?_
    refine sq ?_
    refine Exec.block ?_
    refine sq ?_
    apply Exec.regionL te_ok
    ·intro u' Q hQ
     simp only [go_sem, hS.m2, hS.m6, hS.f2, hS.f6, hS.le, hF.m2, hF.m6, hF.f2, hF.f6, hF.le, ha, w2]
     repeat refine ob2 ?_
     exact hQ
    refine sq ?_
    refine Exec.freezeB 6 rfl rfl rfl ?_
    apply Exec.norm
    ·simp only [go_sem, hS.f6, hF.f6]
     rfl
    refine Exec.regStart 4 rfl ?_
    apply Exec.regPart 0 2 2 te_ok rfl
    ·intro u' Q hQ
     simp only [go_sem, hS.m2, hS.m6, hS.f2, hS.f6, hS.le, hF.m2, hF.m6, hF.f2, hF.f6, hF.le, ha, w2]
     repeat refine ob2 ?_
     exact hQ
    refine ih _ (nth_mem hi) n (by omega) (m := 1) rfl rfl rfl rfl rfl rfl rfl rfl (List.mem_cons_of_mem _ hmem) (by constructor <;> (intros; first | rfl | simp only [go_sem, hS.m2, hS.m6, hS.f2, hS.f6, hS.le, hF.m2, hF.m6, hF.f2, hF.f6, hF.le, ha, w2])) (Cl.cons hS hF) ?_
    apply Exec.norm
    ·simp only [go_sem, hS.m2, hS.m6, hS.f2, hS.f6, hS.le, hF.m2, hF.m6, hF.f2, hF.f6, hF.le, ha, w2]
     rfl
    apply Exec.regPart 3 1 0 te_ok rfl
    ·intro u' Q hQ
     simp only [go_sem, hS.m2, hS.m6, hS.f2, hS.f6, hS.le, hF.m2, hF.m6, hF.f2, hF.f6, hF.le, ha, w2]
     repeat refine ob2 ?_
     exact hQ
    refine Exec.regEnd ?_
    refine Exec.cond (t := false) rfl ?_
    simp only [reduceIte, Bool.false_eq_true]
    refine sk ?_
    refine Exec.inBlock ?_
    apply Exec.regionL te_ok
    ·intro u' Q hQ
     simp only [go_sem, hS.m2, hS.m6, hS.f2, hS.f6, hS.le, hF.m2, hF.m6, hF.f2, hF.f6, hF.le, ha, w2]
     repeat refine ob2 ?_
     exact hQ
    refine Exec.back (ih0 (i + 1, n + (nth y.kids i).size) ?_ ?_) ?_ ?_ ?_ ?_ ?_ ?_ ?_
    ·try simp only
     exact ⟨by omega, by rw [hx.2, Ex.sizes_take hi]; omega⟩
    ·try simp only
     omega
    ·rfl
    ·rfl
    ·(simp only [go_sem, hS.m2, hS.m6, hS.f2, hS.f6, hS.le, hF.m2, hF.m6, hF.f2, hF.f6, hF.le, ha, w2])
    ·(simp only [go_sem, hS.m2, hS.m6, hS.f2, hS.f6, hS.le, hF.m2, hF.m6, hF.f2, hF.f6, hF.le, ha, w2])
    ·(simp only [go_sem, hS.m2, hS.m6, hS.f2, hS.f6, hS.le, hF.m2, hF.m6, hF.f2, hF.f6, hF.le, ha, w2])
    ·simp only [go_sem, hS.m2, hS.m6, hS.f2, hS.f6, hS.le, hF.m2, hF.m6, hF.f2, hF.f6, hF.le, ha, w2]
    ·rfl
   ·refine Exec.exit rfl ?_
    refine sq ?_
    apply Exec.regionL te_ok
    ·intro u' Q hQ
     simp only [go_sem, hS.m2, hS.m6, hS.f2, hS.f6, hS.le, hF.m2, hF.m6, hF.f2, hF.f6, hF.le]
     repeat refine ob2 ?_
     exact hQ
    refine Exec.leave te_ok Tryz.func145 rfl rfl rfl (.inr ⟨_, rfl⟩) rfl rfl hag hdg hd hdN ?_
    apply Exec.norm
    ·simp only [go_sem, hS.m2, hS.m6, hS.f2, hS.f6, hS.le, hF.m2, hF.m6, hF.f2, hF.f6, hF.le]
     rfl
    obtain rfl : n = n0 + y.size := by rw [hys, hx.2, List.take_of_length_le (by have := of_decide_eq_false h1; omega)]; omega
    exact hK1
 apply Exec.norm
 ·simp only [go_sem]
  rfl
 refine Exec.regStart 3 rfl ?_
 apply Exec.regPart 0 2 1 te_ok rfl
 ·intro u' Q hQ
  simp only [go_sem]
  repeat refine ob2 ?_
  exact hQ
 refine wk x 0 (by omega) (m := 0) rfl rfl rfl rfl rfl rfl rfl rfl List.mem_cons_self (by constructor <;> (intros; first | rfl | simp only [go_sem])) (by constructor <;> (intros; first | rfl | simp only [go_sem])) ?_
 apply Exec.norm
 ·simp only [go_sem]
  rfl
 refine Exec.regEnd ?_
 refine Exec.rangeEnd 1 (pd := none) Tryz.func144 rfl (.inl rfl) rfl rfl hlo0 hfl0 rfl rfl hN0 hD0 ?_
 apply Exec.norm
 ·simp only [go_sem]
  rfl
 refine Exec.inBlock ?_
 refine sreg te_ok ?_
 refine Exec.retsM hR te_ok rfl (.cons hfr0 .nil) rfl (LeX.le ?_) (.inr ⟨_, rfl⟩)
 simp only [go_sem]
end Go.Proofs.YtonchjamoblioaaGreatDoor
