/- Steps of a function body on data, and contracts of the functions of the seat, walked. -/
import Derived.Test.YtonchjamoblioaaGreatDoorKOb
import Derived.Recover
import Derived.Test.YtonchjamoblioaaGreatDoorP1
set_option linter.unusedSimpArgs false
set_option linter.unusedVariables false
namespace Go.Kin
open Go.RowKit
/-! ### deferred closures, recover -/
/-- a closure that waits for the end; what it captures stands in an activation that waits -/
def dfn (g : Nat) (ac : Act) : Deferred := { target := .fn (.func g) ac.tmps, args := #[] }
/-- the frame of a deferred call -/
def callD (g : Nat) : Frame := { (default : Frame) with fn := g, kind := .deferred, roundOf := none }
/-- an activation on its way out -/
def outF (b : Frame) (ao : Act) (k : List Item) (fm : FrameMode) : Frame := { b.atR ao k with mode := fm }
/-- it returns -/
def ExecR (R : Rn) (s : Sy) : Prop := ∀ a w k, Sat R.C s a w → ∃ m', R.T m' ∧ Steps R.P (lone (outF R.b a k .returning) R.cs w) m'
section
variable {P : Program} {b : Frame} {cs : List Frame} {T : Machine → Prop} {C : Ctx} {k : List Item} {s : Stt}
theorem Exec.retR (hro : b.roundOf = none) (hk : k = [] ∨ ∃ k', k = .code .ret :: k') (h : ExecR ⟨P, b, cs, T, C⟩ s.sy) : Exec ⟨P, b, cs, T, C⟩ k s.sy := fun a w hs => by
  obtain ⟨m', h1, h2⟩ := h a w k hs
  refine ⟨m', h1, ?_⟩
  rcases hk with rfl | ⟨k', rfl⟩
  · exact .head (stepR_end hro) h2
  · exact .head (stepR_ret hro) h2
theorem ExecR.norm {s' : Stt} (h : s = s') (hk : ExecR ⟨P, b, cs, T, C⟩ s'.sy) : ExecR ⟨P, b, cs, T, C⟩ s.sy := h ▸ hk
theorem ExecR.ren (π : Swp) (h : ExecR ⟨P, b, cs, T, C⟩ (renSt π s).sy) : ExecR ⟨P, b, cs, T, C⟩ s.sy := fun a w k ⟨E, hE⟩ => h a w k ⟨renE π E, hE.ren π⟩
theorem ExecR.done {te : TE} {I : World → Prop} {f : FuncId} {fn : Func} {res : D} (hR : FnRun ⟨P, b, cs, T, C⟩ I P f fn res) (hte : TEok P te) {rv : List ResultVar} (hrv : fn.results.toList = rv) (hdf : s.df = []) {ds : List D} (hr : resV te s rv = some ds) (he : LeD (resD ds) res) : ExecR ⟨P, b, cs, T, C⟩ s.sy := fun a w k hs => by
  subst hrv
  exact ⟨_, ret_T hR hte hdf hr he hs, Steps.refl _ _⟩
/-- a closure is put off -/
theorem Exec.deferOp {ops : Array Oper} {i : Nat} {rest : List Nat} {o : Oper} {f : Operand} {args : Array Operand} {ts : Array TypeId} {sv : SV} {g : Nat} {caps : List SV} (hro : b.roundOf = none)
    (ho : ops[i]? = some o) (hgd : o.guard = none) (hd : o.dst = none) (hop : o.op = .defer { callee := .value f, args := args, argTypes := ts }) (hargs : args.toList = []) (hf : evalL s.S f = some sv) (hc : fnCaps sv = some (g, caps))
    (h : ∀ ac : Act, ac.tmps.size = caps.length → Exec ⟨P, b, cs, T, C⟩ (.inRegion ops rest :: k) (Stt.mk s.N (dfn g ac :: s.df) s.S s.L s.O (s.fz ++ [(ac, slotsV 0 caps)]) s.pin).sy) : Exec ⟨P, b, cs, T, C⟩ (.inRegion ops (i :: rest) :: k) s.sy := by
  intro a w ⟨E, hE⟩
  have hgv : DenV E w sv (a.eval f) := evalO_den (s := s.sy) hE ((evalL_eq _ _).symm.trans hf)
  obtain ⟨us, e1, hus⟩ := fnCaps_den hc hgv
  have hlen := DenL_length hus
  have hw : Region.wanted o (yielded ops a.tmps) = true := by unfold Region.wanted; rw [hgd]
  have hg := stepGR_op (P := P) (b := b) (k := k) (cs := cs) (w := w) (a := a) (rest := rest) ho hw
  rw [hro, Oper.semAt_none] at hg
  have hargs' : args = #[] := Array.ext' hargs
  have hr : (execOp a.eval o).run P w = .ok (.defer (dfn g { tmps := us.toArray, defers := [] })) w := by
    simp [execOp, hop, resolve, e1, Deferred.ofValue, hargs', dfn]
  have hW : Waits E (s.fz ++ [({ tmps := us.toArray, defers := [] }, slotsV 0 caps)]) w := fun p hp => by
    simp only [List.mem_append, List.mem_singleton] at hp
    rcases hp with hp | rfl
    · exact hE.waits p hp
    · intro t sv' ht
      rw [look_slotsV] at ht
      simp only [Nat.zero_le, if_true, Nat.sub_zero] at ht
      obtain ⟨v, h3, h4⟩ := DenL_get hus ht
      exact ⟨v, by simpa using h3, h4⟩
  have hdf : a.defers = s.df := hE.df
  obtain ⟨m', h1, h2⟩ := h { tmps := us.toArray, defers := [] } (by simpa using hlen) { a with defers := dfn g { tmps := us.toArray, defers := [] } :: a.defers } w ⟨E, ⟨hE.sz, by simp only [Stt.sy]; rw [hdf], fun t sv' ht => hE.slots t sv' ht, hE.hp, hE.pins, hW⟩⟩
  refine ⟨m', h1, .head (step_lone_go ?_) h2⟩
  have hfin : ({ b.atR a (.inRegion ops (i :: rest) :: k) with defers := dfn g { tmps := us.toArray, defers := [] } :: a.defers } : Frame).finish undef = b.atR { a with defers := dfn g { tmps := us.toArray, defers := [] } :: a.defers } (.inRegion ops rest :: k) := by
    have := Frame.finish_atR b { a with defers := dfn g { tmps := us.toArray, defers := [] } :: a.defers } ops i rest k undef
    simp only [ho, Option.bind_some, hd, Act.put] at this
    exact this
  rw [hg]
  simp only [stepG.apply, Sem.runT_eq, hr, GStep.bare_after]
  exact congrArg (fun fr => GStep.go { frame := fr, callers := cs, status := .running, dying := none } w) hfin
theorem invoke_dfn {g : Nat} {fn : Func} {c : Code} (hfn : P.funcs[g]? = some fn) (hb : fn.body = some c) (hn : (fn.name == "runtime.NumGoroutine") = false) (ac : Act) (w : World) : (invoke (dfn g ac).target (dfn g ac).args).run P w = .ok (.enter g ac.tmps) w := by
  have hent : ∀ args w, (callFunc g args).run P w = .ok (.enter g args) w := fun args w => Enters.run ⟨fn, hfn, by simp [hb], hn⟩ args w
  simp [dfn, invoke, hent]
theorem enter_dfn {g : Nat} {fn : Func} {c : Code} (hfn : P.funcs[g]? = some fn) (hb : fn.body = some c) (args : Array Value) : Frame.enter P g args .deferred = (callD g).atR { tmps := args ++ Array.replicate (fn.ntmps - args.size) undef, defers := [] } [.code c] := by
  simp [Frame.enter, Frame.atR, hfn, hb, callD]
/-- the slots of the closure, when it is entered -/
theorem SatE.dfn_slots {E : Env} {a : Act} {w : World} (hE : SatE C E s.sy a w) {ac : Act} {Sc : List (Nat × SV)} (hmem : (ac, Sc) ∈ s.fz) {t : Nat} {sv : SV} (ht : klook t Sc = some sv) (m : Nat) : ∃ v, (ac.tmps ++ Array.replicate m undef)[t]? = some v ∧ DenV E w sv v := by
  obtain ⟨v, h1, h2⟩ := hE.waits (ac, Sc) hmem t sv ht
  have hlt : t < ac.tmps.size := (Array.getElem?_eq_some_iff.1 h1).1
  exact ⟨v, by rw [Array.getElem?_append_left hlt]; exact h1, h2⟩
/-- a closure runs, on the way out with a panic -/
theorem ExecP.defer {d : D} {g : Nat} {fn : Func} {c : Code} {ac : Act} {Sc : List (Nat × SV)} {ds : List Deferred} {n N : Nat} (hdf : s.df = dfn g ac :: ds) (hac : ac.tmps.size = n) (hmem : (ac, Sc) ∈ s.fz) (hfn : P.funcs[g]? = some fn) (hN : fn.ntmps = N) (hb : fn.body = some c) (hn : (fn.name == "runtime.NumGoroutine") = false) (hle : n ≤ N)
    (h : ∀ (ao av : Act) (k0 : List Item) (v : Value), ao.tmps.size = s.N → ao.defers = ds → av.tmps[0]? = some v →
      Exec ⟨P, callD g, outF b ao k0 (.panicking [{ v, recovered := false }]) :: cs, T, C⟩ [.code c] (Stt.mk N [] Sc s.L s.O ((ao, s.S) :: (av, [(0, .d d)]) :: s.fz) s.pin).sy) : ExecP ⟨P, b, cs, T, C⟩ d s.sy := by
  subst hN
  intro a w k v ⟨E, hE, hv⟩
  have hst := step_defer (P := P) (fr := { b.atR a k with mode := .panicking [{ v, recovered := false }] }) (cs := cs) (w := w) (d := dfn g ac) (ds := ds) (by simp) (hE.df.trans hdf) rfl (invoke_dfn hfn hb hn ac w)
  rw [enter_dfn hfn hb] at hst
  refine (?_ : ∃ m', T m' ∧ Steps P _ m').imp fun m' hm => ⟨hm.1, .head hst hm.2⟩
  refine h { a with defers := ds } { tmps := #[v], defers := [] } k v hE.sz rfl rfl _ _ ⟨E, ⟨?_, rfl, fun t sv ht => hE.dfn_slots hmem ht _, hE.hp, hE.pins, fun p hp => ?_⟩⟩
  · simp only [Stt.sy, Array.size_append, Array.size_replicate]; omega
  · simp only [Stt.sy, List.mem_cons] at hp
    rcases hp with rfl | rfl | hp
    · exact hE.slots
    · intro t sv' ht
      simp only [klook] at ht
      split at ht
      · rename_i e; subst e; cases ht; exact ⟨v, rfl, by simpa only [DenV] using hv⟩
      · cases ht
    · exact hE.waits p hp
/-- a closure runs, on the way out with a result -/
theorem ExecR.defer {g : Nat} {fn : Func} {c : Code} {ac : Act} {Sc : List (Nat × SV)} {ds : List Deferred} {n N : Nat} (hdf : s.df = dfn g ac :: ds) (hac : ac.tmps.size = n) (hmem : (ac, Sc) ∈ s.fz) (hfn : P.funcs[g]? = some fn) (hN : fn.ntmps = N) (hb : fn.body = some c) (hn : (fn.name == "runtime.NumGoroutine") = false) (hle : n ≤ N)
    (h : ∀ (ao : Act) (k0 : List Item), ao.tmps.size = s.N → ao.defers = ds →
      Exec ⟨P, callD g, outF b ao k0 .returning :: cs, T, C⟩ [.code c] (Stt.mk N [] Sc s.L s.O ((ao, s.S) :: s.fz) s.pin).sy) : ExecR ⟨P, b, cs, T, C⟩ s.sy := by
  subst hN
  intro a w k ⟨E, hE⟩
  have hst := step_defer (P := P) (fr := outF b a k .returning) (cs := cs) (w := w) (d := dfn g ac) (ds := ds) (by simp [outF]) (hE.df.trans hdf) rfl (invoke_dfn hfn hb hn ac w)
  rw [enter_dfn hfn hb] at hst
  refine (?_ : ∃ m', T m' ∧ Steps P _ m').imp fun m' hm => ⟨hm.1, .head hst hm.2⟩
  refine h { a with defers := ds } k hE.sz rfl _ _ ⟨E, ⟨?_, rfl, fun t sv ht => hE.dfn_slots hmem ht _, hE.hp, hE.pins, fun p hp => ?_⟩⟩
  · simp only [Stt.sy, Array.size_append, Array.size_replicate]; omega
  · simp only [Stt.sy, List.mem_cons] at hp
    rcases hp with rfl | hp
    · exact hE.slots
    · exact hE.waits p hp
/-- recover, in a deferred closure: a panic is caught -/
theorem Exec.recover {g : Nat} {ao av : Act} {Sv : List (Nat × SV)} {k0 : List Item} {v : Value} {d : D} {ops : Array Oper} {i : Nat} {rest : List Nat} {o : Oper} {ts : Array TypeId} {t : Nat}
    (ho : ops[i]? = some o) (hgd : o.guard = none) (hd : o.dst = some t) (htN : t < s.N) (hop : o.op = .call { callee := .builtin .recover, args := #[], argTypes := ts }) (hmem : (av, Sv) ∈ s.fz) (hv0 : klook 0 Sv = some (.d d)) (hav : av.tmps[0]? = some v)
    (h : Exec ⟨P, callD g, outF b ao k0 (.panicking [{ v, recovered := true }]) :: cs, T, C⟩ (.inRegion ops rest :: k) (applyL (some t) ⟨.d d, [], [], [], []⟩ s).sy) :
    Exec ⟨P, callD g, outF b ao k0 (.panicking [{ v, recovered := false }]) :: cs, T, C⟩ (.inRegion ops (i :: rest) :: k) s.sy := by
  intro a w ⟨E, hE⟩
  have hw : Region.wanted o (yielded ops a.tmps) = true := by unfold Region.wanted; rw [hgd]
  have hg := stepGR_op (P := P) (b := callD g) (k := k) (cs := outF b ao k0 (.panicking [{ v, recovered := false }]) :: cs) (w := w) (a := a) (rest := rest) ho hw
  rw [Oper.semAt_eq _ _ _ (by simp [hop])] at hg
  have hr : (execOp a.eval o).run P w = .ok .recover w := by
    simp [execOp, hop, resolve, invoke, builtin]
  have htr := tryRecover_deferred (fr := (callD g).atR a (.inRegion ops (i :: rest) :: k)) rfl (outF b ao k0 (.panicking [{ v, recovered := false }]) :: cs)
  have hrec : recoverD (outF b ao k0 (.panicking [{ v, recovered := false }]) :: cs) = some (v, outF b ao k0 (.panicking [{ v, recovered := true }]) :: cs) := rfl
  have hfin : ((callD g).atR a (.inRegion ops (i :: rest) :: k)).finish v = (callD g).atR (a.put o.dst v) (.inRegion ops rest :: k) := by
    rw [Frame.finish_atR, ho]; rfl
  obtain ⟨v', h3, h4⟩ := hE.waits (av, Sv) hmem 0 _ hv0
  rw [hav] at h3; cases h3
  obtain ⟨m', h5, h6⟩ := h (a.put o.dst v) w ⟨E, by rw [applyL_sy, ← hd]; exact hE.slot (fun t' e => by rw [hd] at e; cases e; exact htN) (by simpa only [DenV] using h4)⟩
  refine ⟨m', h5, .head (step_lone_go ?_) h6⟩
  rw [hg, ← hfin]
  have hro : (callD g).roundOf = none := rfl
  simp only [Frame.atR, hro] at htr ⊢
  simp only [stepG.apply, Sem.runT_eq, hr, htr, hrec, GStep.bare_after]
  rfl
/-- recover, where nothing panics -/
theorem Exec.recoverNo {g : Nat} {ao : Act} {k0 : List Item} {ops : Array Oper} {i : Nat} {rest : List Nat} {o : Oper} {ts : Array TypeId} {t : Nat}
    (ho : ops[i]? = some o) (hgd : o.guard = none) (hd : o.dst = some t) (htN : t < s.N) (hop : o.op = .call { callee := .builtin .recover, args := #[], argTypes := ts })
    (h : Exec ⟨P, callD g, outF b ao k0 .returning :: cs, T, C⟩ (.inRegion ops rest :: k) (applyL (some t) ⟨.d (.v .nilIface), [], [], [], []⟩ s).sy) :
    Exec ⟨P, callD g, outF b ao k0 .returning :: cs, T, C⟩ (.inRegion ops (i :: rest) :: k) s.sy := by
  intro a w ⟨E, hE⟩
  have hw : Region.wanted o (yielded ops a.tmps) = true := by unfold Region.wanted; rw [hgd]
  have hg := stepGR_op (P := P) (b := callD g) (k := k) (cs := outF b ao k0 .returning :: cs) (w := w) (a := a) (rest := rest) ho hw
  rw [Oper.semAt_eq _ _ _ (by simp [hop])] at hg
  have hr : (execOp a.eval o).run P w = .ok .recover w := by
    simp [execOp, hop, resolve, invoke, builtin]
  have htr := tryRecover_deferred (fr := (callD g).atR a (.inRegion ops (i :: rest) :: k)) rfl (outF b ao k0 .returning :: cs)
  have hrec : recoverD (outF b ao k0 .returning :: cs) = none := rfl
  have hfin : ((callD g).atR a (.inRegion ops (i :: rest) :: k)).finish .nilIface = (callD g).atR (a.put o.dst .nilIface) (.inRegion ops rest :: k) := by
    rw [Frame.finish_atR, ho]; rfl
  obtain ⟨m', h5, h6⟩ := h (a.put o.dst .nilIface) w ⟨E, by rw [applyL_sy, ← hd]; exact hE.slot (fun t' e => by rw [hd] at e; cases e; exact htN) (by simp [DenV, RdV])⟩
  refine ⟨m', h5, .head (step_lone_go ?_) h6⟩
  rw [hg, ← hfin]
  have hro : (callD g).roundOf = none := rfl
  simp only [Frame.atR, hro] at htr ⊢
  simp only [stepG.apply, Sem.runT_eq, hr, htr, hrec, GStep.bare_after]
  rfl
/-- the closure is done; the panic, if there was one, is over -/
theorem Exec.leaveD {g : Nat} {fn : Func} {ao : Act} {So : List (Nat × SV)} {fz : List (Act × List (Nat × SV))} {k0 : List Item} {fm : FrameMode} {N0 : Nat} {ds : List Deferred} (hfn : P.funcs[g]? = some fn) (hres : fn.results.toList = []) (hk : k = [] ∨ ∃ k', k = .code .ret :: k') (hdf : s.df = []) (hfz : s.fz = (ao, So) :: fz) (hao : ao.tmps.size = N0) (haod : ao.defers = ds) (hfm : settle fm = .returning)
    (h : ExecR ⟨P, b, cs, T, C⟩ (Stt.mk N0 ds So s.L s.O fz s.pin).sy) : Exec ⟨P, callD g, outF b ao k0 fm :: cs, T, C⟩ k s.sy := by
  intro a w ⟨E, hE⟩
  have s1 : step P (lone ((callD g).atR a k) (outF b ao k0 fm :: cs) w) = .next (lone { (callD g).atR a k with mode := .returning } (outF b ao k0 fm :: cs) w) := by
    rcases hk with rfl | ⟨k1, rfl⟩
    · exact stepR_end rfl
    · exact stepR_ret rfl
  have hgo : Frame.going P { (callD g).atR a k with mode := .returning } w (.returned (.tuple #[])) := by
    refine ⟨rfl, hE.df.trans hdf, fn, hfn, ?_⟩
    have hm : (fn.results.mapM (rvSem a.tmps)).run P w = .ok #[] w := by
      rw [Array.mapM_eq_mapM_toList, hres]; simp
    show (results fn a.tmps).run P w = _
    rw [results_eq]
    simp only [Sem.run_bind, hm, Result.andThen_ok]
    rfl
  have s2 := step_going_returned (P := P) (c := outF b ao k0 fm) (cs := cs) (fr := { (callD g).atR a k with mode := .returning }) rfl hgo
  have e2 : ({ outF b ao k0 fm with mode := settle (outF b ao k0 fm).mode } : Frame) = outF b ao k0 .returning := by
    simp only [outF, hfm]
  rw [e2] at s2
  obtain ⟨m', h1, h2⟩ := h ao w k0 ⟨E, ⟨hao, haod, fun t sv ht => hE.waits (ao, So) (by simp only [Stt.sy, hfz]; exact List.mem_cons_self) t sv ht, hE.hp, hE.pins, fun p hp => hE.waits p (by simp only [Stt.sy, hfz]; exact List.mem_cons_of_mem _ hp)⟩⟩
  exact ⟨m', h1, .head s1 (.head s2 h2)⟩
end
end Go.Kin
namespace Go.Kin
open Go.RowKit
/-! ### is a value of an interface of a type? -/
theorem ok_assert {P : Program} {C : Ctx} {o : Oper} {s : Sy} {t xt : TypeId} {x : Operand} {d : D} {i : TyI} (ho : o.op = .typeAssert x xt t true) (ht : ∀ t, o.dst = some t → t < s.N) (hx : evalO s.S x = some (.d (.ifc t d))) (hi : TyOk P t i) (hu : ∀ m, i.u ≠ .interface m) : Ok1 P C o s ⟨.d (.tup [d, .v (.bool true)]), [], [], [], []⟩ := by
  refine ok_val (by simp [ho]) ht fun s' E a w hext hE => ?_
  have h := hext.ev hE (x := x) (by simp [ho, Op.operands]) hx
  simp only [DenV, RdV] at h
  obtain ⟨v, e, hv⟩ := h
  refine ⟨.tuple #[v, .bool true], ?_, by simp only [DenV, RdV, RdL]; exact ⟨[v, .bool true], rfl, v, [.bool true], rfl, hv, .bool true, [], rfl, rfl, rfl⟩⟩
  have hun := hi.under (w := w)
  cases hk : i.u with
  | interface m => exact absurd hk (hu m)
  | _ => rw [hk] at hun; simp [execOp, ho, Instr.typeAssert, hun, e]
theorem kassert {P : Program} {C : Ctx} {te : TE} (hte : TEok P te) {ops : Array Oper} {q : Nat} {ds : List (Option Tmp)} {o : Oper} {r : List Oper} {st : Stt} {Q : Sy → Prop} (hg : o.guard = none) (hd : dstOk o st.N = true) {t xt : TypeId} {x : Operand} {d : D} {i : TyI}
    (ho : o.op = .typeAssert x xt t true) (hx : evalL st.S x = some (.d (.ifc t d))) (hi : klook t te = some i) (hu : ∀ m, i.u ≠ .interface m) (h : runL P C te ops (q + 1) (o.dst :: ds) r (applyL o.dst ⟨.d (.tup [d, .v (.bool true)]), [], [], [], []⟩ st) Q) : WalkI P C ops q ds (o :: r) st.sy Q :=
  walkI_step (fun _ _ => ok2_run (ok_assert ho (dstOk_spec hd) ((evalL_eq _ _).symm.trans hx) (hte _ _ hi) hu) (by simp [wantS, hg])) (runL_walk hte h)
/-! ### a slice of the function's own, its rows written otherwise -/
theorem Exec.rowTo {R : Rn} {k : List Item} {s : Stt} (key : Nat) {ow : Ow} (ow' : Ow) (hO : klook key s.O = some ow) (hle : LeOw ow ow') (h : Exec R k (Stt.mk s.N s.df s.S s.L ((key, ow') :: delK key s.O) s.fz s.pin).sy) : Exec R k s.sy := fun a w ⟨E, hE⟩ => by
  have hOO : ∀ key' e, klook key' ((key, ow') :: delK key s.O) = some e → ∃ e', klook key' s.O = some e' ∧ LeOw e' e := fun key' e he => by
    simp only [klook] at he
    by_cases hk : key' = key
    · subst hk; simp at he; subst he; exact ⟨ow, hO, hle⟩
    · rw [if_neg hk, look_delK, if_neg hk] at he
      exact ⟨e, he, rfl, rfl, rfl, .inl rfl, fun _ _ => rfl⟩
  refine h a w ⟨E, hE.sz, hE.df, hE.slots, ⟨hE.hp.bel, hE.hp.z, hE.hp.loc, hE.hp.locN, hE.hp.locD, fun key' e hk => ?_, fun key' e g hk hg => ?_, fun key1 key2 e e' g hk hk' hg hg' => ?_⟩, fun b o hb => ?_, hE.waits⟩
  · obtain ⟨e', h1, h2⟩ := hOO _ _ hk
    exact (hE.hp.own key' e' h1).le h2
  · obtain ⟨e', h1, _⟩ := hOO _ _ hk
    exact hE.hp.ownN key' e' g h1 hg
  · obtain ⟨e1, h1, _⟩ := hOO _ _ hk
    obtain ⟨e2, h2, _⟩ := hOO _ _ hk'
    exact hE.hp.ownD key1 key2 e1 e2 g h1 h2 hg hg'
  · obtain ⟨p1, p2, p3, p4, p5⟩ := hE.pins b o hb
    exact ⟨p1, p2, p3, p4, fun key' e he => let ⟨e', h1, _⟩ := hOO _ _ he; p5 key' e' h1⟩
theorem FnM.weak {I I' : World → Prop} {P : Program} {f : FuncId} {T : TypeId} {cs : List D} {args : List SV} {o : Out} (h : FnM I P f T cs args o) (hi : ∀ w, I' w → I w) : FnM I' P f T cs args o :=
  ⟨h.1, fun w Z b us vs h1 h2 h3 h4 h5 h6 => h.2 w Z b us vs (hi w h1) (fun w' ha => hi _ (h2 w' ha)) h3 h4 h5 h6⟩
/-! ### a call of a function that lends a box and leaves it as it is, under a guard -/
def unl : List (Nat × SV) → List (Nat × SV)
  | [] => []
  | (t, sv) :: r => (t, unop sv) :: unl r
theorem look_unl (t : Nat) : ∀ l : List (Nat × SV), klook t (unl l) = (klook t l).map unop
  | [] => rfl
  | (t', sv) :: r => by
    simp only [unl, klook]
    by_cases h : t = t'
    · simp [h]
    · rw [if_neg h, if_neg h]; exact look_unl t r
theorem allD_map : ∀ {cells : List SV} {ds : List D}, allD cells = some ds → cells = ds.map SV.d
  | [], ds, h => by simp [allD] at h; subst h; rfl
  | sv :: r, ds, h => by
    cases sv with
    | d x =>
      simp only [allD] at h
      cases hr : allD r with
      | none => simp [hr] at h
      | some l => simp [hr] at h; subst h; simp [allD_map hr]
    | _ => simp [allD] at h
section
variable {I : World → Prop} {P : Program} {C : Ctx} {o : Oper}
theorem ok_callMS (hI : ∀ w, BelM C w → I w) {st : Stt} {f : Operand} {args : Array Operand} {ts : Array TypeId} {sv : SV} {svs all : List SV} {g key : Nat} {T : TypeId} {cells : List SV} {ds : List D} {args' : List SV} {res : D} (ho : o.op = .call { callee := .value f, args := args, argTypes := ts })
    (ht : ∀ t, o.dst = some t → t < st.N) (hf : evalL st.S f = some sv) (hargs : argsV st.S args.toList = some svs) (hc : callAll sv svs = some (g, all)) (hl : lendL key all = some args') (hL : klook key st.L = some (T, cells)) (hds : allD cells = some ds) (h : FnM I P g T ds args' (.ret ds res)) :
    Ok1 P C o st.sy ⟨.d res, [], [], [], []⟩ := by
  have h1 := ok_callM hI ho ht hf hargs hc hl hL hds h
  refine ⟨h1.1, fun s' hext a w hs => (h1.2 s' hext a w hs).mono fun u w' hsat => ?_⟩
  have hL' : s'.L key = some (T, ds.map SV.d) := by rw [hext.l key (by rw [show st.sy.L key = _ from hL]; simp), show st.sy.L key = _ from hL, allD_map hds]
  have e : apply o.dst ⟨.d res, [(key, T, ds.map SV.d)], [], [], []⟩ s' = apply o.dst ⟨.d res, [], [], [], []⟩ s' := by
    refine Sy.ext' rfl rfl (fun t => rfl) (fun k => ?_) (fun k => rfl) rfl rfl
    rw [apply0_L rfl rfl, apply0_L rfl rfl]
    simp only [klook]
    by_cases hk : k = key
    · subst hk; simp [hL']
    · simp [hk]
  rw [e] at hsat; exact hsat
theorem kcallMG (key : Nat) {ops : Array Oper} {r : List Oper} {i : Nat} {dl : List (Option Tmp)} {st : Stt} {Q : Sy → Prop} {te : TE} (hI : ∀ w, BelM C w → I w) (hte : TEok P te) {q : Bool} (hw : wantR i dl st.S o = some q) (hd : dstOk o st.N = true) {f : Operand} {args : Array Operand} {ts : Array TypeId} {sv : SV} {svs all : List SV} {g : Nat} {T : TypeId} {cells : List SV} {ds : List D} {args' : List SV} {res : D}
    (ho : o.op = .call { callee := .value f, args := args, argTypes := ts }) (hf : evalL (unl st.S) f = some sv) (hargs : argsV (unl st.S) args.toList = some svs) (hc : callAll sv svs = some (g, all)) (hl : lendL key all = some args') (hL : klook key st.L = some (T, cells)) (hds : allD cells = some ds)
    (hcn : q = true → cndsS st.S (opTmps o.op.operands.toList)) (h : q = true → FnM I P g T ds args' (.ret ds res)) (hr : runL P C te ops (i + 1) (o.dst :: dl) r (applyL o.dst ⟨.op q (.d res), [], [], [], []⟩ st) Q) : WalkI P C ops i dl (o :: r) st.sy Q :=
  walkI_step (fun ops hi => ok2_sym (wantR_spec hi hw) (dstOk_spec hd) (by simp [ho]) (fun hq t sv hm hs => cndsS_spec (hcn hq) t sv (mem_opTmps (by simpa using hm)) hs) fun hq => by
    have h1 := ok_callMS (st := ⟨st.N, st.df, unl st.S, st.L, st.O, st.fz, st.pin⟩) hI ho (dstOk_spec hd) hf hargs hc hl hL hds (h hq)
    have e : (Stt.mk st.N st.df (unl st.S) st.L st.O st.fz st.pin).sy = (⟨st.sy.N, st.sy.df, fun t => (st.sy.S t).map unop, st.sy.L, st.sy.O, st.sy.fz, st.sy.pin⟩ : Sy) :=
      Sy.ext' rfl rfl (fun t => look_unl t st.S) (fun _ => rfl) (fun _ => rfl) rfl rfl
    rw [e] at h1; exact h1) (runL_walk hte hr)
end
end Go.Kin
namespace Go.Proofs.YtonchjamoblioaaGreatDoor
open Go.Kin
set_option maxRecDepth 100000
set_option maxHeartbeats 0
abbrev W135 (x : Ex) (n : Nat) : List (Nat × TypeId × List SV) := [(1002, 3, [.d (iv n)]), (1001, 30, [.d (iv x.k), .d (sv x.s), .d (kdX x)])]
abbrev So135 (x : Ex) : List (Nat × SV) := [(4, .d (.fn 144 [.ptr (exC x)])), (3, .d (exD x)), (2, .lp 1002 0), (1, .lp 1001 0), (0, .d (exD x))]
attribute [go_sem] W135 So135
theorem xsize_ok (x : Ex) (hx : x.size ≤ 1000000) : FnOK Laid Tryz.prog 135 [exD x] (iv x.size) := by
 refine FnOK_of laid_stable Tryz.func135 Tryz.ntmps135 rfl (by as_aux_lemma => kernel_rfl) (Nat.le_of_ble_eq_true rfl) (fun R hR => ?_)
 obtain ⟨_, b, cs, T, C⟩ := R
 obtain rfl : _ = Tryz.prog := hR.p
 refine sreg te_ok ?_
 refine sq ?_
 refine sq ?_
 apply Exec.regionL te_ok
 ·intro o Q hQ
  simp only [go_sem]
  repeat refine ob2 ?_
  refine kcall hR.inv te_ok rfl rfl rfl rfl rfl rfl (parts_ok x) ?_
  simp only [go_sem]
  repeat refine ob2 ?_
  exact hQ
 refine Exec.block ?_
 refine Exec.range 1 hR.round hR.bfn rfl rfl Tryz.func144 Tryz.ntmps144 rfl (by as_aux_lemma => kernel_rfl) (Nat.le_of_ble_eq_true rfl) (fun a0 l0 r0 lo0 hlo0 hN0 hD0 hfr0 hfl0 => ?_)
 have yl : ∀ (y : Ex), ∀ (n : Nat), n ≤ 1000000 → ∀ {b' : Frame} {cs' : List Frame} {k : List Item} {ops : Array Oper} {i m : Nat} {o : Oper} {f : Operand} {args : Array Operand} {ts : Array TypeId} {N d : Nat} {S : List (Nat × SV)} {fz : List (Act × List (Nat × SV))},
   ops[i]? = some o → o.op = .call { callee := .value f, args := args, argTypes := ts } → o.guard = none → evalL S f = some (.d (.v (.func (.yield l0) #[] #[]))) → argsV S args.toList = some [.d (exD y)] → args.size = 1 → (ops[i]?).bind (·.dst) = some d → dstLt (some d) N = true → (a0, So135 x) ∈ fz → ClS S → Cl fz →
   Exec ⟨Tryz.prog, b', cs', T, C⟩ (.inRegion ops (List.range' (i + 1) m) :: k) (Stt.mk N [] ((d, .d (bv true)) :: S) (W135 x (n + 1)) [] fz [(l0, lo0 .ready none), (r0, .deferred (some []))]).sy →
   Exec ⟨Tryz.prog, b', cs', T, C⟩ (.inRegion ops (List.range' i (m + 1)) :: k) (Stt.mk N [] S (W135 x n) [] fz [(l0, lo0 .ready none), (r0, .deferred (some []))]).sy := by
  intro y n hn b' cs' k ops i m o f args ts N d S fz ho hop hgd hf hargs hsz hd hdN hmem hS hF hk1
  refine Exec.yieldD 1 ho hop hgd hf hargs rfl hlo0 hmem hN0 (by simp [hsz]) (fun ag hag hdg => ?_)
  have wn : IntKind.i64.wrap ((n : Int) + 1) = ((n + 1 : Nat) : Int) := by rw [wrap_id (by omega)]; omega
  apply Exec.norm
  ·simp only [go_sem, renS_renS, renF_renF, wn, hS.m4, hF.m4]
   rfl
  refine sk ?_
  refine Exec.begin rfl hlo0 hfl0 ?_
  apply Exec.norm
  ·simp only [go_sem, renS_renS, renF_renF, wn, hS.m4, hF.m4]
   rfl
  refine Exec.block ?_
  apply Exec.regionL te_ok
  ·intro o Q hQ
   simp only [go_sem, renS_renS, renF_renF, wn, hS.m4, hF.m4]
   repeat refine ob2 ?_
   exact hQ
  refine Exec.inBlock ?_
  refine Exec.roundEnd 1 .fall rfl hlo0 hfl0 rfl hag hdg hd hdN rfl ?_
  apply Exec.norm
  ·simp only [go_sem, renS_renS, renF_renF, wn, hS.m4, hF.m4]
   rfl
  exact hk1
 have wk : ∀ (y : Ex), ∀ (n : Nat), n + y.size ≤ 1000000 → ∀ {b' : Frame} {cs' : List Frame} {k : List Item} {ops : Array Oper} {i m : Nat} {o : Oper} {f : Operand} {args : Array Operand} {ts : Array TypeId} {N d : Nat} {S : List (Nat × SV)} {fz : List (Act × List (Nat × SV))},
   ops[i]? = some o → o.op = .call { callee := .value f, args := args, argTypes := ts } → o.guard = none → evalL S f = some (.d (.fn 145 [])) → argsV S args.toList = some [.d (exD y), .d (.v (.func (.yield l0) #[] #[]))] → args.size = 2 → (ops[i]?).bind (·.dst) = some d → dstLt (some d) N = true → (a0, So135 x) ∈ fz → ClS S → Cl fz →
   Exec ⟨Tryz.prog, b', cs', T, C⟩ (.inRegion ops (List.range' (i + 1) m) :: k) (Stt.mk N [] ((d, .d (bv true)) :: S) (W135 x (n + y.size)) [] fz [(l0, lo0 .ready none), (r0, .deferred (some []))]).sy →
   Exec ⟨Tryz.prog, b', cs', T, C⟩ (.inRegion ops (List.range' i (m + 1)) :: k) (Stt.mk N [] S (W135 x n) [] fz [(l0, lo0 .ready none), (r0, .deferred (some []))]).sy := by
  intro y
  refine Ex.ind (p := fun y => ∀ (n : Nat), n + y.size ≤ 1000000 → ∀ {b' : Frame} {cs' : List Frame} {k : List Item} {ops : Array Oper} {i m : Nat} {o : Oper} {f : Operand} {args : Array Operand} {ts : Array TypeId} {N d : Nat} {S : List (Nat × SV)} {fz : List (Act × List (Nat × SV))},
   ops[i]? = some o → o.op = .call { callee := .value f, args := args, argTypes := ts } → o.guard = none → evalL S f = some (.d (.fn 145 [])) → argsV S args.toList = some [.d (exD y), .d (.v (.func (.yield l0) #[] #[]))] → args.size = 2 → (ops[i]?).bind (·.dst) = some d → dstLt (some d) N = true → (a0, So135 x) ∈ fz → ClS S → Cl fz →
   Exec ⟨Tryz.prog, b', cs', T, C⟩ (.inRegion ops (List.range' (i + 1) m) :: k) (Stt.mk N [] ((d, .d (bv true)) :: S) (W135 x (n + y.size)) [] fz [(l0, lo0 .ready none), (r0, .deferred (some []))]).sy →
   Exec ⟨Tryz.prog, b', cs', T, C⟩ (.inRegion ops (List.range' i (m + 1)) :: k) (Stt.mk N [] S (W135 x n) [] fz [(l0, lo0 .ready none), (r0, .deferred (some []))]).sy) (fun y ih => ?_) y
  intro n0 hn b' cs' k ops i m o f args ts N d S fz ho hop hgd hf hargs hsz hd hdN hmem hS hF hK1
  have hys := y.size_eq
  refine Exec.enter ho hop hgd hf rfl hargs Tryz.func145 Tryz.ntmps145 rfl (by as_aux_lemma => kernel_rfl) (Nat.le_of_ble_eq_true rfl) (fun ag hag hdg => ?_)
  apply Exec.norm
  ·simp only [go_sem, hS.m2, hS.m6, hS.f2, hS.f6, hS.le, hF.m2, hF.m6, hF.f2, hF.f6, hF.le]
   rfl
  refine sq ?_
  apply Exec.regionL te_ok
  ·intro o Q hQ
   simp only [go_sem, hS.m2, hS.m6, hS.f2, hS.f6, hS.le, hF.m2, hF.m6, hF.f2, hF.f6, hF.le]
   repeat refine ob2 ?_
   exact hQ
  refine sq ?_
  refine sq ?_
  have hyk : y.kids.length ≤ 1000000 := by have := Ex.len_le y.kids; omega
  refine Exec.freezeB 2 rfl rfl rfl ?_
  apply Exec.norm
  ·simp only [go_sem, hS.f2, hF.f2]
   rfl
  refine Exec.regStart 4 rfl ?_
  apply Exec.regPart 0 2 2 te_ok rfl
  ·intro o Q hQ
   simp only [go_sem, hS.m2, hS.m6, hS.f2, hS.f6, hS.le, hF.m2, hF.m6, hF.f2, hF.f6, hF.le]
   repeat refine ob2 ?_
   exact hQ
  refine yl y n0 (by omega) (m := 1) rfl rfl rfl rfl rfl rfl rfl rfl (List.mem_cons_of_mem _ hmem) (by constructor <;> (intros; first | rfl | simp only [go_sem, hS.m2, hS.m6, hS.f2, hS.f6, hS.le, hF.m2, hF.m6, hF.f2, hF.f6, hF.le])) (Cl.cons hS hF) ?_
  apply Exec.norm
  ·simp only [go_sem, hS.m2, hS.m6, hS.f2, hS.f6, hS.le, hF.m2, hF.m6, hF.f2, hF.f6, hF.le]
   rfl
  apply Exec.regPart 3 1 0 te_ok rfl
  ·intro o Q hQ
   simp only [go_sem, hS.m2, hS.m6, hS.f2, hS.f6, hS.le, hF.m2, hF.m6, hF.f2, hF.f6, hF.le]
   repeat refine ob2 ?_
   exact hQ
  refine Exec.regEnd ?_
  refine Exec.cond (t := false) rfl ?_
  simp only [reduceIte, Bool.false_eq_true]
  refine sk ?_
  refine sq ?_
  refine sq ?_
  have hk := kd_eq y
  apply Exec.regionL te_ok
  ·intro o Q hQ
   simp only [go_sem, hS.m2, hS.m6, hS.f2, hS.f6, hS.le, hF.m2, hF.m6, hF.f2, hF.f6, hF.le, hk]
   repeat refine ob2 ?_
   exact hQ
  refine Exec.block ?_
  apply Exec.loopU [1, 12, 13] (X := Nat × Nat) (fun ⟨i, n⟩ => [(14, .d (iv i))]) (fun ⟨i, n⟩ => [(1002, 3, [.d (iv n)])]) (fun ⟨i, n⟩ => []) (fun ⟨i, n⟩ => y.kids.length - i) (fun ⟨i, n⟩ => i ≤ y.kids.length ∧ n = n0 + 1 + Ex.sizes (y.kids.take i)) (0, n0 + 1)
  case h0 =>
   exact ⟨Nat.zero_le _, by simp [Ex.sizes]⟩
  case hw =>
   simp only [go_sem, hS.m2, hS.m6, hS.f2, hS.f6, hS.le, hF.m2, hF.m6, hF.f2, hF.f6, hF.le]
  case body =>
   rintro ⟨i, n⟩ hx ih0
   try simp only at hx
   apply Exec.norm
   ·simp only [go_sem, hS.m2, hS.m6, hS.f2, hS.f6, hS.le, hF.m2, hF.m6, hF.f2, hF.f6, hF.le]
    rfl
   refine sq ?_
   apply Exec.regionL te_ok
   ·intro o Q hQ
    simp only [go_sem, hS.m2, hS.m6, hS.f2, hS.f6, hS.le, hF.m2, hF.m6, hF.f2, hF.f6, hF.le]
    repeat refine ob2 ?_
    exact hQ
   refine sq ?_
   refine Exec.cond_split rfl (fun h1 => ?_) (fun h1 => ?_)
   ·have hi : i < y.kids.length := by have := of_decide_eq_true h1; omega
    have ha := kdR_at hi
    have w2 : IntKind.i64.wrap ((i : Int) + 1) = ((i + 1 : Nat) : Int) := by rw [wrap_id (by omega)]; omega
    have hss := Ex.sizes_take hi
    have hsl := Ex.sizes_le y.kids (i + 1)
    refine sk ?_
    refine sq ?_
    refine Exec.block ?_
    refine sq ?_
    apply Exec.regionL te_ok
    ·intro o Q hQ
     simp only [go_sem, hS.m2, hS.m6, hS.f2, hS.f6, hS.le, hF.m2, hF.m6, hF.f2, hF.f6, hF.le, ha, w2]
     repeat refine ob2 ?_
     exact hQ
    refine sq ?_
    refine Exec.freezeB 6 rfl rfl rfl ?_
    apply Exec.norm
    ·simp only [go_sem, hS.f6, hF.f6]
     rfl
    refine Exec.regStart 4 rfl ?_
    apply Exec.regPart 0 2 2 te_ok rfl
    ·intro o Q hQ
     simp only [go_sem, hS.m2, hS.m6, hS.f2, hS.f6, hS.le, hF.m2, hF.m6, hF.f2, hF.f6, hF.le, ha, w2]
     repeat refine ob2 ?_
     exact hQ
    refine ih _ (nth_mem hi) n (by omega) (m := 1) rfl rfl rfl rfl rfl rfl rfl rfl (List.mem_cons_of_mem _ hmem) (by constructor <;> (intros; first | rfl | simp only [go_sem, hS.m2, hS.m6, hS.f2, hS.f6, hS.le, hF.m2, hF.m6, hF.f2, hF.f6, hF.le, ha, w2])) (Cl.cons hS hF) ?_
    apply Exec.norm
    ·simp only [go_sem, hS.m2, hS.m6, hS.f2, hS.f6, hS.le, hF.m2, hF.m6, hF.f2, hF.f6, hF.le, ha, w2]
     rfl
    apply Exec.regPart 3 1 0 te_ok rfl
    ·intro o Q hQ
     simp only [go_sem, hS.m2, hS.m6, hS.f2, hS.f6, hS.le, hF.m2, hF.m6, hF.f2, hF.f6, hF.le, ha, w2]
     repeat refine ob2 ?_
     exact hQ
    refine Exec.regEnd ?_
    refine Exec.cond (t := false) rfl ?_
    simp only [reduceIte, Bool.false_eq_true]
    refine sk ?_
    refine Exec.inBlock ?_
    apply Exec.regionL te_ok
    ·intro o Q hQ
     simp only [go_sem, hS.m2, hS.m6, hS.f2, hS.f6, hS.le, hF.m2, hF.m6, hF.f2, hF.f6, hF.le, ha, w2]
     repeat refine ob2 ?_
     exact hQ
    refine Exec.back (ih0 (i + 1, n + (nth y.kids i).size) ?_ ?_) ?_ ?_ ?_ ?_ ?_ ?_ ?_
    ·try simp only
     exact ⟨by omega, by rw [hx.2, Ex.sizes_take hi]; omega⟩
    ·try simp only
     omega
    ·rfl
    ·rfl
    ·(simp only [go_sem, hS.m2, hS.m6, hS.f2, hS.f6, hS.le, hF.m2, hF.m6, hF.f2, hF.f6, hF.le, ha, w2])
    ·(simp only [go_sem, hS.m2, hS.m6, hS.f2, hS.f6, hS.le, hF.m2, hF.m6, hF.f2, hF.f6, hF.le, ha, w2])
    ·(simp only [go_sem, hS.m2, hS.m6, hS.f2, hS.f6, hS.le, hF.m2, hF.m6, hF.f2, hF.f6, hF.le, ha, w2])
    ·simp only [go_sem, hS.m2, hS.m6, hS.f2, hS.f6, hS.le, hF.m2, hF.m6, hF.f2, hF.f6, hF.le, ha, w2]
    ·rfl
   ·refine Exec.exit rfl ?_
    refine sq ?_
    apply Exec.regionL te_ok
    ·intro o Q hQ
     simp only [go_sem, hS.m2, hS.m6, hS.f2, hS.f6, hS.le, hF.m2, hF.m6, hF.f2, hF.f6, hF.le]
     repeat refine ob2 ?_
     exact hQ
    refine Exec.leave te_ok Tryz.func145 rfl rfl rfl (.inr ⟨_, rfl⟩) rfl rfl hag hdg hd hdN ?_
    apply Exec.norm
    ·simp only [go_sem, hS.m2, hS.m6, hS.f2, hS.f6, hS.le, hF.m2, hF.m6, hF.f2, hF.f6, hF.le]
     rfl
    obtain rfl : n = n0 + y.size := by rw [hys, hx.2, List.take_of_length_le (by have := of_decide_eq_false h1; omega)]; omega
    exact hK1
 apply Exec.norm
 ·simp only [go_sem]
  rfl
 refine Exec.regStart 3 rfl ?_
 apply Exec.regPart 0 2 1 te_ok rfl
 ·intro o Q hQ
  simp only [go_sem]
  repeat refine ob2 ?_
  exact hQ
 refine wk x 0 (by omega) (m := 0) rfl rfl rfl rfl rfl rfl rfl rfl List.mem_cons_self (by constructor <;> (intros; first | rfl | simp only [go_sem])) (by constructor <;> (intros; first | rfl | simp only [go_sem])) ?_
 apply Exec.norm
 ·simp only [go_sem]
  rfl
 refine Exec.regEnd ?_
 refine Exec.rangeEnd 1 (pd := none) Tryz.func144 rfl (.inl rfl) rfl rfl hlo0 hfl0 rfl rfl hN0 hD0 ?_
 apply Exec.norm
 ·simp only [go_sem]
  rfl
 refine Exec.inBlock ?_
 refine sreg te_ok ?_
 refine Exec.retsM hR te_ok rfl (.cons hfr0 .nil) rfl (LeX.le ?_) (.inr ⟨_, rfl⟩)
 simp only [go_sem]
end Go.Proofs.YtonchjamoblioaaGreatDoor
namespace Go.Proofs.YtonchjamoblioaaGreatDoor
open Go.Kin
set_option maxRecDepth 100000
set_option maxHeartbeats 0
/-! ### the document's rules, as functions of rows of tokens -/
structure RS where
 n : Nat
 b : Int
 m : Int
abbrev rfC (l : List Tk) (s : RS) : List D := [tksD l, .v (.int .i64 s.n), .v (.int .i64 s.b), .v (.int .i64 s.m)]
section
variable (l : List Tk)
def RS.step (s : RS) : RS := ⟨if s.n + 1 < l.length then s.n + 1 else s.n, s.b, s.m⟩
def RS.fail (s : RS) : RS := ⟨s.n, if s.b < 0 then (nth l s.n).a else s.b, s.m⟩
def RS.much (a : Int) (s : RS) : RS := ⟨s.n, s.b, if (decide (s.m < 0) || decide (a < s.m)) = true then a else s.m⟩
def isR (w : List UInt8) (s : RS) : Bool := decide (s.b < 0) && isP l w ⟨s.n, s.m⟩
def mustR (w : List UInt8) (s : RS) : RS := if isR l w s = true then s.step l else s.fail l
def freeR (s : RS) : Bool := decide (s.b < 0) && nameB l ⟨s.n, s.m⟩
def nameS (s : RS) : RS := if freeR l s = true then s.step l else s.fail l
def nameT (s : RS) : List UInt8 := if freeR l s = true then (nth l s.n).t else []
def vertexS (s : RS) : RS := mustR l [41] (nameS l (mustR l [40] s))
def vertexT (s : RS) : List UInt8 := nameT l (mustR l [40] s)
def toldS (s : RS) : RS := if isR l [46] (nameS l s) = true then nameS l ((nameS l s).step l) else nameS l s
def toldO (s : RS) : Opd := if isR l [46] (nameS l s) = true then ⟨2, nameT l s, nameT l ((nameS l s).step l), 0, 0, []⟩ else ⟨1, nameT l s, [], 0, 0, []⟩
def opdR (s : RS) : Bool := decide (s.b < 0) && opdB l ⟨s.n, s.m⟩
def opdS (s : RS) : RS := if opdR l s = true then s.step l else toldS l s
def opdO (s : RS) : Opd := if opdR l s = true then ⟨3, [], [], (nth l s.n).v.k, (nth l s.n).v.n, (nth l s.n).v.s⟩ else toldO l s
def opz : Opd := ⟨0, [], [], 0, 0, []⟩
def cmpR (a : Opd) (s : RS) : Nat → List (List UInt8) → RS × Cd
 | _, [] => (s.fail l, ⟨0, a, opz⟩)
 | i, w :: r => if isR l w s = true then (opdS l (s.step l), ⟨1 + i, a, opdO l (s.step l)⟩) else cmpR a s (i + 1) r
def condR (s : RS) : RS × Cd := cmpR l (opdO l s) (opdS l s) 0 cmpsW
def numO (s : RS) : Bool := decide (0 ≤ s.b) || !((nth l s.n).k == 2)
def numS (s : RS) : RS := if numO l s = true then s.fail l else (if numB (nth l s.n).v.n = true then s.much (nth l s.n).a else s).step l
def numV (s : RS) : Int := if numO l s = true then 0 else (nth l s.n).v.n
def signR : Nat → RS → Ex → RS × Ex
 | 0, s, x => (s, x)
 | f + 1, s, x => if (isR l [42] s || isR l [43] s || isR l [63] s) = true then signR f (s.step l) (.mk (if isR l [63] s = true then 6 else if isR l [43] s = true then 5 else 4) [] [x]) else (s, x)
def sepR (it : RS → RS × Ex) (w : List UInt8) : Nat → RS → List Ex → RS × List Ex
 | 0, s, acc => (s, acc)
 | f + 1, s, acc => if isR l w s = true then sepR it w f (it (s.step l)).1 (acc ++ [(it (s.step l)).2]) else (s, acc)
def joinR (it : RS → RS × Ex) (w : List UInt8) (k : Int) (s : RS) : RS × Ex := ((sepR l it w (l.length + 1) (it s).1 [(it s).2]).1, oneEx k (sepR l it w (l.length + 1) (it s).1 [(it s).2]).2)
def rowR (it : RS → RS × Ex) : RS → RS × Ex := joinR l it [46] 2
def exprR (it : RS → RS × Ex) : RS → RS × Ex := joinR l (rowR l it) [124] 3
def itemR : Nat → RS → RS × Ex
 | 0, s => (s, .mk 0 [] [])
 | f + 1, s => if isR l [40] s = true then signR l (l.length + 1) (mustR l [41] (exprR l (itemR f) (s.step l)).1) (exprR l (itemR f) (s.step l)).2 else signR l (l.length + 1) (nameS l s) (.mk 1 (nameT l s) [])
def exR (s : RS) : RS × Ex := exprR l (itemR l (l.length + 1)) s
def wholeB (s : RS) : Bool := decide ((exR l s).1.b < 0) && decide (24 < (exR l s).2.size)
def wholeR (s : RS) : RS × Ex := (if wholeB l s = true then (exR l s).1.much (nth l s.n).a else (exR l s).1, (exR l s).2)
def patR (s : RS) : RS × Pt :=
 if isR l [61, 91] (vertexS l s) = true then (vertexS l (mustR l [93, 61, 62] (wholeR l ((vertexS l s).step l)).1), ⟨vertexT l s, vertexT l (mustR l [93, 61, 62] (wholeR l ((vertexS l s).step l)).1), true, [], [], (wholeR l ((vertexS l s).step l)).2⟩)
 else if isR l [97, 115] (nameS l (mustR l [45, 91] (vertexS l s))) = true then
  (vertexS l (mustR l [93, 45, 62] (nameS l ((nameS l (mustR l [45, 91] (vertexS l s))).step l))), ⟨vertexT l s, vertexT l (mustR l [93, 45, 62] (nameS l ((nameS l (mustR l [45, 91] (vertexS l s))).step l))), false, nameT l (mustR l [45, 91] (vertexS l s)), nameT l ((nameS l (mustR l [45, 91] (vertexS l s))).step l), .mk 0 [] []⟩)
 else (vertexS l (mustR l [93, 45, 62] (nameS l (mustR l [45, 91] (vertexS l s)))), ⟨vertexT l s, vertexT l (mustR l [93, 45, 62] (nameS l (mustR l [45, 91] (vertexS l s)))), false, nameT l (mustR l [45, 91] (vertexS l s)), [], .mk 0 [] []⟩)
def manyR {α : Type} (rd : RS → RS × α) (w : List UInt8) (mx : Nat) : Nat → RS → List α → RS × List α
 | 0, s, acc => (s, acc)
 | f + 1, s, acc => if isR l w (if acc.length = mx then (rd s).1.much (nth l s.n).a else (rd s).1) = true then manyR rd w mx f ((if acc.length = mx then (rd s).1.much (nth l s.n).a else (rd s).1).step l) (acc ++ [(rd s).2])
  else (if acc.length = mx then (rd s).1.much (nth l s.n).a else (rd s).1, acc ++ [(rd s).2])
end
section
variable {l : List Tk}
theorem step_lt {s : RS} (h : s.n < l.length) : (s.step l).n < l.length := by unfold RS.step; simp only; split <;> omega
theorem step_ge (s : RS) : s.n ≤ (s.step l).n := by unfold RS.step; simp only; split <;> omega
theorem must_lt {w : List UInt8} {s : RS} (h : s.n < l.length) : (mustR l w s).n < l.length := by unfold mustR; split; exact step_lt h; exact h
theorem must_ge (w : List UInt8) (s : RS) : s.n ≤ (mustR l w s).n := by unfold mustR; split; exact step_ge s; exact Nat.le_refl _
theorem nameS_lt {s : RS} (h : s.n < l.length) : (nameS l s).n < l.length := by unfold nameS; split; exact step_lt h; exact h
theorem nameS_ge (s : RS) : s.n ≤ (nameS l s).n := by unfold nameS; split; exact step_ge s; exact Nat.le_refl _
theorem vertexS_lt {s : RS} (h : s.n < l.length) : (vertexS l s).n < l.length := must_lt (nameS_lt (must_lt h))
theorem vertexS_ge (s : RS) : s.n ≤ (vertexS l s).n := Nat.le_trans (must_ge _ _) (Nat.le_trans (nameS_ge _) (must_ge _ _))
theorem toldS_lt {s : RS} (h : s.n < l.length) : (toldS l s).n < l.length := by unfold toldS; split; exact nameS_lt (step_lt (nameS_lt h)); exact nameS_lt h
theorem toldS_ge (s : RS) : s.n ≤ (toldS l s).n := by unfold toldS; split; exact Nat.le_trans (nameS_ge _) (Nat.le_trans (step_ge _) (nameS_ge _)); exact nameS_ge _
theorem opdS_lt {s : RS} (h : s.n < l.length) : (opdS l s).n < l.length := by unfold opdS; split; exact step_lt h; exact toldS_lt h
theorem opdS_ge (s : RS) : s.n ≤ (opdS l s).n := by unfold opdS; split; exact step_ge _; exact toldS_ge _
theorem isR_k {w : List UInt8} {s : RS} (h : isR l w s = true) : (nth l s.n).k ≠ 5 := by unfold isR at h; rw [Bool.and_eq_true] at h; exact isP_k (s := ⟨s.n, s.m⟩) h.2
theorem isR_step (hk : TkOk l) {w : List UInt8} {s : RS} (hn : s.n < l.length) (h : isR l w s = true) : (s.step l).n = s.n + 1 ∧ s.n + 1 < l.length := by
 have := hk.on _ hn (isR_k h)
 unfold RS.step; simp only; rw [if_pos this]; exact ⟨rfl, this⟩
theorem cmpR_lt {a : Opd} {s : RS} (h : s.n < l.length) : ∀ (r : List (List UInt8)) (i : Nat), (cmpR l a s i r).1.n < l.length
 | [], i => h
 | w :: r, i => by unfold cmpR; split; exact opdS_lt (step_lt h); exact cmpR_lt h r (i + 1)
theorem cmpR_ge {a : Opd} {s : RS} : ∀ (r : List (List UInt8)) (i : Nat), s.n ≤ (cmpR l a s i r).1.n
 | [], i => Nat.le_refl _
 | w :: r, i => by unfold cmpR; split; exact Nat.le_trans (step_ge _) (opdS_ge _); exact cmpR_ge r (i + 1)
theorem condR_lt {s : RS} (h : s.n < l.length) : (condR l s).1.n < l.length := cmpR_lt (opdS_lt h) _ _
theorem condR_ge (s : RS) : s.n ≤ (condR l s).1.n := Nat.le_trans (opdS_ge _) (cmpR_ge _ _)
theorem numS_lt {s : RS} (h : s.n < l.length) : (numS l s).n < l.length := by
 unfold numS; split
 ·exact h
 ·exact step_lt (by split <;> exact h)
theorem signR_lt : ∀ (f : Nat) (s : RS) (x : Ex), s.n < l.length → s.n ≤ (signR l f s x).1.n ∧ (signR l f s x).1.n < l.length
 | 0, s, x, h => ⟨Nat.le_refl _, h⟩
 | f + 1, s, x, h => by
  unfold signR; split
  ·have := signR_lt f (s.step l) (.mk (if isR l [63] s = true then 6 else if isR l [43] s = true then 5 else 4) [] [x]) (step_lt h)
   exact ⟨Nat.le_trans (step_ge s) this.1, this.2⟩
  ·exact ⟨Nat.le_refl _, h⟩
/-- a rule that does not go back -/
def OnR {α : Type} (l : List Tk) (n0 : Nat) (it : RS → RS × α) : Prop := ∀ s, n0 ≤ s.n → s.n < l.length → s.n ≤ (it s).1.n ∧ (it s).1.n < l.length
theorem sepR_on {it : RS → RS × Ex} {w : List UInt8} {n0 : Nat} (hi : OnR l n0 it) : ∀ (f : Nat) (s : RS) (acc : List Ex), n0 ≤ s.n → s.n < l.length → s.n ≤ (sepR l it w f s acc).1.n ∧ (sepR l it w f s acc).1.n < l.length
 | 0, s, acc, _, h => ⟨Nat.le_refl _, h⟩
 | f + 1, s, acc, h0, h => by
  unfold sepR; split
  ·have h1 := step_ge (l := l) s
   have h2 := hi (s.step l) (by omega) (step_lt h)
   have h3 := sepR_on (w := w) hi f (it (s.step l)).1 (acc ++ [(it (s.step l)).2]) (by omega) h2.2
   omega
  ·exact ⟨Nat.le_refl _, h⟩
theorem joinR_on {it : RS → RS × Ex} {w : List UInt8} {k : Int} {n0 : Nat} (hi : OnR l n0 it) : OnR l n0 (joinR l it w k) := fun s h0 h => by
 have h1 := hi s h0 h
 have h2 := sepR_on (w := w) hi (l.length + 1) (it s).1 [(it s).2] (by omega) h1.2
 exact ⟨Nat.le_trans h1.1 h2.1, h2.2⟩
theorem itemR_on : ∀ (f n0 : Nat), OnR l n0 (itemR l f)
 | 0, n0 => fun s _ h => ⟨Nat.le_refl _, h⟩
 | f + 1, n0 => fun s h0 h => by
  unfold itemR; split
  ·have h1 := step_ge (l := l) s
   have h2 := joinR_on (w := [124]) (k := 3) (joinR_on (w := [46]) (k := 2) (itemR_on f n0)) (s.step l) (by omega) (step_lt h)
   have h3 := must_ge (l := l) [41] (exprR l (itemR l f) (s.step l)).1
   have h4 := signR_lt (l := l) (l.length + 1) (mustR l [41] (exprR l (itemR l f) (s.step l)).1) (exprR l (itemR l f) (s.step l)).2 (must_lt h2.2)
   have h5 : (s.step l).n ≤ (exprR l (itemR l f) (s.step l)).1.n := h2.1
   omega
  ·have h3 := nameS_ge (l := l) s
   have h4 := signR_lt (l := l) (l.length + 1) (nameS l s) (.mk 1 (nameT l s) []) (nameS_lt h)
   omega
theorem exR_on (n0 : Nat) : OnR l n0 (exR l) := joinR_on (joinR_on (itemR_on _ n0))
theorem wholeR_on (n0 : Nat) : OnR l n0 (wholeR l) := fun s h0 h => by
 have := exR_on n0 s h0 h
 unfold wholeR; simp only
 split
 ·exact this
 ·exact this
theorem patR_on (n0 : Nat) : OnR l n0 (patR l) := fun s h0 h => by
 have h1 := vertexS_ge (l := l) s
 have h1' := vertexS_lt h
 unfold patR; split
 ·have h2 := step_ge (l := l) (vertexS l s)
  have h3 := wholeR_on n0 ((vertexS l s).step l) (by omega) (step_lt h1')
  have h4 := must_ge (l := l) [93, 61, 62] (wholeR l ((vertexS l s).step l)).1
  have h5 := vertexS_ge (l := l) (mustR l [93, 61, 62] (wholeR l ((vertexS l s).step l)).1)
  exact ⟨by simp only; omega, vertexS_lt (must_lt h3.2)⟩
 ·have h2 := must_ge (l := l) [45, 91] (vertexS l s)
  have h3 := nameS_ge (l := l) (mustR l [45, 91] (vertexS l s))
  have h3' := nameS_lt (must_lt (w := [45, 91]) h1')
  split
  ·have h4 := step_ge (l := l) (nameS l (mustR l [45, 91] (vertexS l s)))
   have h5 := nameS_ge (l := l) ((nameS l (mustR l [45, 91] (vertexS l s))).step l)
   have h6 := must_ge (l := l) [93, 45, 62] (nameS l ((nameS l (mustR l [45, 91] (vertexS l s))).step l))
   have h7 := vertexS_ge (l := l) (mustR l [93, 45, 62] (nameS l ((nameS l (mustR l [45, 91] (vertexS l s))).step l)))
   exact ⟨by simp only; omega, vertexS_lt (must_lt (nameS_lt (step_lt h3')))⟩
  ·have h6 := must_ge (l := l) [93, 45, 62] (nameS l (mustR l [45, 91] (vertexS l s)))
   have h7 := vertexS_ge (l := l) (mustR l [93, 45, 62] (nameS l (mustR l [45, 91] (vertexS l s))))
   exact ⟨by simp only; omega, vertexS_lt (must_lt h3')⟩
end
end Go.Proofs.YtonchjamoblioaaGreatDoor
