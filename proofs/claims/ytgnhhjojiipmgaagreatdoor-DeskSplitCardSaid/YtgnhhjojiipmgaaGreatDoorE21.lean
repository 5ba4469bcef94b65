/- Steps of a function body on data, and contracts of the functions of the seat, walked. -/
import Derived.Test.YtgnhhjojiipmgaaGreatDoorE24
import Derived.RangeFuncLeaves
import Derived.Recover
set_option linter.unusedSimpArgs false
set_option linter.unusedVariables false
set_option linter.unusedSectionVars false
namespace Go.Cev
open Go.RowKit
/-! ### the machine does what the evaluator does -/
section
variable {P : Program} {H : Nat} {w0 : World} {kn : Kn}
/-- a deferred call of a frame that returns, or a plain call -/
def RecOk (kind : CallKind) (cs : List Frame) : Prop := kind = .normal ∨ (kind = .deferred ∧ ∃ c k, cs = c :: k ∧ c.mode = .returning)
def RdR (ω : Om) (rd ro : Option Nat) : Prop := match rd, ro with
  | none, none => True
  | some l, some l' => ω l = some (l', 0)
  | _, _ => False
theorem RdR.mono {ω ω' : Om} (hω : Om.Le ω ω') {rd ro : Option Nat} (h : RdR ω rd ro) : RdR ω' rd ro := by
  cases rd <;> cases ro <;> first | exact h | exact hω.to _ _ h
def CallOk (P : Program) (H : Nat) (w0 : World) (f : FuncId → List Value → M Value) : Prop := ∀ g args W v W', f g args W = some (v, W') → ∀ ω w args', WR H w0 ω W w → VRs ω args args' → ∀ kind cs, RecOk kind cs →
  ∃ ω' v' w' fr, Gr ω W ω' W' ∧ WR H w0 ω' W' w' ∧ VR ω' v v' ∧ Steps P (lone (Frame.enter P g args'.toArray kind) cs w) (lone fr cs w') ∧ Out P g kind fr v' w'
def Arr (P : Program) (m : Machine) (b : Frame) (k : List Item) (cs : List Frame) : Ex → Act → World → Prop
  | .nor, a, w => Steps P m (lone (b.atR a k) cs w)
  | .exit id, a, w => ∃ k', exitTo id k' = exitTo id k ∧ Steps P m (lone (b.atR a (.code (.exit id) :: k')) cs w)
  | .ret, a, w => ∃ k', Steps P m (lone (b.atR a (.code .ret :: k')) cs w)
theorem Arr.of_steps {m m1 : Machine} {b : Frame} {k : List Item} {cs : List Frame} {e : Ex} {a : Act} {w : World} (h : Steps P m m1) (h' : Arr P m1 b k cs e a w) : Arr P m b k cs e a w := by
  cases e with
  | nor => exact h.trans h'
  | exit id => obtain ⟨k', h1, h2⟩ := h'; exact ⟨k', h1, h.trans h2⟩
  | ret => obtain ⟨k', h2⟩ := h'; exact ⟨k', h.trans h2⟩
/-- of an item that no exit looks at -/
theorem Arr.pass {m : Machine} {b : Frame} {x : Item} {k : List Item} {cs : List Frame} {e : Ex} {a : Act} {w : World} (hx : x.plain = true) (he : e ≠ .nor) (h : Arr P m b (x :: k) cs e a w) : Arr P m b k cs e a w := by
  cases e with
  | nor => exact absurd rfl he
  | exit id =>
    obtain ⟨k', h1, h2⟩ := h
    refine ⟨k', h1.trans ?_, h2⟩
    cases x <;> first | rfl | cases hx
  | ret => exact h
structure Fit (cx : Cx) (b : Frame) (cs : List Frame) (ω : Om) : Prop where
  fn : b.fn = cx.fn
  rd : RdR ω cx.rd b.roundOf
  rcv : RecOk b.kind cs
  nrm : b.roundOf ≠ none → b.kind = .normal
theorem Fit.mono {cx : Cx} {b : Frame} {cs : List Frame} {ω ω' : Om} (hω : Om.Le ω ω') (h : Fit cx b cs ω) : Fit cx b cs ω' := ⟨h.fn, h.rd.mono hω, h.rcv, h.nrm⟩
/-- from a state of code to its end -/
def Goes (P : Program) (H : Nat) (w0 : World) (cx : Cx) (items : List Item → List Item) (rg : PT Value) (df : List Deferred) (W : AW) (e : Ex) (rg' : PT Value) (df' : List Deferred) (W' : AW) : Prop :=
  ∀ ω w a, WR H w0 ω W w → RegR ω rg cx.n a.tmps → DRs ω df a.defers → ∀ b cs k, Fit cx b cs ω → ∃ ω' w' a', Gr ω W ω' W' ∧ WR H w0 ω' W' w' ∧ RegR ω' rg' cx.n a'.tmps ∧ DRs ω' df' a'.defers ∧ Arr P (lone (b.atR a (items k)) cs w) b k cs e a' w'
def CodeOk (P : Program) (H : Nat) (w0 : World) (f : Cx → Code → PT Value → List Deferred → M (Ex × PT Value × List Deferred)) : Prop := ∀ cx c rg df W e rg' df' W', f cx c rg df W = some ((e, rg', df'), W') → Goes P H w0 cx (fun k => .code c :: k) rg df W e rg' df' W'
def LoopOk (P : Program) (H : Nat) (w0 : World) (f : Cx → Code → PT Value → List Deferred → M (Ex × PT Value × List Deferred)) : Prop := ∀ cx c rg df W e rg' df' W', f cx c rg df W = some ((e, rg', df'), W') → Goes P H w0 cx (fun k => .code c :: .inLoop c :: k) rg df W e rg' df' W'
/-- deferred calls of a frame that returns -/
def DfrOk (P : Program) (H : Nat) (w0 : World) (f : List Deferred → M Unit) : Prop := ∀ ds W W', f ds W = some ((), W') → ∀ ω w fr cs, WR H w0 ω W w → DRs ω ds fr.defers → fr.mode = .returning →
  ∃ ω' w', Gr ω W ω' W' ∧ WR H w0 ω' W' w' ∧ Steps P (lone fr cs w) (lone { fr with defers := [] } cs w')
structure RcOk (P : Program) (H : Nat) (w0 : World) (rc : Rc) : Prop where
  code : CodeOk P H w0 rc.code
  loop : LoopOk P H w0 rc.loop
  call : CallOk P H w0 rc.call
  dfr : DfrOk P H w0 rc.dfr
/-! #### one operation -/
theorem RegR.putD {ω : Om} {rg rg' : PT Value} {n : Nat} {a : Act} {d : Option Tmp} {v v' : Value} (h : RegR ω rg n a.tmps) (hp : putD n d v rg = some rg') (hv : VR ω v v') : RegR ω rg' n (a.put d v').tmps := by
  unfold Cev.putD at hp
  cases d with
  | none => cases hp; exact h
  | some t =>
    simp only at hp
    cases hc : Nat.blt t n with
    | false => rw [hc] at hp; cases hp
    | true => rw [hc] at hp; cases hp; exact h.set (by simpa [Nat.blt_eq] using hc) hv
def bool? : Option Value → Option Bool
  | some (.bool b) => some b
  | _ => none
theorem VR.undefL {ω : Om} {v : Value} (h : VR ω undef v) : v = undef := by
  have : ∀ u, VR ω u v → u = undef → v = undef := fun u h hu => by
    cases h <;> first | (cases hu; done) | skip
    rename_i cs cs' hcs
    have : cs.toArray = #[] := by simpa [undef] using hu
    have : cs = [] := by simpa using this
    subst this
    cases hcs; rfl
  exact this _ h rfl
theorem VR.undefR {ω : Om} {v : Value} (h : VR ω v undef) : v = undef := by
  have : ∀ u, VR ω v u → u = undef → v = undef := fun u h hu => by
    cases h <;> first | (cases hu; done) | skip
    rename_i cs cs' hcs
    have : cs'.toArray = #[] := by simpa [undef] using hu
    have : cs' = [] := by simpa using this
    subst this
    cases hcs; rfl
  exact this _ h rfl
theorem want_ok {ω : Om} {rg : PT Value} {ops : Array Oper} {o : Oper} {tm : Array Value} (h : ∀ j want, o.guard = some (j, want) → ∀ oj t, ops[j]? = some oj → oj.dst = some t → VR ω ((rg.get t).getD undef) (tm.getD t undef)) : Region.wanted o (yielded ops tm) = wantA ops.toList o rg := by
  unfold Region.wanted wantA
  cases hg : o.guard with
  | none => rfl
  | some g =>
    obtain ⟨j, want⟩ := g
    simp only
    rw [nth_eq]
    cases hj : ops.toList[j]? with
    | none =>
      have : ops[j]? = none := by simpa using hj
      simp [yielded, this]
    | some oj =>
      have hj' : ops[j]? = some oj := by simpa using hj
      simp only
      cases hd : oj.dst with
      | none => simp [yielded, hj', hd]
      | some t =>
        simp only
        have hv := h j want hg oj t hj' hd
        have hy : yielded ops tm j = bool? (tm[t]?) := by
          simp only [yielded, hj', hd, Option.bind_some]
          cases tm[t]? with
          | none => rfl
          | some x => cases x <;> rfl
        rw [hy]
        have hgd : tm.getD t undef = (tm[t]?).getD undef := by rw [Array.getD_eq_getD_getElem?]
        rw [hgd] at hv
        cases hr : rg.get t with
        | none =>
          rw [hr] at hv
          have hv := hv.undefL
          cases ht : tm[t]? with
          | none => rfl
          | some x =>
            rw [ht] at hv
            have hv : x = undef := hv
            subst hv; rfl
        | some x =>
          rw [hr] at hv
          cases ht : tm[t]? with
          | none =>
            rw [ht] at hv
            have hv : x = undef := hv.undefR
            subst hv; rfl
          | some y =>
            rw [ht] at hv
            have hv : VR ω x y := hv
            cases hv <;> first | rfl | (cases want <;> rename_i b <;> cases b <;> rfl)
/-! #### a round -/
theorem run_getObj {w : World} {r : Nat} {o : Obj} (h : w.heap[r]? = some o) (hn : ∀ c e f, o ≠ .cells c e f) : (Go.getObj r).run P w = .ok o w := by
  unfold Go.getObj Sem.run
  rw [h]
  cases o with
  | cells c e f => exact absurd rfl (hn c e f)
  | _ => rfl
/-- a loop's record, as it is, and as it is put -/
theorem loop_at {ω : Om} {W W1 : AW} {w : World} (hw : WR H w0 ω W w) {l l' : Nat} (hl : ω l = some (l', 0)) {o : AO} (h : gt l W = some (o, W1)) {st : LoopState} {pd : Option Code} {fn : FuncId} {rg : PT Value} {n : Nat} {ps : Array Tmp} {as bo : Code} {d : Nat} (ho : o = .loop st pd fn rg n ps as bo d) :
    W1 = W ∧ ∃ tm d', w.heap[l']? = some (.loop ⟨st, pd, fn, tm, ps, as, bo, d'⟩) ∧ RegR ω rg n tm ∧ ω d = some (d', 0) := by
  obtain ⟨o1, o', q1, q2, q3⟩ := hw.obj _ _ _ hl
  unfold gt at h
  simp only [q1] at h
  cases hob : o1.obj with
  | false => rw [hob] at h; cases h
  | true =>
    rw [hob] at h; cases h
    subst ho
    cases q3 with
    | loop st pd fn hreg ps as bo hd => exact ⟨rfl, _, _, q2, hreg, hd⟩
theorem st_ok {ω : Om} {W W1 : AW} {w : World} (hw : WR H w0 ω W w) {l l' : Nat} (hl : ω l = some (l', 0)) {o : AO} {o' : Obj} {u : Unit} (h : st l o W = some (u, W1)) (ho : ∀ rm, OR ω rm 0 o o') : Gr ω W ω W1 ∧ ∃ w', (Go.setObj l' o').run P w = .ok () w' ∧ WR H w0 ω W1 w' := by
  have := Sim.setObj (P := P) (H := H) (w0 := w0) (f := fun u => M.ret u) (k := Sem.pure ()) (R := fun ω' _ _ => ω' = ω) hl ho (Sim.ret rfl)
  obtain ⟨ω', u', w', g1, g2, g3, rfl⟩ := this W w hw u W1 (by unfold M.bd; rw [h]; rfl)
  exact ⟨g1, w', g2, g3⟩
theorem round_ok {rc : Rc} (hr : RcOk P H w0 rc) {l : Nat} {f : FuncId} {rg : PT Value} {n : Nat} {assign body : Code} {W W' : AW} {v : Value} (h : roundA rc l f rg n assign body W = some (v, W')) {ω : Om} {w : World} {l' : Nat} {ts : Array Value} (hw : WR H w0 ω W w) (hl : ω l = some (l', 0)) (hreg : RegR ω rg n ts) (c : Frame) (cs : List Frame) :
    ∃ ω' v' w', Gr ω W ω' W' ∧ WR H w0 ω' W' w' ∧ VR ω' v v' ∧ Steps P (lone (Frame.round l' f ts assign body .normal) (c :: cs) w) (lone (c.finish v') cs w') := by
  unfold roundA at h
  obtain ⟨x, W1, h1, h2⟩ := bd_some h; clear h
  split at h2
  · rename_i rg1
    obtain ⟨o, W2, h3, h4⟩ := bd_some h2; clear h2
    split at h4
    · rename_i pd fn rg0 n0 ps as bo d
      obtain ⟨u, W3, h5, h6⟩ := bd_some h4; clear h4
      obtain ⟨y, W4, h7, h8⟩ := bd_some h6; clear h6
      split at h8
      · rename_i e rg2
        let b : Frame := { (default : Frame) with fn := f, kind := .normal, roundOf := some l' }
        have hb0 : Frame.round l' f ts assign body .normal = b.atR { tmps := ts, defers := [] } [.code assign, .beginRound, .code body] := by simp [Frame.round, Frame.atR, b]
        rw [hb0]
        have hfit : ∀ {ω1 : Om}, Om.Le ω ω1 → Fit ⟨f, n, some l⟩ b (c :: cs) ω1 := fun hle => ⟨rfl, hle.to _ _ hl, .inl rfl, fun _ => rfl⟩
        obtain ⟨ω1, w1, a1, g1, g2, g3, g4, g5⟩ := hr.code _ _ _ _ _ _ _ _ _ h1 ω w { tmps := ts, defers := [] } hw hreg .nil b (c :: cs) [.beginRound, .code body] (hfit (Om.Le.refl ω))
        have hl1 := g1.le.to _ _ hl
        obtain ⟨hW2, tm, d', k1, k2, k3⟩ := loop_at g2 hl1 h3 rfl
        rw [hW2] at h5
        obtain ⟨s1, w2, s2, s3⟩ := st_ok (P := P) g2 hl1 h5 (fun rm => .loop .busy pd fn k2 ps as bo k3)
        have hbr : (Instr.beginRound l').run P w1 = .ok () w2 := by
          simp only [Instr.beginRound, Instr.getLoop, bind, Sem.run_bind' P, run_getObj (P := P) k1 (fun _ _ _ e => by cases e), Result.andThen, pure, Sem.run]
          rw [s2]
        have st1 : Steps P (lone (b.atR { tmps := ts, defers := [] } [.code assign, .beginRound, .code body]) (c :: cs) w) (lone (b.atR a1 [.code body]) (c :: cs) w2) := Steps.trans g5 (.one (stepR_beginRound rfl hbr))
        obtain ⟨ω2, w3, a2, f1, f2, f3, f4, f5⟩ := hr.code _ _ _ _ _ _ _ _ _ h7 ω1 w2 a1 s3 g3 g4 b (c :: cs) [] (hfit g1.le)
        have hl2 := f1.le.to _ _ hl1
        obtain ⟨o2, W5, h9, h10⟩ := bd_some h8; clear h8
        have hG : Gr ω W ω2 W4 := g1.trans (s1.trans f1)
        split at h10
        · rename_i st' pd' fn' rg0' n0' ps' as' bo' d2
          obtain ⟨hW5, tm2, d2', m1, m2, m3⟩ := loop_at f2 hl2 h9 rfl
          rw [hW5] at h10
          have hend : ∀ (jump : Option Code) (w4 : World), (Go.setObj l' (.loop ⟨(if jump.isNone then .ready else .done), jump, fn', tm2, ps', as', bo', d2'⟩)).run P w3 = .ok () w4 → (Instr.endRound l' jump).run P w3 = .ok (.bool jump.isNone) w4 := fun jump w4 hj => by
            simp only [Instr.endRound, Instr.getLoop, bind, Sem.run_bind' P, run_getObj (P := P) m1 (fun _ _ _ e => by cases e), Result.andThen, pure, Sem.run]
            rw [hj]
          cases e with
          | nor =>
            obtain ⟨u2, W6, z1, z2⟩ := bd_some h10
            cases z2
            obtain ⟨t1, w4, t2, t3⟩ := st_ok (P := P) f2 hl2 z1 (fun rm => .loop .ready none fn' m2 ps' as' bo' m3)
            exact ⟨ω2, .bool true, w4, hG.trans t1, t3, .bool true, st1.trans (Steps.trans f5 (.one (stepR_round_end rfl rfl (hend none w4 t2))))⟩
          | exit id =>
            obtain ⟨u2, W6, z1, z2⟩ := bd_some h10
            cases z2
            obtain ⟨t1, w4, t2, t3⟩ := st_ok (P := P) f2 hl2 z1 (fun rm => .loop .done (some (.exit id)) fn' m2 ps' as' bo' m3)
            obtain ⟨k', x1, x2⟩ := f5
            exact ⟨ω2, .bool false, w4, hG.trans t1, t3, .bool false, st1.trans (Steps.trans x2 (.one (stepR_round_exit rfl rfl (by rw [x1]; rfl) (hend (some (.exit id)) w4 t2))))⟩
          | ret =>
            obtain ⟨u2, W6, z1, z2⟩ := bd_some h10
            cases z2
            obtain ⟨t1, w4, t2, t3⟩ := st_ok (P := P) f2 hl2 z1 (fun rm => .loop .done (some .ret) fn' m2 ps' as' bo' m3)
            obtain ⟨k', x2⟩ := f5
            exact ⟨ω2, .bool false, w4, hG.trans t1, t3, .bool false, st1.trans (Steps.trans x2 (.one (stepR_round_ret rfl rfl (hend (some .ret) w4 t2))))⟩
        · cases h10
      · cases h8
    · cases h4
  · cases h2
end
end Go.Cev
namespace Go.Cev
open Go.RowKit
section
variable {P : Program} {H : Nat} {w0 : World} {kn : Kn} {rc : Rc}
theorem opA_defer {rg : PT Value} {o : Oper} {c : Call} (ho : o.op = .defer c) {x : Nx} {W W' : AW} (h : opA kn rg o W = some (x, W')) : ∃ d, x = .dfr d := by
  unfold opA at h
  rw [ho] at h
  simp only at h
  unfold deferA at h
  cases hc : c.callee with
  | value f =>
    rw [hc] at h
    simp only at h
    obtain ⟨v, W1, h1, h2⟩ := bd_some h
    obtain ⟨vs, W2, h3, h4⟩ := bd_some h2
    cases v <;> try (cases h4; done)
    rename_i fn fs cs
    cases fn <;> first | (cases h4; exact ⟨_, rfl⟩) | (cases h4; done)
  | invoke r m => rw [hc] at h; cases h
  | builtin b => rw [hc] at h; cases h
theorem evOp_ok (hk : KnOk P H w0 kn) (hr : RcOk P H w0 rc) {cx : Cx} {o : Oper} {rg : PT Value} {df df' : List Deferred} {W W' : AW} {v : Value} (h : evOp kn rc cx o rg df W = some ((v, df'), W')) {ω : Om} {w : World} {a : Act} (hw : WR H w0 ω W w) (hρ : OpdR ω rg a.eval o.op.operands) (hdf : DRs ω df a.defers) {b : Frame} {cs : List Frame} (hfit : Fit cx b cs ω)
    {ops : Array Oper} {i : Nat} (ho : ops[i]? = some o) (hwant : Region.wanted o (yielded ops a.tmps) = true) (rest : List Nat) (k : List Item) :
    ∃ ω' v' w' ds', Gr ω W ω' W' ∧ WR H w0 ω' W' w' ∧ VR ω' v v' ∧ DRs ω' df' ds' ∧ Steps P (lone (b.atR a (.inRegion ops (i :: rest) :: k)) cs w) (lone (b.atR ({ a with defers := ds' }.put o.dst v') (.inRegion ops rest :: k)) cs w') := by
  unfold evOp at h
  obtain ⟨x, W1, h1, h2⟩ := bd_some h; clear h
  obtain ⟨ω1, nx, w1, g1, g2, g3, g4⟩ := sim_op (P := P) hk hρ W w hw x W1 h1
  have hg := stepGR_op (P := P) (b := b) (k := k) (cs := cs) (w := w) (rest := rest) ho hwant
  have hfin : ∀ u, (b.atR a (.inRegion ops (i :: rest) :: k)).finish u = b.atR (a.put o.dst u) (.inRegion ops rest :: k) := by
    intro u; rw [Frame.finish_atR, ho]; rfl
  have hself : { a with defers := a.defers } = a := rfl
  have hnd : (∀ d, x ≠ .dfr d) → ∀ c, o.op ≠ .defer c := fun hx c hc => by
    obtain ⟨d, hd⟩ := opA_defer hc h1
    exact hx d hd
  cases g4 with
  | @value u u' hu =>
    cases h2
    rw [Oper.semAt_eq _ _ _ (hnd fun d e => by cases e)] at hg
    refine ⟨ω1, u', w1, a.defers, g1, g3, hu, hdf.mono g1.le, .one (step_lone_go ?_)⟩
    rw [hg, hself, ← hfin]; simp [stepG.apply, g2]
  | skip =>
    cases h2
    rw [Oper.semAt_eq _ _ _ (hnd fun d e => by cases e)] at hg
    refine ⟨ω1, undef, w1, a.defers, g1, g3, .tuple .nil, hdf.mono g1.le, .one (step_lone_go ?_)⟩
    rw [hg, hself, ← hfin]; simp [stepG.apply, g2]
  | @dfr d d' hd =>
    simp only [nxA] at h2
    have hrd : cx.rd = none := by
      cases hc : cx.rd with
      | none => rfl
      | some l => rw [hc] at h2; cases h2
    rw [hrd] at h2
    cases h2
    have hro : b.roundOf = none := by
      have := hfit.rd
      rw [hrd] at this
      cases hb : b.roundOf with
      | none => rfl
      | some l => rw [hb] at this; exact this.elim
    rw [hro, Oper.semAt_none] at hg
    refine ⟨ω1, undef, w1, d' :: a.defers, g1, g3, .tuple .nil, .cons hd (hdf.mono g1.le), .one (step_lone_go ?_)⟩
    have hthis : ({ b.atR a (.inRegion ops (i :: rest) :: k) with defers := d' :: a.defers } : Frame).finish undef = b.atR ({ a with defers := d' :: a.defers }.put o.dst undef) (.inRegion ops rest :: k) := by
      have := Frame.finish_atR b { a with defers := d' :: a.defers } ops i rest k undef
      rw [ho] at this; exact this
    rw [hg]
    simp only [stepG.apply, Sem.runT_eq, g2, GStep.bare_after]
    exact congrArg (fun fr => GStep.go { frame := fr, callers := cs, status := .running, dying := none } w1) hthis
  | @ent g as as' ha =>
    obtain ⟨u, W2, h3, h4⟩ := bd_some h2
    cases h4
    rw [Oper.semAt_eq _ _ _ (hnd fun d e => by cases e)] at hg
    have hcall : ∃ ω2 u' w2 fr, Gr ω1 W1 ω2 W' ∧ WR H w0 ω2 W' w2 ∧ VR ω2 v u' ∧ Steps P (lone (Frame.enter P g as'.toArray .normal) (b.atR a (.inRegion ops (i :: rest) :: k) :: cs) w1) (lone fr (b.atR a (.inRegion ops (i :: rest) :: k) :: cs) w2) ∧ Out P g .normal fr u' w2 := by
      cases hlb : kn.lb g with
      | some m => rw [hlb] at h3; exact hk.lb g m hlb _ _ _ _ h3 ω1 w1 as' g3 ha _
      | none => rw [hlb] at h3; exact hr.call _ _ _ _ _ h3 ω1 w1 as' g3 ha .normal _ (.inl rfl)
    obtain ⟨ω2, u', w2, fr, f1, f2, f3, f4, f5, f6, f7, f8, fn, f9, f10⟩ := hcall
    refine ⟨ω2, u', w2, a.defers, g1.trans f1, f2, f3, hdf.mono (g1.trans f1).le, .head (m₁ := lone (Frame.enter P g as'.toArray .normal) (b.atR a (.inRegion ops (i :: rest) :: k) :: cs) w1) (step_lone_go (by rw [hg]; simp [stepG.apply, g2, Frame.atR])) (Steps.trans f4 (.one ?_))⟩
    rw [hself, ← hfin]
    exact step_leave_returned ⟨f5, f6, f7, fn, by rw [f8]; exact f9, f10⟩
  | @rnd l l' hl f rg' n ts hreg assign body =>
    obtain ⟨u, W2, h3, h4⟩ := bd_some h2
    cases h4
    rw [Oper.semAt_eq _ _ _ (hnd fun d e => by cases e)] at hg
    obtain ⟨ω2, u', w2, f1, f2, f3, f4⟩ := round_ok hr h3 g3 hl hreg (b.atR a (.inRegion ops (i :: rest) :: k)) cs
    refine ⟨ω2, u', w2, a.defers, g1.trans f1, f2, f3, hdf.mono (g1.trans f1).le, .head (m₁ := lone (Frame.round l' f ts assign body .normal) (b.atR a (.inRegion ops (i :: rest) :: k) :: cs) w1) (step_lone_go (by rw [hg]; simp [stepG.apply, g2, Frame.atR])) ?_⟩
    rw [hself, ← hfin]; exact f4
  | rcv =>
    simp only [nxA] at h2
    have hrd : cx.rd = none := by
      cases hc : cx.rd with
      | none => rfl
      | some l => rw [hc] at h2; cases h2
    rw [hrd] at h2
    cases h2
    have hro : b.roundOf = none := by
      have := hfit.rd
      rw [hrd] at this
      cases hb : b.roundOf with
      | none => rfl
      | some l => rw [hb] at this; exact this.elim
    rw [hro, Oper.semAt_none] at hg
    have htry : tryRecover (b.atR a (.inRegion ops (i :: rest) :: k)) cs = none := by
      rcases hfit.rcv with hn | ⟨hd, c, k', rfl, hc⟩
      · have : (b.atR a (.inRegion ops (i :: rest) :: k)).kind = .normal := hn
        unfold tryRecover
        rw [this]
      · rw [tryRecover_deferred (show (b.atR a (.inRegion ops (i :: rest) :: k)).kind = .deferred from hd)]
        simp [recoverD, hc]
    refine ⟨ω1, .nilIface, w1, a.defers, g1, g3, .nilIface, hdf.mono g1.le, .one (step_lone_go ?_)⟩
    rw [hg, hself, ← hfin]
    have hro2 : (b.atR a (.inRegion ops (i :: rest) :: k)).roundOf = none := hro
    simp [stepG.apply, g2, hro2, htry]
/-- an operation that is not wanted -/
theorem skip_ok {ops : Array Oper} {i : Nat} {o : Oper} {a : Act} {b : Frame} {cs : List Frame} {w : World} (ho : ops[i]? = some o) (hwant : Region.wanted o (yielded ops a.tmps) = false) (rest : List Nat) (k : List Item) :
    Steps P (lone (b.atR a (.inRegion ops (i :: rest) :: k)) cs w) (lone (b.atR (a.put o.dst undef) (.inRegion ops rest :: k)) cs w) := by
  have := stepR_op_skip (P := P) (b := b) (a := a) (k := k) (cs := cs) (w := w) (ops := ops) (i := i) (rest := rest) (by simp [ho, hwant])
  rw [ho] at this
  exact .one this
theorem put_defers (a : Act) (d : Option Tmp) (v : Value) : (a.put d v).defers = a.defers := by cases d <;> rfl
/-- operations in order -/
theorem evSeq_ok (hk : KnOk P H w0 kn) (hr : RcOk P H w0 rc) {cx : Cx} {ops : Array Oper} {b : Frame} {cs : List Frame} {k : List Item} : ∀ (l : List Oper) (i : Nat) {rg rg' : PT Value} {df df' : List Deferred} {W W' : AW} {ω : Om} {w : World} {a : Act}, (∀ j, l[j]? = ops[i + j]?) → evSeq kn rc cx ops.toList l rg df W = some ((rg', df'), W') → WR H w0 ω W w → RegR ω rg cx.n a.tmps → DRs ω df a.defers → Fit cx b cs ω →
    ∃ ω' w' a', Gr ω W ω' W' ∧ WR H w0 ω' W' w' ∧ RegR ω' rg' cx.n a'.tmps ∧ DRs ω' df' a'.defers ∧ Steps P (lone (b.atR a (.inRegion ops (List.range' i l.length) :: k)) cs w) (lone (b.atR a' k) cs w')
  | [], i, rg, rg', df, df', W, W', ω, w, a, _, h, hw, hreg, hdf, hfit => by
    cases h
    exact ⟨ω, w, a, Gr.refl ω _, hw, hreg, hdf, .one stepR_region_end⟩
  | o :: l, i, rg, rg', df, df', W, W', ω, w, a, hl, h, hw, hreg, hdf, hfit => by
    unfold evSeq at h
    obtain ⟨x, W1, h1, h2⟩ := bd_some h; clear h
    obtain ⟨rg1, W2, h3, h4⟩ := bd_some h2; clear h2
    obtain ⟨h3p, hW2⟩ := optS h3
    rw [hW2] at h4
    have ho : ops[i]? = some o := by simpa using (hl 0).symm
    have hl' : ∀ j, l[j]? = ops[i + 1 + j]? := fun j => by
      have := hl (j + 1)
      rw [List.getElem?_cons_succ] at this
      rw [this]; congr 1; omega
    have hwt := want_ok (ω := ω) (rg := rg) (ops := ops) (o := o) (tm := a.tmps) fun j want _ oj t _ _ => hreg.at_ t
    simp only [List.length_cons, List.range'_succ]
    cases hc : wantA ops.toList o rg with
    | true =>
      rw [hc] at h1 hwt
      obtain ⟨ω1, v', w1, ds', g1, g2, g3, g4, g5⟩ := evOp_ok hk hr h1 hw (hreg.opd _) hdf hfit ho hwt (List.range' (i + 1) l.length) k
      have hreg1 := (hreg.mono g1.le).putD (a := { a with defers := ds' }) h3p g3
      obtain ⟨ω2, w2, a2, f1, f2, f3, f4, f5⟩ := evSeq_ok hk hr l (i + 1) hl' h4 g2 hreg1 (by rw [put_defers]; exact g4) (hfit.mono g1.le)
      exact ⟨ω2, w2, a2, g1.trans f1, f2, f3, f4, g5.trans f5⟩
    | false =>
      rw [hc] at h1 hwt
      cases h1
      have hreg1 := hreg.putD (a := a) h3p (v' := undef) (.tuple .nil)
      obtain ⟨ω2, w2, a2, f1, f2, f3, f4, f5⟩ := evSeq_ok hk hr l (i + 1) hl' h4 hw hreg1 (by rw [put_defers]; exact hdf) hfit
      exact ⟨ω2, w2, a2, f1, f2, f3, f4, (skip_ok ho hwt _ _).trans f5⟩
end
end Go.Cev
namespace Go.Cev
open Go.RowKit
section
variable {P : Program} {H : Nat} {w0 : World} {kn : Kn} {rc : Rc}
def DrawOk (P : Program) (H : Nat) (w0 : World) (kn : Kn) (rc : Rc) : Prop := ∀ (cx : Cx) (ops : Array Oper) (rg : PT Value) (df : List Deferred) (W : AW) (rg' : PT Value) (df' : List Deferred) (W' : AW), drawA kn rc cx ops.toList rg df W = some ((rg', df'), W') → ∀ (ω : Om) (w : World) (a : Act), WR H w0 ω W w → RegR ω rg cx.n a.tmps → DRs ω df a.defers → ∀ (b : Frame) (cs : List Frame) (k : List Item) (id : Nat), Fit cx b cs ω →
  ∃ ω' w' a', Gr ω W ω' W' ∧ WR H w0 ω' W' w' ∧ RegR ω' rg' cx.n a'.tmps ∧ DRs ω' df' a'.defers ∧ Steps P (lone (b.atR a (.code (.region id ops true) :: k)) cs w) (lone (b.atR a' k) cs w')
theorem Sim.at {ω : Om} {α β : Type} {m : M α} {s : Sem β} {R : Om → α → β → Prop} (h : Sim P H w0 ω m s R) {W W' : AW} {w : World} (hw : WR H w0 ω W w) {a : α} (hm : m W = some (a, W')) : ∃ ω' a' w', Gr ω W ω' W' ∧ s.run P w = .ok a' w' ∧ WR H w0 ω' W' w' ∧ R ω' a a' := h W w hw a W' hm
theorem ev_at {rg : PT Value} {n : Nat} {a : Act} {ω : Om} (hreg : RegR ω rg n a.tmps) {x : Operand} {v : Value} {W W' : AW} (h : ev rg x W = some (v, W')) : W' = W ∧ VR ω v (a.eval x) := by
  obtain ⟨h1, h2⟩ := optS h
  exact ⟨h2, hreg.opd #[x] x (by simp) v h1⟩
theorem code_ok (hk : KnOk P H w0 kn) (hr : RcOk P H w0 rc) (hd : DrawOk P H w0 kn rc) : CodeOk P H w0 (stepC kn rc) := by
  intro cx c rg df W e rg' df' W' h ω w a hw hreg hdf b cs k hfit
  unfold stepC at h
  cases c with
  | skip => cases h; exact ⟨ω, w, a, Gr.refl ω _, hw, hreg, hdf, .one stepR_skip⟩
  | label l => cases h; exact ⟨ω, w, a, Gr.refl ω _, hw, hreg, hdf, .one stepR_label⟩
  | region id ops draw =>
    simp only at h; unfold cReg at h
    obtain ⟨x, W1, h1, h2⟩ := bd_some h; clear h
    cases h2
    cases draw with
    | true =>
      obtain ⟨ω1, w1, a1, g1, g2, g3, g4, g5⟩ := hd cx ops rg df W _ _ _ h1 ω w a hw hreg hdf b cs k id hfit
      exact ⟨ω1, w1, a1, g1, g2, g3, g4, g5⟩
    | false =>
      obtain ⟨ω1, w1, a1, g1, g2, g3, g4, g5⟩ := evSeq_ok hk hr ops.toList 0 (b := b) (cs := cs) (k := k) (by simp) h1 hw hreg hdf hfit
      refine ⟨ω1, w1, a1, g1, g2, g3, g4, .head stepR_region ?_⟩
      rw [Array.length_toList, ← List.range_eq_range'] at g5
      exact g5
  | seq x y =>
    simp only at h; unfold cSeq at h
    obtain ⟨⟨e1, rg1, df1⟩, W1, h1, h2⟩ := bd_some h; clear h
    obtain ⟨ω1, w1, a1, g1, g2, g3, g4, g5⟩ := hr.code _ _ _ _ _ _ _ _ _ h1 ω w a hw hreg hdf b cs (.code y :: k) hfit
    cases e1 with
    | nor =>
      obtain ⟨ω2, w2, a2, f1, f2, f3, f4, f5⟩ := hr.code _ _ _ _ _ _ _ _ _ h2 ω1 w1 a1 g2 g3 g4 b cs k (hfit.mono g1.le)
      exact ⟨ω2, w2, a2, g1.trans f1, f2, f3, f4, Arr.of_steps (.head stepR_seq g5) f5⟩
    | exit id => cases h2; exact ⟨ω1, w1, a1, g1, g2, g3, g4, Arr.of_steps (.one stepR_seq) (Arr.pass (x := .code y) rfl (by intro e; cases e) g5)⟩
    | ret => cases h2; exact ⟨ω1, w1, a1, g1, g2, g3, g4, Arr.of_steps (.one stepR_seq) (Arr.pass (x := .code y) rfl (by intro e; cases e) g5)⟩
  | cond c x y =>
    simp only at h; unfold cCond at h
    obtain ⟨v, W1, h1, h2⟩ := bd_some h; clear h
    obtain ⟨rfl, hv⟩ := ev_at hreg h1
    cases v <;> try (cases h2; done)
    rename_i t
    have hc : a.eval c = .bool t := by generalize a.eval c = u at hv; cases hv; rfl
    cases t with
    | true =>
      obtain ⟨ω1, w1, a1, g1, g2, g3, g4, g5⟩ := hr.code _ _ _ _ _ _ _ _ _ h2 ω w a hw hreg hdf b cs k hfit
      exact ⟨ω1, w1, a1, g1, g2, g3, g4, Arr.of_steps (.one (stepR_cond hc)) g5⟩
    | false =>
      obtain ⟨ω1, w1, a1, g1, g2, g3, g4, g5⟩ := hr.code _ _ _ _ _ _ _ _ _ h2 ω w a hw hreg hdf b cs k hfit
      exact ⟨ω1, w1, a1, g1, g2, g3, g4, Arr.of_steps (.one (stepR_cond hc)) g5⟩
  | block id body =>
    simp only at h; unfold cBlk at h
    obtain ⟨⟨e1, rg1, df1⟩, W1, h1, h2⟩ := bd_some h; clear h
    obtain ⟨ω1, w1, a1, g1, g2, g3, g4, g5⟩ := hr.code _ _ _ _ _ _ _ _ _ h1 ω w a hw hreg hdf b cs (.inBlock id :: k) hfit
    cases e1 with
    | nor => cases h2; exact ⟨ω1, w1, a1, g1, g2, g3, g4, Arr.of_steps (.one stepR_block) (Steps.trans g5 (.one stepR_inBlock))⟩
    | exit id' =>
      cases h2
      obtain ⟨k', x1, x2⟩ := g5
      refine ⟨ω1, w1, a1, g1, g2, g3, g4, Arr.of_steps (.one stepR_block) ?_⟩
      cases hb : Nat.beq id' id with
      | true =>
        have := Nat.eq_of_beq_eq_true hb
        subst this
        exact Steps.trans x2 (.one (stepR_exit (by rw [x1]; simp [exitTo])))
      | false =>
        refine ⟨k', x1.trans ?_, x2⟩
        have hne : id ≠ id' := fun e => by rw [e] at hb; simp at hb
        simp [exitTo, hne]
    | ret =>
      cases h2
      obtain ⟨k', x2⟩ := g5
      exact ⟨ω1, w1, a1, g1, g2, g3, g4, Arr.of_steps (.one stepR_block) ⟨k', x2⟩⟩
  | loop body =>
    obtain ⟨ω1, w1, a1, g1, g2, g3, g4, g5⟩ := hr.loop _ _ _ _ _ _ _ _ _ h ω w a hw hreg hdf b cs k hfit
    exact ⟨ω1, w1, a1, g1, g2, g3, g4, Arr.of_steps (.one stepR_loop) g5⟩
  | scope body =>
    obtain ⟨ω1, w1, a1, g1, g2, g3, g4, g5⟩ := hr.code _ _ _ _ _ _ _ _ _ h ω w a hw hreg hdf b cs (.inScope body :: k) hfit
    have s1 : step P (lone (b.atR a (.code (.scope body) :: k)) cs w) = .next (lone (b.atR a (.code body :: .inScope body :: k)) cs w) := step_lone_go (by simp [stepG, stepG.exec, Frame.atR])
    have s2 : ∀ (a : Act) (w : World), step P (lone (b.atR a (.inScope body :: k)) cs w) = .next (lone (b.atR a k) cs w) := fun a w => step_lone_go (by simp [stepG, stepG.exec, Frame.atR])
    refine ⟨ω1, w1, a1, g1, g2, g3, g4, Arr.of_steps (.one s1) ?_⟩
    cases e with
    | nor => exact Steps.trans g5 (.one (s2 _ _))
    | exit id => obtain ⟨k', x1, x2⟩ := g5; exact ⟨k', x1, x2⟩
    | ret => exact g5
  | exit id => cases h; exact ⟨ω, w, a, Gr.refl ω _, hw, hreg, hdf, k, rfl, Steps.refl _ _⟩
  | ret => cases h; exact ⟨ω, w, a, Gr.refl ω _, hw, hreg, hdf, k, Steps.refl _ _⟩
  | goto l => cases h
  | refuse s => cases h
  | rangeFunc f ps assign body =>
    simp only at h; unfold cRf at h
    obtain ⟨fv, W1, h1, h2⟩ := bd_some h; clear h
    obtain ⟨q1, hfv⟩ := ev_at hreg h1
    rw [q1] at h2
    cases fv <;> try (cases h2; done)
    rename_i fn first captured
    cases fn <;> try (cases h2; done)
    rename_i g
    simp only at h2
    obtain ⟨u, W2, h3, h4⟩ := bd_some h2; clear h2
    obtain ⟨hfb, q2⟩ := okS h3
    rw [q2] at h4
    obtain ⟨⟨r, dfm⟩, W3, h5, h6⟩ := bd_some h4; clear h4
    obtain ⟨l, W4, h7, h8⟩ := bd_some h6; clear h6
    simp only at h7 h8
    -- the record of the loop
    have hA : ∃ ω3 w3 r' mark, Gr ω W ω3 W3 ∧ WR H w0 ω3 W3 w3 ∧ ω3 r = some (r', 0) ∧ DRs ω3 dfm (mark ++ a.defers) ∧ ((do
        let (defers, mark) ← match b.roundOf with
          | some l => do pure ((← Instr.getLoop l).defers, [])
          | none => do
            let r ← newObj (.deferred (some []))
            pure (r, [({ target := .collected r, args := #[] } : Deferred)])
        pure (defers, mark) : Sem (Nat × List Deferred)).run P w = .ok (r', mark) w3) := by
      have hrd := hfit.rd
      cases hc : cx.rd with
      | none =>
        cases hb : b.roundOf with
        | some l => rw [hc, hb] at hrd; exact hrd.elim
        | none =>
          rw [hc] at h5
          have hs : Sim P H w0 ω ((nw (.dfs (some []))).bd fun r => .ret (r, (⟨.collected r, #[]⟩ : Deferred) :: df)) (Sem.bind (newObj (.deferred (some []))) fun r => .pure (r, [({ target := .collected r, args := #[] } : Deferred)])) (fun ω' x y => ω' x.1 = some (y.1, 0) ∧ DRs ω' x.2 (y.2 ++ a.defers)) :=
            Sim.new (rm := ((0, 0), 0)) (.defs .nil) fun ω' hl r r' hr _ => Sim.ret ⟨hr, .cons ⟨.collected hr, .nil⟩ (hdf.mono hl)⟩
          obtain ⟨ω3, ⟨r', mark⟩, w3, t1, t2, t3, t4, t5⟩ := hs.at hw h5
          refine ⟨ω3, w3, r', mark, t1, t3, t4, t5, ?_⟩
          simp only [bind, Sem.run_bind' P, pure] at t2 ⊢
          cases hq : (newObj (.deferred (some []))).run P w with
          | ok z wz => rw [hq] at t2; simp only [Result.andThen, Sem.run] at t2 ⊢; exact t2
          | halt z wz => rw [hq] at t2; cases t2
      | some lr =>
        cases hb : b.roundOf with
        | none => rw [hc, hb] at hrd; exact hrd.elim
        | some lr' =>
          rw [hc, hb] at hrd
          rw [hc] at h5
          simp only at h5
          obtain ⟨o, W5, h9, h10⟩ := bd_some h5
          cases o <;> try (cases h10; done)
          cases h10
          obtain ⟨e1, tm, d', e2, e3, e4⟩ := loop_at hw hrd h9 rfl
          rw [e1]
          refine ⟨ω, w, d', [], Gr.refl ω _, hw, e4, hdf, ?_⟩
          simp only [Instr.getLoop, bind, Sem.run_bind' P, run_getObj (P := P) e2 (fun _ _ _ e => by cases e), Result.andThen, pure, Sem.run]
    obtain ⟨ω3, w3, r', mark, t1, t2, t3, t4, t5⟩ := hA
    have hs := Sim.new (P := P) (H := H) (w0 := w0) (rm := ((0, 0), 0)) (f := fun l => M.ret l) (k := fun l => Sem.pure l) (R := fun ω' x y => ω' x = some (y, 0)) (OR.loop .ready none cx.fn (hreg.mono t1.le) ps assign body t3) fun ω' hl r r' hr _ => Sim.ret hr
    obtain ⟨ω4, l', w4, u1, u2, u3, u4⟩ := hs.at t2 (a := l) (W' := W4) (by unfold M.bd; rw [h7]; rfl)
    have henter : (Instr.enterLoop b.fn a.tmps ps assign body b.roundOf).run P w = .ok (l', mark) w4 := by
      unfold Instr.enterLoop
      rw [hfit.fn]
      simp only [bind, Sem.run_bind' P, pure] at t5 u2 ⊢
      cases hb : b.roundOf with
      | none =>
        rw [hb] at t5
        simp only [Sem.run_bind' P, Sem.run] at t5 ⊢
        cases hq : (newObj (.deferred (some []))).run P w with
        | ok z wz =>
          rw [hq] at t5
          simp only [Result.andThen] at t5 ⊢
          obtain ⟨e1, e2⟩ := Result.ok.inj t5
          have ez : z = r' := congrArg Prod.fst e1
          have em : [({ target := .collected z, args := #[] } : Deferred)] = mark := congrArg Prod.snd e1
          rw [← ez, ← e2] at u2
          have u2' : (newObj (.loop { state := .ready, pending := none, fn := cx.fn, tmps := a.tmps, params := ps, assign := assign, body := body, defers := z })).run P wz = .ok l' w4 := u2
          rw [u2', em]
        | halt z wz => rw [hq] at t5; cases t5
      | some lr =>
        rw [hb] at t5
        simp only [Sem.run_bind' P, Sem.run] at t5 ⊢
        cases hq : (Instr.getLoop lr).run P w with
        | ok z wz =>
          rw [hq] at t5
          simp only [Result.andThen, Sem.run] at t5 ⊢
          obtain ⟨e1, e2⟩ := Result.ok.inj t5
          have ez : z.defers = r' := congrArg Prod.fst e1
          have em : ([] : List Deferred) = mark := congrArg Prod.snd e1
          rw [← ez, ← e2] at u2
          have u2' : (newObj (.loop { state := .ready, pending := none, fn := cx.fn, tmps := a.tmps, params := ps, assign := assign, body := body, defers := z.defers })).run P wz = .ok l' w4 := u2
          rw [u2', em]
        | halt z wz => rw [hq] at t5; cases t5
    -- the call
    generalize hu : a.eval f = uf at hfv
    cases hfv with
    | @func _ fs fs' cc cc' hy hfs hcc =>
    obtain ⟨v, W5, h9, h10⟩ := bd_some h8; clear h8
    have hle := t1.le.trans u1.le
    have hargs : VRs ω4 (fs.toArray.toList ++ [Value.func (.yield l) #[] #[]] ++ cc.toArray.toList) (fs' ++ [Value.func (.yield l') #[] #[]] ++ cc') := by
      have := ((hfs.mono hle).append (.cons (.yield u4) .nil)).append (hcc.mono hle)
      simpa using this
    obtain ⟨ω5, v', w5, fr, f1, f2, f3, f4, f5, f6, f7, f8, fn, f9, f10⟩ := hr.call _ _ _ _ _ h9 ω4 w4 _ u3 hargs .normal (b.atR { a with defers := mark ++ a.defers } (.inRangeFunc l' :: k) :: cs) (.inl rfl)
    have hres : (resolve a.eval (rangeCall f l') 0).run P w4 = .ok { target := .fn (.func g) cc'.toArray, args := fs'.toArray ++ #[Value.func (.yield l') #[] #[]] } w4 := by
      show (Deferred.ofValue (a.eval f) (#[Operand.const (Value.func (.yield l') #[] #[])].map a.eval)).run P w4 = _
      rw [hu]; simp [Deferred.ofValue, Act.eval, Sem.run, pure]
    have hinv : (invoke (.fn (.func g) cc'.toArray) (fs'.toArray ++ #[Value.func (.yield l') #[] #[]])).run P w4 = .ok (.enter g (fs' ++ [Value.func (.yield l') #[] #[]] ++ cc').toArray) w4 := by
      show (callFunc g _).run P w4 = _
      rw [callFunc_ent hk hfb]
      simp
    have s1 := stepR_rangeFunc (P := P) (b := b) (a := a) (k := k) (cs := cs) henter hres hinv
    have s2 := step_leave_returned (P := P) (fr := fr) (c := b.atR { a with defers := mark ++ a.defers } (.inRangeFunc l' :: k)) (cs := cs) (w := w5) (v := v') ⟨f5, f6, f7, fn, by rw [f8]; exact f9, f10⟩
    rw [finish_atR_inRangeFunc] at s2
    have hst : Steps P (lone (b.atR a (.code (.rangeFunc f ps assign body) :: k)) cs w) (lone (b.atR { a with defers := mark ++ a.defers } (.endRangeFunc l' :: k)) cs w5) := .head s1 (Steps.trans f4 (.one s2))
    obtain ⟨o, W6, h11, h12⟩ := bd_some h10; clear h10
    have hl5 := f1.le.to _ _ u4
    have hG : Gr ω W ω5 W5 := t1.trans (u1.trans f1)
    cases o <;> try (cases h12; done)
    rename_i st' pd fn0 rg0 n0 ps0 as0 bo0 d0
    obtain ⟨e1, tm, d', e2, e3, e4⟩ := loop_at f2 hl5 h11 rfl
    rw [e1] at h12
    have hfin : st' ≠ .busy → ∃ W7, st l (.loop .exhausted pd fn0 rg0 n0 ps0 as0 bo0 d0) W5 = some ((), W7) ∧ endA pd rg dfm W7 = some ((e, rg', df'), W') := fun hb => by
      cases st' <;> first | exact absurd rfl hb | (obtain ⟨u, W7, z1, z2⟩ := bd_some h12; exact ⟨W7, z1, z2⟩)
    have hnb : st' ≠ .busy := fun hb => by subst hb; cases h12
    obtain ⟨W7, z1, z2⟩ := hfin hnb
    obtain ⟨y1, w7, y2, y3⟩ := st_ok (P := P) f2 hl5 z1 (fun rm => .loop .exhausted pd fn0 e3 ps0 as0 bo0 e4)
    have hend : (Instr.endLoop l').run P w5 = .ok pd w7 := by
      unfold Instr.endLoop Instr.getLoop
      simp only [bind, Sem.run_bind' P, run_getObj (P := P) e2 (fun _ _ _ e => by cases e), Result.andThen, pure, Sem.run]
      have hbq : (st' == LoopState.busy) = false := by cases st' <;> first | rfl | exact absurd rfl hnb
      simp only [hbq, Bool.false_eq_true, if_false, Sem.run_bind' P]
      rw [y2]; rfl
    have s3 := stepR_endRangeFunc (P := P) (b := b) (a := { a with defers := mark ++ a.defers }) (k := k) (cs := cs) hend
    have hle5 : Om.Le ω ω5 := hG.le
    have hdf5 : DRs ω5 dfm (mark ++ a.defers) := t4.mono (u1.trans f1).le
    cases pd with
    | none =>
      cases z2
      exact ⟨ω5, w7, { a with defers := mark ++ a.defers }, hG.trans y1, y3, hreg.mono hle5, hdf5, hst.trans (.one s3)⟩
    | some c =>
      cases c <;> try (cases z2; done)
      · cases z2
        exact ⟨ω5, w7, { a with defers := mark ++ a.defers }, hG.trans y1, y3, hreg.mono hle5, hdf5, k, rfl, hst.trans (.one s3)⟩
      · cases z2
        exact ⟨ω5, w7, { a with defers := mark ++ a.defers }, hG.trans y1, y3, hreg.mono hle5, hdf5, k, hst.trans (.one s3)⟩
end
end Go.Cev
