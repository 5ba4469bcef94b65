/- Steps of a function body on data, and contracts of the functions of the seat, walked. -/
import Derived.Test.YtgnhhjojiipmgaaGreatDoorKSat
import Derived.Test.YtgnhhjojiipmgaaGreatDoorKReg
set_option linter.unusedSimpArgs false
set_option linter.unusedVariables false
set_option linter.unusedSectionVars false
namespace Go.Kin
open Go.RowKit
structure Rn where
  P : Program
  b : Frame
  cs : List Frame
  T : Machine → Prop
  C : Ctx
/-- whatever activation fits the state: its rest is carried out to the goal -/
def Exec (R : Rn) (k : List Item) (s : Sy) : Prop := ∀ a w, Sat R.C s a w → ∃ m', R.T m' ∧ Steps R.P (lone (R.b.atR a k) R.cs w) m'
section
variable {R : Rn} {k : List Item} {s : Sy}
theorem Exec.one {k' : List Item} (h : ∀ a w, step R.P (lone (R.b.atR a k) R.cs w) = .next (lone (R.b.atR a k') R.cs w)) (h' : Exec R k' s) : Exec R k s := fun a w hs =>
  let ⟨m', h1, h2⟩ := h' a w hs; ⟨m', h1, .head (h a w) h2⟩
theorem Exec.seq {x y : Code} (h : Exec R (.code x :: .code y :: k) s) : Exec R (.code (.seq x y) :: k) s := h.one fun _ _ => stepR_seq
theorem Exec.skip (h : Exec R k s) : Exec R (.code .skip :: k) s := h.one fun _ _ => stepR_skip
theorem Exec.label {l : Nat} (h : Exec R k s) : Exec R (.code (.label l) :: k) s := h.one fun _ _ => stepR_label
theorem Exec.inBlock {id : Nat} (h : Exec R k s) : Exec R (.inBlock id :: k) s := h.one fun _ _ => stepR_inBlock
theorem Exec.block {id : Nat} {c : Code} (h : Exec R (.code c :: .inBlock id :: k) s) : Exec R (.code (.block id c) :: k) s := h.one fun _ _ => stepR_block
theorem Exec.inLoop {c : Code} (h : Exec R (.code c :: .inLoop c :: k) s) : Exec R (.inLoop c :: k) s := h.one fun _ _ => stepR_inLoop
theorem Exec.loop1 {c : Code} (h : Exec R (.code c :: .inLoop c :: k) s) : Exec R (.code (.loop c) :: k) s := h.one fun _ _ => stepR_loop
/-- a loop, by a measure -/
theorem Exec.loop {c : Code} {X : Type} (st : X → Sy) (μ : X → Nat) (body : ∀ x, (∀ y, μ y < μ x → Exec R (.inLoop c :: k) (st y)) → Exec R (.code c :: .inLoop c :: k) (st x)) (x : X) : Exec R (.code (.loop c) :: k) (st x) := by
  have key : ∀ n x, μ x = n → Exec R (.code c :: .inLoop c :: k) (st x) := by
    intro n
    induction n using Nat.strongRecOn with
    | _ n ih => exact fun x hx => body x fun y hy => Exec.inLoop (ih _ (hx ▸ hy) y rfl)
  exact Exec.loop1 (key _ x rfl)
theorem Exec.exit {id : Nat} {k' : List Item} (hk : exitTo id k = some k') (h : Exec R k' s) : Exec R (.code (.exit id) :: k) s := h.one fun _ _ => stepR_exit hk
def evalO (S : FS) : Operand → Option SV
  | .tmp t => S t
  | .const v => some (.d (.v v))
  | .global g => some (.d (.v (.pointer (some ⟨g, 0, none⟩))))
  | .func f => some (.d (.fn f []))
theorem evalO_den {C : Ctx} {E : Env} {a : Act} {w : World} (h : SatE C E s a w) {x : Operand} {sv : SV} (hx : evalO s.S x = some sv) : DenV E w sv (a.eval x) := by
  cases x with
  | tmp t =>
    obtain ⟨v, h1, h2⟩ := h.slots t sv hx
    simpa [Act.eval, h1] using h2
  | const v => simp [evalO] at hx; subst hx; simp [DenV, RdV, Act.eval]
  | global g => simp [evalO] at hx; subst hx; simp [DenV, RdV, Act.eval]
  | func f => simp [evalO] at hx; subst hx; simp [DenV, RdV, RdL, Act.eval]
theorem Exec.cond {c : Operand} {x y : Code} {t : Bool} (hc : evalO s.S c = some (.d (.v (.bool t)))) (h : Exec R (.code (if t then x else y) :: k) s) : Exec R (.code (.cond c x y) :: k) s := fun a w hs => by
  obtain ⟨E, hE⟩ := hs
  have := evalO_den hE hc
  simp [DenV, RdV] at this
  obtain ⟨m', h1, h2⟩ := h a w ⟨E, hE⟩
  exact ⟨m', h1, .head (stepR_cond this) h2⟩
theorem Exec.cond_split {c : Operand} {x y : Code} {t : Bool} (hc : evalO s.S c = some (.d (.v (.bool t)))) (ht : t = true → Exec R (.code x :: k) s) (hf : t = false → Exec R (.code y :: k) s) : Exec R (.code (.cond c x y) :: k) s := by
  refine Exec.cond hc ?_
  cases t
  · exact hf rfl
  · exact ht rfl
end
/-! ### one operation -/
theorem gives_step {P : Program} {b : Frame} {cs : List Frame} {k : List Item} {ops : Array Oper} {i : Nat} {rest : List Nat} {o : Oper} {a : Act} {w : World} (ho : ops[i]? = some o) (hw : Region.wanted o (yielded ops a.tmps) = true)
    (hd : ∀ c, o.op ≠ .defer c) {Q : Value → World → Prop} (h : gives P o a.eval w Q) :
    ∃ u w', Q u w' ∧ Steps P (lone (b.atR a (.inRegion ops (i :: rest) :: k)) cs w) (lone (b.atR (a.put o.dst u) (.inRegion ops rest :: k)) cs w') := by
  have hg := stepGR_op (P := P) (b := b) (k := k) (cs := cs) (w := w) (rest := rest) ho hw
  rw [Oper.semAt_eq _ _ _ hd] at hg
  have hfin : ∀ v, (b.atR a (.inRegion ops (i :: rest) :: k)).finish v = b.atR (a.put o.dst v) (.inRegion ops rest :: k) := by
    intro v; rw [Frame.finish_atR, ho]; rfl
  unfold gives at h
  split at h
  · rename_i u w' hr
    refine ⟨u, w', h, .one (step_lone_go ?_)⟩
    rw [hg, ← hfin]; simp [stepG.apply, hr]
  · rename_i w' hr
    refine ⟨_, w', h, .one (step_lone_go ?_)⟩
    rw [hg, ← hfin]; simp [stepG.apply, hr]
  · rename_i f args w' hr
    obtain ⟨e, w'', fr, ⟨u, rfl, hq⟩, hsteps, _, hleave⟩ := h (b.atR a (.inRegion ops (i :: rest) :: k) :: cs)
    refine ⟨u, w'', hq, .head (m₁ := lone (Frame.enter P f args .normal) (b.atR a (.inRegion ops (i :: rest) :: k) :: cs) w') (step_lone_go (by rw [hg]; simp [stepG.apply, hr, Frame.atR])) (Steps.trans hsteps (.one ?_))⟩
    rw [← hfin]; exact step_leave_returned hleave
  · rename_i row args w' hr
    obtain ⟨u, w'', hq, hsteps⟩ := h (b.atR a (.inRegion ops (i :: rest) :: k)) cs
    refine ⟨u, w'', hq, .head (m₁ := lone (Frame.ofRow P row args .normal) (b.atR a (.inRegion ops (i :: rest) :: k) :: cs) w') (step_lone_go (by rw [hg]; simp [stepG.apply, hr, Frame.atR])) ?_⟩
    rw [← hfin]; exact hsteps
  · exact h.elim
structure Ext (o : Oper) (s s' : Sy) : Prop where
  n : s'.N = s.N
  df : s'.df = s.df
  ops : ∀ x ∈ o.op.operands, evalO s.S x ≠ none → evalO s'.S x = evalO s.S x
  l : ∀ key, s.L key ≠ none → s'.L key = s.L key
  o : ∀ key, s.O key ≠ none → s'.O key = s.O key
theorem Ext.refl (o : Oper) (s : Sy) : Ext o s s := ⟨rfl, rfl, fun _ _ _ => rfl, fun _ _ => rfl, fun _ _ => rfl⟩
/-- what one operation does, seen from whatever state has what it looks at -/
def Ok1 (P : Program) (C : Ctx) (o : Oper) (s : Sy) (r : Res) : Prop :=
  (∀ c, o.op ≠ .defer c) ∧ ∀ s', Ext o s s' → ∀ a w, Sat C s' a w → gives P o a.eval w fun u w' => Sat C (apply o.dst r s') (a.put o.dst u) w'
def wantS (ops : Array Oper) (S : FS) (o : Oper) : Option Bool :=
  match o.guard with
  | none => some true
  | some (j, want) => match (match ops[j]? with | some oj => oj.dst | none => none) with
    | none => none
    | some t => match S t with
      | some (.d (.v (.bool b))) => some (b == want)
      | some (.d (.v (.tuple _))) => some false
      | some (.op p (.d (.v (.bool b)))) => some (p && (b == want))
      | _ => none
theorem wantS_spec {C : Ctx} {E : Env} {s : Sy} {a : Act} {w : World} (h : SatE C E s a w) {ops : Array Oper} {o : Oper} {wt : Bool} (hw : wantS ops s.S o = some wt) : Region.wanted o (yielded ops a.tmps) = wt := by
  unfold wantS at hw
  unfold Region.wanted
  cases hg : o.guard with
  | none => simp [hg] at hw; subst hw; rfl
  | some g =>
    obtain ⟨j, want⟩ := g
    simp only [hg] at hw
    cases hd : (match ops[j]? with | some oj => oj.dst | none => none) with
    | none => simp [hd] at hw
    | some t =>
      simp only [hd] at hw
      cases hs : s.S t with
      | none => simp [hs] at hw
      | some sv =>
        simp only [hs] at hw
        split at hw
        · rename_i b hb
          cases hw
          cases hb
          obtain ⟨v, h1, h2⟩ := h.slots t _ hs
          simp [DenV, RdV] at h2
          subst h2
          have : (ops[j]?).bind (·.dst) = some t := by
            cases hj : ops[j]? with
            | none => simp [hj] at hd
            | some oj => simpa [hj] using hd
          simp only [yielded, this, Option.bind_some, h1]
          cases b <;> cases want <;> rfl
        · rename_i b hb
          cases hw
          cases hb
          obtain ⟨v, h1, h2⟩ := h.slots t _ hs
          simp [DenV, RdV] at h2
          subst h2
          have : (ops[j]?).bind (·.dst) = some t := by
            cases hj : ops[j]? with
            | none => simp [hj] at hd
            | some oj => simpa [hj] using hd
          simp only [yielded, this, Option.bind_some, h1]
          rfl
        · rename_i p b hb
          cases hw
          cases hb
          obtain ⟨v, h1, h2⟩ := h.slots t _ hs
          simp only [DenV, RdV] at h2
          have : (ops[j]?).bind (·.dst) = some t := by
            cases hj : ops[j]? with
            | none => simp [hj] at hd
            | some oj => simpa [hj] using hd
          simp only [yielded, this, Option.bind_some, h1]
          cases p
          · rw [h2.2 rfl]; rfl
          · rw [h2.1 rfl]; cases b <;> cases want <;> rfl
        · cases hw
/-- one operation, from state to state, whether its guard is known or not -/
def OpTo (P : Program) (C : Ctx) (ops : Array Oper) (o : Oper) (s s' : Sy) : Prop := ∀ a w, Sat C s a w →
  (Region.wanted o (yielded ops a.tmps) = true → (∀ c, o.op ≠ .defer c) ∧ gives P o a.eval w fun u w' => Sat C s' (a.put o.dst u) w') ∧
  (Region.wanted o (yielded ops a.tmps) = false → Sat C s' (a.put o.dst undef) w)
theorem opTo_of {P : Program} {C : Ctx} {ops : Array Oper} {o : Oper} {s s' sT : Sy} {r : Res} (hx : Ext o sT s) (hok : Ok1 P C o sT r) (hw : wantS ops s.S o = some true) (he : apply o.dst r s = s') : OpTo P C ops o s s' := by
  intro a w h
  have hwt : Region.wanted o (yielded ops a.tmps) = true := by obtain ⟨E, hE⟩ := h; exact wantS_spec hE hw
  refine ⟨fun _ => ⟨hok.1, ?_⟩, fun hf => by rw [hwt] at hf; cases hf⟩
  have := hok.2 s hx a w h
  rwa [he] at this
theorem opTo_skip {P : Program} {C : Ctx} {ops : Array Oper} {o : Oper} {s s' : Sy} (hw : wantS ops s.S o = some false) (hd : ∀ t, o.dst = some t → t < s.N) (he : apply o.dst ⟨.d (.v undef), [], [], [], []⟩ s = s') : OpTo P C ops o s s' := by
  intro a w h
  obtain ⟨E, hE⟩ := h
  have hwt := wantS_spec hE hw
  refine ⟨fun ht => (by rw [hwt] at ht; cases ht), fun _ => ?_⟩
  rw [← he]
  exact ⟨E, hE.slot (u := undef) hd (by simp [DenV, RdV])⟩
/-- what an operation and its guard look at is the same -/
structure ExtG (ops : Array Oper) (o : Oper) (s s' : Sy) : Prop where
  n : s'.N = s.N
  df : s'.df = s.df
  look : ∀ t, t ∈ o.looksAt ops → s.S t ≠ none → s'.S t = s.S t
  l : ∀ key, s.L key ≠ none → s'.L key = s.L key
  o : ∀ key, s.O key ≠ none → s'.O key = s.O key
theorem ExtG.refl (ops : Array Oper) (o : Oper) (s : Sy) : ExtG ops o s s := ⟨rfl, rfl, fun _ _ _ => rfl, fun _ _ => rfl, fun _ _ => rfl⟩
theorem mem_looks {ops : Array Oper} {o : Oper} {t : Nat} (h : Operand.tmp t ∈ o.op.operands) : t ∈ o.looksAt ops := by
  unfold Oper.looksAt
  refine List.mem_append_left _ (List.mem_filterMap.2 ⟨.tmp t, by simpa using h, rfl⟩)
theorem ExtG.ext {ops : Array Oper} {o : Oper} {s s' : Sy} (h : ExtG ops o s s') : Ext o s s' := by
  refine ⟨h.n, h.df, fun x hx hne => ?_, h.l, h.o⟩
  cases x with
  | tmp t => exact h.look t (mem_looks hx) hne
  | const v => rfl
  | global g => rfl
  | func f => rfl
theorem wantS_ext {ops : Array Oper} {S S' : FS} {o : Oper} {b : Bool} (h : wantS ops S o = some b) (he : ∀ t, t ∈ o.looksAt ops → S t ≠ none → S' t = S t) : wantS ops S' o = some b := by
  unfold wantS at *
  cases hg : o.guard with
  | none => simpa [hg] using h
  | some g =>
    obtain ⟨j, want⟩ := g
    rw [hg] at h
    cases ho : ops[j]? with
    | none => simp [ho] at h
    | some oj =>
      cases hd : oj.dst with
      | none => simp [ho, hd] at h
      | some t =>
        have hl : t ∈ o.looksAt ops := by
          unfold Oper.looksAt
          refine List.mem_append_right _ ?_
          simp [hg, ho, hd]
        simp only [ho, hd] at h ⊢
        have hne : S t ≠ none := fun hn => by simp [hn] at h
        rw [he t hl hne]
        exact h
/-- what one operation makes, whether its guard is known or not, seen from whatever state has what it looks at -/
def Ok2 (P : Program) (C : Ctx) (ops : Array Oper) (o : Oper) (s : Sy) (r : Res) : Prop := ∀ s', ExtG ops o s s' → OpTo P C ops o s' (apply o.dst r s')
section
variable {P : Program} {C : Ctx} {ops : Array Oper} {o : Oper} {s : Sy} {r : Res}
theorem ok2_run (h : Ok1 P C o s r) (hw : wantS ops s.S o = some true) : Ok2 P C ops o s r := fun _ hx =>
  opTo_of hx.ext h (wantS_ext hw hx.look) rfl
theorem ok2_skip (hw : wantS ops s.S o = some false) (hd : ∀ t, o.dst = some t → t < s.N) : Ok2 P C ops o s ⟨.d (.v undef), [], [], [], []⟩ := fun _ hx =>
  opTo_skip (wantS_ext hw hx.look) (fun t ht => by rw [hx.n]; exact hd t ht) rfl
theorem Sat.slots_to {s1 s2 : Sy} (hN : s1.N = s2.N) (hdf : s1.df = s2.df) (hL : s1.L = s2.L) (hO : s1.O = s2.O) (hfz : s1.fz = s2.fz) (hpin : s1.pin = s2.pin)
    (h : ∀ t sv2, s2.S t = some sv2 → ∃ sv1, s1.S t = some sv1 ∧ ∀ E w v, DenV E w sv1 v → DenV E w sv2 v) {a : Act} {w : World} (hs : Sat C s1 a w) : Sat C s2 a w := by
  obtain ⟨E, hE⟩ := hs
  refine ⟨E, hE.sz.trans hN, hE.df.trans hdf, fun t sv2 h2 => ?_, by rw [← hL, ← hO]; exact hE.hp, by rw [← hL, ← hO, ← hpin]; exact hE.pins, by rw [← hfz]; exact hE.waits⟩
  obtain ⟨sv1, h3, h4⟩ := h t sv2 h2
  obtain ⟨v, h5, h6⟩ := hE.slots t sv1 h3
  exact ⟨v, h5, h4 E w v h6⟩
/-- a value that is there only if something is so, taken for one that is there -/
def unop : SV → SV
  | .op _ sv => sv
  | sv => sv
/-- under what -/
def cndOf : SV → Bool
  | .op p _ => p
  | _ => true
theorem unop_den {E : Env} {w : World} {sv : SV} {v : Value} (h : cndOf sv = true) : DenV E w sv v ↔ DenV E w (unop sv) v := by
  cases sv <;> simp only [unop, cndOf] at * <;> try rfl
  simp only [DenV]
  exact ⟨fun hh => hh.1 h, fun hh => ⟨fun _ => hh, fun hf => by rw [h] at hf; cases hf⟩⟩
open Classical in
/-- a guard that is not known: the operation as if it were wanted; what it makes is there only if it was -/
theorem ok2_sym {q : Bool} {sv : SV} (hw : wantS ops s.S o = some q) (hd : ∀ t, o.dst = some t → t < s.N) (hnd : ∀ c, o.op ≠ .defer c)
    (hc : q = true → ∀ t sv, Operand.tmp t ∈ o.op.operands → s.S t = some sv → cndOf sv = true)
    (h : q = true → Ok1 P C o ⟨s.N, s.df, fun t => (s.S t).map unop, s.L, s.O, s.fz, s.pin⟩ ⟨sv, [], [], [], []⟩) : Ok2 P C ops o s ⟨.op q sv, [], [], [], []⟩ := by
  intro s' hx a w hs
  have hwt : Region.wanted o (yielded ops a.tmps) = q := by obtain ⟨E, hE⟩ := hs; exact wantS_spec hE (wantS_ext hw hx.look)
  have hd' : ∀ t, o.dst = some t → t < s'.N := fun t ht => by rw [hx.n]; exact hd t ht
  refine ⟨fun ht => ⟨hnd, ?_⟩, fun hf => ?_⟩
  · have hq : q = true := hwt.symm.trans ht
    subst hq
    -- the operands' slots as if they were there
    let S2 : FS := fun t => if Operand.tmp t ∈ o.op.operands ∧ (s.S t).isSome then (s.S t).map unop else s'.S t
    have hS2 : ∀ t, Operand.tmp t ∈ o.op.operands → (s.S t).isSome → s'.S t = s.S t := fun t h1 h2 => hx.look t (mem_looks h1) (fun e => by simp [e] at h2)
    have h2 : Sat C ⟨s'.N, s'.df, S2, s'.L, s'.O, s'.fz, s'.pin⟩ a w := by
      refine Sat.slots_to (s1 := s') (s2 := ⟨s'.N, s'.df, S2, s'.L, s'.O, s'.fz, s'.pin⟩) rfl rfl rfl rfl rfl rfl (fun t sv2 he => ?_) hs
      simp only [S2] at he
      by_cases hh : Operand.tmp t ∈ o.op.operands ∧ (s.S t).isSome
      · rw [if_pos hh] at he
        cases hst : s.S t with
        | none => simp [hst] at he
        | some sv0 =>
          simp [hst] at he; subst he
          exact ⟨sv0, (hS2 t hh.1 hh.2).trans hst, fun E w v hv => (unop_den (hc rfl t sv0 hh.1 hst)).1 hv⟩
      · rw [if_neg hh] at he
        exact ⟨sv2, he, fun _ _ _ h => h⟩
    have hext : Ext o ⟨s.N, s.df, fun t => (s.S t).map unop, s.L, s.O, s.fz, s.pin⟩ ⟨s'.N, s'.df, S2, s'.L, s'.O, s'.fz, s'.pin⟩ := by
      refine ⟨hx.n, hx.df, fun x hxo hne => ?_, hx.l, hx.o⟩
      cases x with
      | tmp t =>
        simp only [evalO] at hne ⊢
        simp only [S2]
        rw [if_pos ⟨by simpa using hxo, by cases hst : s.S t <;> simp_all⟩]
      | const v => rfl
      | global g => rfl
      | func f => rfl
    have h3 := (h rfl).2 _ hext a w h2
    refine h3.mono fun u w' hsat => ?_
    refine Sat.slots_to (s1 := apply o.dst ⟨sv, [], [], [], []⟩ ⟨s'.N, s'.df, S2, s'.L, s'.O, s'.fz, s'.pin⟩) (s2 := apply o.dst ⟨.op true sv, [], [], [], []⟩ s') rfl rfl ?_ ?_ rfl rfl (fun t sv2 he => ?_) hsat
    · rw [apply_slot_L, apply_slot_L]
    · rw [apply_slot_O, apply_slot_O]
    · simp only [apply] at he ⊢
      by_cases hdt : o.dst = some t
      · rw [if_pos hdt] at he ⊢
        cases he
        exact ⟨sv, rfl, fun E w v hv => by simp only [DenV]; exact ⟨fun _ => hv, fun hf => by cases hf⟩⟩
      · rw [if_neg hdt] at he ⊢
        simp only [S2]
        cases hst : s'.S t with
        | none => simp [hst] at he
        | some sv0 =>
          simp [hst, kill_nil] at he; subst he
          by_cases hh : Operand.tmp t ∈ o.op.operands ∧ (s.S t).isSome
          · rw [if_pos hh]
            have h4 := (hS2 t hh.1 hh.2).symm.trans hst
            rw [h4]
            refine ⟨unop sv0, by simp [kill_nil], fun E w v hv => (unop_den (hc rfl t sv0 hh.1 h4)).2 hv⟩
          · rw [if_neg hh]
            exact ⟨sv0, by simp [kill_nil], fun _ _ _ h => h⟩
  · have hq : q = false := hwt.symm.trans hf
    subst hq
    obtain ⟨E, hE⟩ := hs
    exact ⟨E, hE.slot (u := undef) hd' (by simp [DenV])⟩
end
def Walk (P : Program) (C : Ctx) (ops : Array Oper) : List Oper → Sy → (Sy → Prop) → Prop
  | [], s, Q => Q s
  | o :: r, s, Q => ∃ s', OpTo P C ops o s s' ∧ Walk P C ops r s' Q
theorem Walk.mono {P : Program} {C : Ctx} {ops : Array Oper} : ∀ {l : List Oper} {s : Sy} {Q Q' : Sy → Prop}, (∀ s, Q s → Q' s) → Walk P C ops l s Q → Walk P C ops l s Q'
  | [], _, _, _, hq, h => hq _ h
  | _ :: _, _, _, _, hq, ⟨s', h1, h2⟩ => ⟨s', h1, Walk.mono hq h2⟩
theorem any_op {R : Rn} {k : List Item} {ops : Array Oper} {i : Nat} {rest : List Nat} {o : Oper} (ho : ops[i]? = some o) {s s' : Sy} (h : OpTo R.P R.C ops o s s') (h' : Exec R (.inRegion ops rest :: k) s') : Exec R (.inRegion ops (i :: rest) :: k) s := by
  intro a w hs
  obtain ⟨hh1, hh2⟩ := h a w hs
  rcases Bool.eq_false_or_eq_true (Region.wanted o (yielded ops a.tmps)) with hw | hw
  · obtain ⟨hd, h2⟩ := hh1 hw
    obtain ⟨u, w', hq, hst⟩ := gives_step (b := R.b) (cs := R.cs) (k := k) (rest := rest) ho hw hd h2
    obtain ⟨m', h4, h5⟩ := h' _ _ hq
    exact ⟨m', h4, hst.trans h5⟩
  · have hst := stepR_op_skip (P := R.P) (b := R.b) (a := a) (k := k) (cs := R.cs) (w := w) (ops := ops) (i := i) (rest := rest) (by simp [ho, hw])
    simp only [ho, Option.bind_some] at hst
    obtain ⟨m', h4, h5⟩ := h' _ _ (hh2 hw)
    exact ⟨m', h4, .head hst h5⟩
theorem walk_seq {R : Rn} {k : List Item} {ops : Array Oper} : ∀ (l : List Oper) (i : Nat) (s : Sy), (∀ j, l[j]? = ops[i + j]?) → Walk R.P R.C ops l s (Exec R k) → Exec R (.inRegion ops (List.range' i l.length) :: k) s
  | [], i, s, _, h => by
    simp only [List.length_nil, List.range'_zero]
    exact Exec.one (fun _ _ => stepR_region_end) h
  | o :: r, i, s, hl, ⟨s', h1, h2⟩ => by
    have ho : ops[i]? = some o := by simpa using (hl 0).symm
    simp only [List.length_cons, List.range'_succ]
    exact any_op ho h1 (walk_seq (R := R) (k := k) (ops := ops) r (i + 1) s' (fun j => by have := hl (j + 1); simpa [Nat.add_assoc, Nat.add_comm 1 j] using this) h2)
theorem Exec.region {R : Rn} {k : List Item} {s : Sy} {id : Nat} {ops : Array Oper} (h : Walk R.P R.C ops ops.toList s (Exec R k)) : Exec R (.code (.region id ops false) :: k) s := by
  have := walk_seq (R := R) (k := k) ops.toList 0 s (by simp) h
  rw [Array.length_toList, ← List.range_eq_range'] at this
  exact Exec.one (fun _ _ => stepR_region) this
end Go.Kin
