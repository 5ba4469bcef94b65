/- Steps of a function body on such states. -/
import Derived.Test.YtlcpglkbllhokaaKSat
import Derived.Test.YtlcpglkbllhokaaKReg
namespace Go.Kin
open Go.RowKit

structure Rn where
  P : Program
  b : Frame
  cs : List Frame
  T : Machine → Prop
  C : Ctx

/-- whatever activation fits the state: its rest is carried out to the goal -/
def Exec (R : Rn) (k : List Item) (s : Sy) : Prop := ∀ a w, Sat R.C s a w → ∃ m', R.T m' ∧ Steps R.P (lone (R.b.atR a k) R.cs w) m'

section
variable {R : Rn} {k : List Item} {s : Sy}

theorem Exec.one {k' : List Item} (h : ∀ a w, step R.P (lone (R.b.atR a k) R.cs w) = .next (lone (R.b.atR a k') R.cs w)) (h' : Exec R k' s) : Exec R k s := fun a w hs =>
  let ⟨m', h1, h2⟩ := h' a w hs; ⟨m', h1, .head (h a w) h2⟩

theorem Exec.seq {x y : Code} (h : Exec R (.code x :: .code y :: k) s) : Exec R (.code (.seq x y) :: k) s := h.one fun _ _ => stepR_seq
theorem Exec.skip (h : Exec R k s) : Exec R (.code .skip :: k) s := h.one fun _ _ => stepR_skip
theorem Exec.label {l : Nat} (h : Exec R k s) : Exec R (.code (.label l) :: k) s := h.one fun _ _ => stepR_label
theorem Exec.inBlock {id : Nat} (h : Exec R k s) : Exec R (.inBlock id :: k) s := h.one fun _ _ => stepR_inBlock
theorem Exec.block {id : Nat} {c : Code} (h : Exec R (.code c :: .inBlock id :: k) s) : Exec R (.code (.block id c) :: k) s := h.one fun _ _ => stepR_block
theorem Exec.inLoop {c : Code} (h : Exec R (.code c :: .inLoop c :: k) s) : Exec R (.inLoop c :: k) s := h.one fun _ _ => stepR_inLoop
theorem Exec.loop1 {c : Code} (h : Exec R (.code c :: .inLoop c :: k) s) : Exec R (.code (.loop c) :: k) s := h.one fun _ _ => stepR_loop
/-- a loop, by a measure -/
theorem Exec.loop {c : Code} {X : Type} (st : X → Sy) (μ : X → Nat) (body : ∀ x, (∀ y, μ y < μ x → Exec R (.inLoop c :: k) (st y)) → Exec R (.code c :: .inLoop c :: k) (st x)) (x : X) : Exec R (.code (.loop c) :: k) (st x) := by
  have key : ∀ n x, μ x = n → Exec R (.code c :: .inLoop c :: k) (st x) := by
    intro n
    induction n using Nat.strongRecOn with
    | _ n ih => exact fun x hx => body x fun y hy => Exec.inLoop (ih _ (hx ▸ hy) y rfl)
  exact Exec.loop1 (key _ x rfl)
theorem Exec.exit {id : Nat} {k' : List Item} (hk : exitTo id k = some k') (h : Exec R k' s) : Exec R (.code (.exit id) :: k) s := h.one fun _ _ => stepR_exit hk

def evalO (S : FS) : Operand → Option SV
  | .tmp t => S t
  | .const v => some (.d (.v v))
  | .global g => some (.d (.v (.pointer (some ⟨g, 0, none⟩))))
  | .func f => some (.d (.fn f []))

theorem evalO_den {C : Ctx} {E : Env} {a : Act} {w : World} (h : SatE C E s a w) {x : Operand} {sv : SV} (hx : evalO s.S x = some sv) : DenV E w sv (a.eval x) := by
  cases x with
  | tmp t =>
    obtain ⟨v, h1, h2⟩ := h.slots t sv hx
    simpa [Act.eval, h1] using h2
  | const v => simp [evalO] at hx; subst hx; simp [DenV, RdV, Act.eval]
  | global g => simp [evalO] at hx; subst hx; simp [DenV, RdV, Act.eval]
  | func f => simp [evalO] at hx; subst hx; simp [DenV, RdV, RdL, Act.eval]

theorem Exec.cond {c : Operand} {x y : Code} {t : Bool} (hc : evalO s.S c = some (.d (.v (.bool t)))) (h : Exec R (.code (if t then x else y) :: k) s) : Exec R (.code (.cond c x y) :: k) s := fun a w hs => by
  obtain ⟨E, hE⟩ := hs
  have := evalO_den hE hc
  simp [DenV, RdV] at this
  obtain ⟨m', h1, h2⟩ := h a w ⟨E, hE⟩
  exact ⟨m', h1, .head (stepR_cond this) h2⟩

theorem Exec.cond_split {c : Operand} {x y : Code} {t : Bool} (hc : evalO s.S c = some (.d (.v (.bool t)))) (ht : t = true → Exec R (.code x :: k) s) (hf : t = false → Exec R (.code y :: k) s) : Exec R (.code (.cond c x y) :: k) s := by
  refine Exec.cond hc ?_
  cases t
  · exact hf rfl
  · exact ht rfl
end

/-! ### one operation -/
theorem gives_step {P : Program} {b : Frame} {cs : List Frame} {k : List Item} {ops : Array Oper} {i : Nat} {rest : List Nat} {o : Oper} {a : Act} {w : World} (ho : ops[i]? = some o) (hw : Region.wanted o (yielded ops a.tmps) = true)
    (hd : ∀ c, o.op ≠ .defer c) {Q : Value → World → Prop} (h : gives P o a.eval w Q) :
    ∃ u w', Q u w' ∧ Steps P (lone (b.atR a (.inRegion ops (i :: rest) :: k)) cs w) (lone (b.atR (a.put o.dst u) (.inRegion ops rest :: k)) cs w') := by
  have hg := stepGR_op (P := P) (b := b) (k := k) (cs := cs) (w := w) (rest := rest) ho hw
  rw [Oper.semAt_eq _ _ _ hd] at hg
  have hfin : ∀ v, (b.atR a (.inRegion ops (i :: rest) :: k)).finish v = b.atR (a.put o.dst v) (.inRegion ops rest :: k) := by
    intro v; rw [Frame.finish_atR, ho]; rfl
  unfold gives at h
  split at h
  · rename_i u w' hr
    refine ⟨u, w', h, .one (step_lone_go ?_)⟩
    rw [hg, ← hfin]; simp [stepG.apply, hr]
  · rename_i w' hr
    refine ⟨_, w', h, .one (step_lone_go ?_)⟩
    rw [hg, ← hfin]; simp [stepG.apply, hr]
  · rename_i f args w' hr
    obtain ⟨e, w'', fr, ⟨u, rfl, hq⟩, hsteps, _, hleave⟩ := h (b.atR a (.inRegion ops (i :: rest) :: k) :: cs)
    refine ⟨u, w'', hq, .head (m₁ := lone (Frame.enter P f args .normal) (b.atR a (.inRegion ops (i :: rest) :: k) :: cs) w') (step_lone_go (by rw [hg]; simp [stepG.apply, hr, Frame.atR])) (Steps.trans hsteps (.one ?_))⟩
    rw [← hfin]; exact step_leave_returned hleave
  · rename_i row args w' hr
    obtain ⟨u, w'', hq, hsteps⟩ := h (b.atR a (.inRegion ops (i :: rest) :: k)) cs
    refine ⟨u, w'', hq, .head (m₁ := lone (Frame.ofRow P row args .normal) (b.atR a (.inRegion ops (i :: rest) :: k) :: cs) w') (step_lone_go (by rw [hg]; simp [stepG.apply, hr, Frame.atR])) ?_⟩
    rw [← hfin]; exact hsteps
  · exact h.elim

structure Ext (o : Oper) (s s' : Sy) : Prop where
  n : s'.N = s.N
  df : s'.df = s.df
  ops : ∀ x ∈ o.op.operands, evalO s.S x ≠ none → evalO s'.S x = evalO s.S x
  l : ∀ key, s.L key ≠ none → s'.L key = s.L key
  o : ∀ key, s.O key ≠ none → s'.O key = s.O key
theorem Ext.refl (o : Oper) (s : Sy) : Ext o s s := ⟨rfl, rfl, fun _ _ _ => rfl, fun _ _ => rfl, fun _ _ => rfl⟩

/-- what one operation does, seen from whatever state has what it looks at -/
def Ok1 (P : Program) (C : Ctx) (o : Oper) (s : Sy) (r : Res) : Prop :=
  (∀ c, o.op ≠ .defer c) ∧ ∀ s', Ext o s s' → ∀ a w, Sat C s' a w → gives P o a.eval w fun u w' => Sat C (apply o.dst r s') (a.put o.dst u) w'

def wantS (ops : Array Oper) (S : FS) (o : Oper) : Option Bool :=
  match o.guard with
  | none => some true
  | some (j, want) => match (match ops[j]? with | some oj => oj.dst | none => none) with
    | none => none
    | some t => match S t with
      | some (.d (.v (.bool b))) => some (b == want)
      | some (.d (.v (.tuple _))) => some false
      | _ => none

theorem wantS_spec {C : Ctx} {E : Env} {s : Sy} {a : Act} {w : World} (h : SatE C E s a w) {ops : Array Oper} {o : Oper} {wt : Bool} (hw : wantS ops s.S o = some wt) : Region.wanted o (yielded ops a.tmps) = wt := by
  unfold wantS at hw
  unfold Region.wanted
  cases hg : o.guard with
  | none => simp [hg] at hw; subst hw; rfl
  | some g =>
    obtain ⟨j, want⟩ := g
    simp only [hg] at hw
    cases hd : (match ops[j]? with | some oj => oj.dst | none => none) with
    | none => simp [hd] at hw
    | some t =>
      simp only [hd] at hw
      cases hs : s.S t with
      | none => simp [hs] at hw
      | some sv =>
        simp only [hs] at hw
        split at hw
        · rename_i b hb
          cases hw
          cases hb
          obtain ⟨v, h1, h2⟩ := h.slots t _ hs
          simp [DenV, RdV] at h2
          subst h2
          have : (ops[j]?).bind (·.dst) = some t := by
            cases hj : ops[j]? with
            | none => simp [hj] at hd
            | some oj => simpa [hj] using hd
          simp only [yielded, this, Option.bind_some, h1]
          cases b <;> cases want <;> rfl
        · rename_i b hb
          cases hw
          cases hb
          obtain ⟨v, h1, h2⟩ := h.slots t _ hs
          simp [DenV, RdV] at h2
          subst h2
          have : (ops[j]?).bind (·.dst) = some t := by
            cases hj : ops[j]? with
            | none => simp [hj] at hd
            | some oj => simpa [hj] using hd
          simp only [yielded, this, Option.bind_some, h1]
          rfl
        · cases hw

def Walk (P : Program) (C : Ctx) (ops : Array Oper) : List Oper → Sy → (Sy → Prop) → Prop
  | [], s, Q => Q s
  | o :: r, s, Q =>
    (wantS ops s.S o = some true ∧ ∃ res, Ok1 P C o s res ∧ Walk P C ops r (apply o.dst res s) Q) ∨
    (wantS ops s.S o = some false ∧ (∀ t, o.dst = some t → t < s.N) ∧ Walk P C ops r (apply o.dst ⟨.d (.v undef), [], [], [], []⟩ s) Q)

theorem Walk.mono {P : Program} {C : Ctx} {ops : Array Oper} : ∀ {l : List Oper} {s : Sy} {Q Q' : Sy → Prop}, (∀ s, Q s → Q' s) → Walk P C ops l s Q → Walk P C ops l s Q'
  | [], _, _, _, hq, h => hq _ h
  | o :: r, s, Q, Q', hq, h => by
    rcases h with ⟨h1, res, h2, h3⟩ | ⟨h1, h2, h3⟩
    · exact .inl ⟨h1, res, h2, Walk.mono hq h3⟩
    · exact .inr ⟨h1, h2, Walk.mono hq h3⟩

theorem walk_seq {R : Rn} {k : List Item} {ops : Array Oper} : ∀ (l : List Oper) (i : Nat) (s : Sy), (∀ j, l[j]? = ops[i + j]?) → Walk R.P R.C ops l s (Exec R k) → Exec R (.inRegion ops (List.range' i l.length) :: k) s
  | [], i, s, _, h => by
    simp only [List.length_nil, List.range'_zero]
    exact Exec.one (fun _ _ => stepR_region_end) h
  | o :: r, i, s, hl, h => by
    have ho : ops[i]? = some o := by simpa using (hl 0).symm
    have ih := fun s => walk_seq (R := R) (k := k) (ops := ops) r (i + 1) s (fun j => by have := hl (j + 1); simpa [Nat.add_assoc, Nat.add_comm 1 j] using this)
    simp only [List.length_cons, List.range'_succ]
    intro a w hs
    rcases h with ⟨h1, res, ⟨hd, h2⟩, h3⟩ | ⟨h1, h2, h3⟩
    · have hw : Region.wanted o (yielded ops a.tmps) = true := by obtain ⟨E, hE⟩ := hs; exact wantS_spec hE h1
      obtain ⟨u, w', hq, hst⟩ := gives_step (b := R.b) (cs := R.cs) (k := k) (rest := List.range' (i + 1) r.length) ho hw hd (h2 s (Ext.refl _ _) a w hs)
      obtain ⟨m', h4, h5⟩ := ih _ h3 _ _ hq
      exact ⟨m', h4, hst.trans h5⟩
    · obtain ⟨E, hE⟩ := hs
      have hw := wantS_spec hE h1
      have hst := stepR_op_skip (P := R.P) (b := R.b) (a := a) (k := k) (cs := R.cs) (w := w) (ops := ops) (i := i) (rest := List.range' (i + 1) r.length) (by simp [ho, hw])
      simp only [ho, Option.bind_some] at hst
      obtain ⟨m', h4, h5⟩ := ih _ h3 _ _ ⟨E, hE.slot (u := undef) h2 (by simp [DenV, RdV])⟩
      exact ⟨m', h4, .head hst h5⟩

theorem Exec.region {R : Rn} {k : List Item} {s : Sy} {id : Nat} {ops : Array Oper} (h : Walk R.P R.C ops ops.toList s (Exec R k)) : Exec R (.code (.region id ops false) :: k) s := by
  have := walk_seq (R := R) (k := k) ops.toList 0 s (by simp) h
  rw [Array.length_toList, ← List.range_eq_range'] at this
  exact Exec.one (fun _ _ => stepR_region) this
end Go.Kin
