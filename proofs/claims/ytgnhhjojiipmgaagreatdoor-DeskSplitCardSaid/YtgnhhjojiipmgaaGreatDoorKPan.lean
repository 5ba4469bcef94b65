/- Steps of a function body on data, and contracts of the functions of the seat, walked. -/
import Derived.Test.YtgnhhjojiipmgaaGreatDoorKWk
import Derived.Recover
set_option linter.unusedSimpArgs false
set_option linter.unusedVariables false
set_option linter.unusedSectionVars false
namespace Go.Kin
open Go.RowKit
/-! ### functions that write a box of their caller's, and may panic -/
/-- how such a function ends: the box's new cells and a result; or a panic -/
inductive Out where
  | ret (cs : List D) (res : D)
  | pan (d : D)
/-- all that was there stays, but for one block -/
structure Aft (b : Nat) (w w' : World) : Prop where
  os : w'.os = w.os
  tape : w'.tape = w.tape
  output : w'.output = w.output
  size : w.heap.size ≤ w'.heap.size
  block : ∀ k, k < w.heap.size → k ≠ b → w'.heap[k]? = w.heap[k]?
def lentE (b : Nat) (Z : Nat → Prop) : Env := ⟨fun _ => b, fun _ => undef, Z⟩
def OutOf (out : Out) (b : Nat) (T : TypeId) (w : World) (Z : Nat → Prop) (e : Ending) (w' : World) : Prop := match out with
  | .ret cs res => ∃ v Z' us, e = .returned v ∧ (∀ c, Z' c → c < w'.heap.size ∧ (Z c ∨ w.heap.size ≤ c)) ∧ w'.heap[b]? = some (.cells (List.toArray us) T (0, 0)) ∧ RdL w' Z' cs us ∧ RdV w' Z' res v
  | .pan d => ∃ v Z', e = .panicked [{ v, recovered := false }] ∧ (∀ c, Z' c → c < w'.heap.size ∧ (Z c ∨ w.heap.size ≤ c)) ∧ RdV w' Z' d v
/-- THE CONTRACT of such a function: the box is named 900 in the arguments -/
def FnM (I : World → Prop) (P : Program) (f : FuncId) (T : TypeId) (cs : List D) (args : List SV) (out : Out) : Prop :=
  Enters P f ∧ ∀ (w : World) (Z : Nat → Prop) (b : Nat) (us vs : List Value), I w → (∀ w', Aft b w w' → I w') → (∀ c, Z c → c < w.heap.size ∧ c ≠ b) → w.heap[b]? = some (.cells (List.toArray us) T (0, 0)) → RdL w Z cs us → DenL (lentE b Z) w args vs →
    Calls P f vs.toArray w fun e w' => Aft b w w' ∧ OutOf out b T w Z e w'
section
variable {C : Ctx} {E : Env} {s : Sy} {a : Act} {w w' : World}
theorem HpE.ownM (h : HpE C E s.L s.O w) {key : Nat} {x : TypeId × List SV} (hL : s.L key = some x) {k : Nat} (hk : k < C.w0.heap.size) (hm : ¬ C.M k) : k ≠ E.β key := fun e =>
  (h.locN key x hL).1.elim (fun h5 => by have := h5.2; omega) (fun h5 => hm (by rw [e]; exact h5.2))
theorem BelM.aft (h : BelM C w) {b : Nat} (hb : ∀ k, k < C.w0.heap.size → ¬ C.M k → k ≠ b) (ha : Aft b w w') : BelM C w' :=
  ⟨ha.os.trans h.os, ha.tape.trans h.tape, ha.output.trans h.output, Nat.le_trans h.size ha.size, fun k hk hm => (ha.block k (Nat.lt_of_lt_of_le hk h.size) (hb k hk hm)).trans (h.block k hk hm)⟩
theorem SatE.keepB (h : SatE C E s a w) {key : Nat} {x : TypeId × List SV} (hL : s.L key = some x) {Z' : Nat → Prop} (ha : Aft (E.β key) w w') : Keeps w E.Z w' (fun b => E.Z b ∨ Z' b) :=
  ⟨fun _ hz => .inl hz, fun b hz => ha.block b (h.hp.z b hz).1 fun e => (h.hp.locN key x hL).2 (e ▸ hz)⟩
/-- a box is lent, and comes back written -/
theorem SatE.boxTo (h : SatE C E s a w) {key : Nat} {T : TypeId} {cs0 : List SV} (hL : s.L key = some (T, cs0)) {d : Option Tmp} (hd : ∀ t, d = some t → t < s.N) {Z' : Nat → Prop} (ha : Aft (E.β key) w w') (hz : ∀ c, Z' c → c < w'.heap.size ∧ (E.Z c ∨ w.heap.size ≤ c))
    {us : List Value} {cs : List D} (hb : w'.heap[E.β key]? = some (.cells (List.toArray us) T (0, 0))) (hcs : RdL w' Z' cs us) {res : D} {v : Value} (hv : RdV w' Z' res v) :
    SatE C { E with Z := fun b => E.Z b ∨ Z' b } (apply d ⟨.d res, [(key, T, cs.map SV.d)], [], [], []⟩ s) (a.put d v) w' := by
  have hN := h.hp.locN key _ hL
  have hlt := h.hp.lt hL
  have hk := h.keepB (Z' := Z') hL ha
  have hk2 : Keeps w' Z' w' (fun b => E.Z b ∨ Z' b) := ⟨fun _ h => .inr h, fun _ _ => rfl⟩
  have hno : ∀ b, b < w.heap.size → ¬ E.Z b → ¬ (E.Z b ∨ Z' b) := fun b h1 h2 h3 => h3.elim h2 fun h4 => (hz b h4).2.elim h2 fun h5 => by omega
  have hL1 : ∀ key' x, (apply d ⟨.d res, [(key, T, cs.map SV.d)], [], [], []⟩ s).L key' = some x → (key' = key ∧ x = (T, cs.map SV.d)) ∨ (key' ≠ key ∧ s.L key' = some x) := fun key' x hx => by
    simp only [apply, klook] at hx
    by_cases hkd : key' = key
    · left; simp [hkd] at hx; exact ⟨hkd, hx.symm⟩
    · right; simp [hkd, killE_nil] at hx; exact ⟨hkd, hx⟩
  have hL2 : ∀ key' x, (apply d ⟨.d res, [(key, T, cs.map SV.d)], [], [], []⟩ s).L key' = some x → ∃ y, s.L key' = some y := fun key' x hx => (hL1 key' x hx).elim (fun h => ⟨(T, cs0), by rw [h.1]; exact hL⟩) (fun h => ⟨x, h.2⟩)
  have hO : ∀ key', (apply d ⟨.d res, [(key, T, cs.map SV.d)], [], [], []⟩ s).O key' = s.O key' := fun key' => by simp [apply, klook]
  have hs0 := h.hp.bel.size
  refine h.step (E' := { E with Z := fun b => E.Z b ∨ Z' b }) hd (r := ⟨.d res, [(key, T, cs.map SV.d)], [], [], []⟩) (fun sv v hv => by rw [kill_nil]; exact DenV.mono (E' := { E with Z := fun b => E.Z b ∨ Z' b }) hk rfl rfl hv) (by simp only [DenV]; exact hv.mono hk2)
    ⟨h.hp.bel.aft (fun k h1 h2 => h.hp.ownM hL h1 h2) ha, fun b hb1 => ?_, fun key' T' cs' he => ?_, fun key' x he => ?_, fun k1 k2 x x' he he' heq => ?_, fun key' o he => ?_, fun key' x g he hg => ?_, fun k1 k2 x x' g he he' hg hg' => ?_⟩ (fun b o hb' => ?_)
  · have hs := ha.size
    rcases hb1 with hb1 | hb1
    · have := h.hp.z b hb1; exact ⟨by omega, this.2⟩
    · have h2 := hz b hb1
      rcases h2.2 with h3 | h3
      · exact ⟨h2.1, (h.hp.z b h3).2⟩
      · exact ⟨h2.1, fun _ => by omega, .inr (by omega)⟩
  · rcases hL1 key' _ he with ⟨rfl, e1⟩ | ⟨hne, h1⟩
    · cases e1; exact ⟨us, hb, DenL_of_RdL (hcs.mono hk2)⟩
    · obtain ⟨us', h2, h3⟩ := h.hp.loc key' _ _ h1
      exact ⟨us', (ha.block _ (h.hp.lt h1) fun e => hne (h.hp.locD key' key _ _ h1 hL e)).trans h2, DenL.mono (E' := { E with Z := fun b => E.Z b ∨ Z' b }) hk rfl rfl h3⟩
  · obtain ⟨y, hy⟩ := hL2 key' x he
    have h1 := h.hp.locN key' y hy
    exact ⟨h1.1, hno _ (h.hp.lt hy) h1.2⟩
  · obtain ⟨y, hy⟩ := hL2 k1 x he
    obtain ⟨y', hy'⟩ := hL2 k2 x' he'
    exact h.hp.locD k1 k2 y y' hy hy' heq
  · rw [hO] at he
    obtain ⟨h0, h1⟩ := h.hp.own key' o he
    refine ⟨h0, h1.imp id ?_⟩
    rintro ⟨g, cap, us', h2, h3, h4, h5, h6, h7⟩
    exact ⟨g, cap, us', h2, h3, h4, (ha.block g (Array.getElem?_eq_some_iff.1 h5).1 fun e => (h.hp.ownN key' o g he (by rw [h2]; rfl)).2.2 key _ hL e.symm).trans h5, h6, fun i hi => (h7 i hi).mono hk⟩
  · rw [hO] at he
    have h1 := h.hp.ownN key' x g he hg
    refine ⟨h1.1, hno _ (h.hp.ltO he hg) h1.2.1, fun k2 e2 he2 => ?_⟩
    obtain ⟨y, hy⟩ := hL2 k2 e2 he2
    exact h1.2.2 k2 y hy
  · rw [hO] at he he'
    exact h.hp.ownD k1 k2 x x' g he he' hg hg'
  · obtain ⟨p1, p2, p3, p4, p5⟩ := h.pins b o hb'
    have hblt : b < w.heap.size := (Array.getElem?_eq_some_iff.1 p1).1
    refine ⟨(ha.block b hblt fun e => p4 key _ hL e.symm).trans p1, p2, hno _ hblt p3, fun key' x he => ?_, fun key' x he => ?_⟩
    · obtain ⟨y, hy⟩ := hL2 key' x he; exact p4 key' y hy
    · rw [hO] at he; exact p5 key' x he
end
section
variable {C : Ctx} {E : Env} {s : Stt} {a : Act} {w w' : World}
/-- a box is lent, and is not asked for any more -/
theorem SatE.boxLost (h : SatE C E s.sy a w) {key : Nat} {x : TypeId × List SV} (hL : klook key s.L = some x) {Z' : Nat → Prop} (ha : Aft (E.β key) w w') (hz : ∀ c, Z' c → c < w'.heap.size ∧ (E.Z c ∨ w.heap.size ≤ c)) :
    SatE C { E with Z := fun b => E.Z b ∨ Z' b } (Stt.mk s.N s.df s.S (delK key s.L) s.O s.fz s.pin).sy a w' := by
  have hL' : s.sy.L key = some x := hL
  have hk := h.keepB (Z' := Z') hL' ha
  have hno : ∀ b, b < w.heap.size → ¬ E.Z b → ¬ (E.Z b ∨ Z' b) := fun b h1 h2 h3 => h3.elim h2 fun h4 => (hz b h4).2.elim h2 fun h5 => by omega
  have hL1 : ∀ key' x, klook key' (delK key s.L) = some x → key' ≠ key ∧ s.sy.L key' = some x := fun key' x hx => by
    rw [look_delK] at hx
    by_cases e : key' = key
    · simp [e] at hx
    · rw [if_neg e] at hx; exact ⟨e, hx⟩
  have hm : ∀ sv v, DenV E w sv v → DenV { E with Z := fun b => E.Z b ∨ Z' b } w' sv v := fun sv v hv => DenV.mono (E' := { E with Z := fun b => E.Z b ∨ Z' b }) hk rfl rfl hv
  have hs0 := h.hp.bel.size
  refine ⟨h.sz, h.df, fun t sv ht => let ⟨v, h1, h2⟩ := h.slots t sv ht; ⟨v, h1, hm _ _ h2⟩, ⟨h.hp.bel.aft (fun k h1 h2 => h.hp.ownM hL' h1 h2) ha, fun b hb1 => ?_, fun key' T' cs' he => ?_, fun key' x he => ?_, fun k1 k2 x x' he he' heq => ?_, fun key' o he => ?_, fun key' x g he hg => ?_, h.hp.ownD⟩, fun b o hb' => ?_, h.waits.mono hm⟩
  · have hs := ha.size
    rcases hb1 with hb1 | hb1
    · have := h.hp.z b hb1; exact ⟨by omega, this.2⟩
    · have h2 := hz b hb1
      rcases h2.2 with h3 | h3
      · exact ⟨h2.1, (h.hp.z b h3).2⟩
      · exact ⟨h2.1, fun _ => by omega, .inr (by omega)⟩
  · obtain ⟨hne, h1⟩ := hL1 key' _ he
    obtain ⟨us', h2, h3⟩ := h.hp.loc key' _ _ h1
    exact ⟨us', (ha.block _ (h.hp.lt h1) fun e => hne (h.hp.locD key' key _ _ h1 hL' e)).trans h2, DenL.mono (E' := { E with Z := fun b => E.Z b ∨ Z' b }) hk rfl rfl h3⟩
  · obtain ⟨_, hy⟩ := hL1 key' x he
    have h1 := h.hp.locN key' _ hy
    exact ⟨h1.1, hno _ (h.hp.lt hy) h1.2⟩
  · exact h.hp.locD k1 k2 _ _ (hL1 k1 x he).2 (hL1 k2 x' he').2 heq
  · obtain ⟨h0, h1⟩ := h.hp.own key' o he
    refine ⟨h0, h1.imp id ?_⟩
    rintro ⟨g, cap, us', h2, h3, h4, h5, h6, h7⟩
    exact ⟨g, cap, us', h2, h3, h4, (ha.block g (Array.getElem?_eq_some_iff.1 h5).1 fun e => (h.hp.ownN key' o g he (by rw [h2]; rfl)).2.2 key _ hL' e.symm).trans h5, h6, fun i hi => (h7 i hi).mono hk⟩
  · have h1 := h.hp.ownN key' x g he hg
    exact ⟨h1.1, hno _ (h.hp.ltO he hg) h1.2.1, fun k2 e2 he2 => h1.2.2 k2 _ (hL1 k2 e2 he2).2⟩
  · obtain ⟨p1, p2, p3, p4, p5⟩ := h.pins b o hb'
    have hblt : b < w.heap.size := (Array.getElem?_eq_some_iff.1 p1).1
    exact ⟨(ha.block b hblt fun e => p4 key _ hL' e.symm).trans p1, p2, hno _ hblt p3, fun key' x he => p4 key' _ (hL1 key' x he).2, p5⟩
end
/-! ### what is called, with what -/
def callAll : SV → List SV → Option (Nat × List SV)
  | .fn f caps, svs => some (f, svs ++ caps)
  | .mv f first, svs => some (f, first ++ svs)
  | .d (.fn f ds), svs => some (f, svs ++ ds.map SV.d)
  | _, _ => none
theorem callAll_run {P : Program} {E : Env} {w : World} {sv : SV} {svs all : List SV} {g : Nat} (hc : callAll sv svs = some (g, all)) (hg : Enters P g) {v : Value} {vs : List Value} (hv : DenV E w sv v) (hvs : DenL E w svs vs) :
    ∃ us : List Value, DenL E w all us ∧ (Deferred.ofValue v vs.toArray >>= fun d => invoke d.target d.args).run P w = .ok (.enter g us.toArray) w := by
  cases sv with
  | fn f caps =>
    simp [callAll] at hc; obtain ⟨rfl, rfl⟩ := hc
    simp only [DenV] at hv
    obtain ⟨cs, rfl, h⟩ := hv
    exact ⟨vs ++ cs, DenL_append hvs h, by simp [Deferred.ofValue, invoke, hg.run]⟩
  | mv f first =>
    simp [callAll] at hc; obtain ⟨rfl, rfl⟩ := hc
    simp only [DenV] at hv
    obtain ⟨cs, rfl, h⟩ := hv
    exact ⟨cs ++ vs, DenL_append h hvs, by simp [Deferred.ofValue, invoke, hg.run]⟩
  | d x =>
    cases x with
    | fn f ds =>
      simp [callAll] at hc; obtain ⟨rfl, rfl⟩ := hc
      simp only [DenV, RdV] at hv
      obtain ⟨cs, rfl, h⟩ := hv
      exact ⟨vs ++ cs, DenL_append hvs (DenL_of_RdL h), by simp [Deferred.ofValue, invoke, hg.run]⟩
    | _ => simp [callAll] at hc
  | _ => simp [callAll] at hc
mutual
/-- an argument as the callee names it -/
def lendV (key : Nat) : SV → Option SV
  | .d x => some (.d x)
  | .lp k off => if k = key then some (.lp 900 off) else none
  | .fn f caps => match lendL key caps with | some l => some (.fn f l) | none => none
  | .mv f caps => match lendL key caps with | some l => some (.mv f l) | none => none
  | _ => none
def lendL (key : Nat) : List SV → Option (List SV)
  | [] => some []
  | sv :: r => match lendV key sv, lendL key r with | some x, some l => some (x :: l) | _, _ => none
end
mutual
theorem lendV_den {E : Env} {w : World} {key : Nat} : ∀ {sv sv' : SV} {v : Value}, lendV key sv = some sv' → DenV E w sv v → DenV (lentE (E.β key) E.Z) w sv' v
  | .d x, sv', v, h, hv => by simp [lendV] at h; subst h; simp only [DenV, lentE] at hv ⊢; exact hv
  | .lp k off, sv', v, h, hv => by
    simp only [lendV] at h
    split at h
    · rename_i e; subst e; cases h; simp only [DenV, lentE] at hv ⊢; exact hv
    · cases h
  | .fn f caps, sv', v, h, hv => by
    simp only [lendV] at h
    split at h
    · rename_i l hl; cases h
      simp only [DenV] at hv ⊢
      obtain ⟨vs, h1, h2⟩ := hv
      exact ⟨vs, h1, lendL_den hl h2⟩
    · cases h
  | .mv f caps, sv', v, h, hv => by
    simp only [lendV] at h
    split at h
    · rename_i l hl; cases h
      simp only [DenV] at hv ⊢
      obtain ⟨vs, h1, h2⟩ := hv
      exact ⟨vs, h1, lendL_den hl h2⟩
    · cases h
  | .own _, _, _, h, _ => by simp [lendV] at h
  | .oa _ _ _ _, _, _, h, _ => by simp [lendV] at h
  | .op _ _, _, _, h, _ => by simp [lendV] at h
  | .sg _, _, _, h, _ => by simp [lendV] at h
  | .junk, _, _, h, _ => by simp [lendV] at h
theorem lendL_den {E : Env} {w : World} {key : Nat} : ∀ {svs svs' : List SV} {vs : List Value}, lendL key svs = some svs' → DenL E w svs vs → DenL (lentE (E.β key) E.Z) w svs' vs
  | [], svs', vs, h, hv => by simp [lendL] at h; subst h; simpa [DenL] using hv
  | sv :: r, svs', vs, h, hv => by
    simp only [lendL] at h
    split at h
    · rename_i x l hx hl; cases h
      simp only [DenL] at hv ⊢
      obtain ⟨v, vs', e, h1, h2⟩ := hv
      exact ⟨v, vs', e, lendV_den hx h1, lendL_den hl h2⟩
    · cases h
end
/-! ### calls of such functions -/
section
variable {I : World → Prop} {P : Program} {C : Ctx} {o : Oper}
/-- what is known where such a call is made -/
theorem lend_call (hI : ∀ w, BelM C w → I w) {s : Sy} {E : Env} {a : Act} {w : World} (hE : SatE C E s a w) {g : Nat} {T : TypeId} {ds : List D} {args' : List SV} {out : Out} (h : FnM I P g T ds args' out) {key : Nat} {cells : List SV} (hL : s.L key = some (T, cells)) (hds : allD cells = some ds)
    {all : List SV} {us : List Value} (hl : lendL key all = some args') (hu : DenL E w all us) : Calls P g us.toArray w fun e w' => Aft (E.β key) w w' ∧ OutOf out (E.β key) T w E.Z e w' := by
  obtain ⟨bs, hb1, hb2⟩ := h_loc hE hL
  exact h.2 w E.Z (E.β key) bs us (hI w hE.hp.bel) (fun w' ha => hI w' (hE.hp.bel.aft (fun k h1 h2 => hE.hp.ownM hL h1 h2) ha)) (fun c hc => ⟨(hE.hp.z c hc).1, fun e => (hE.hp.locN key _ hL).2 (e ▸ hc)⟩) hb1 (RdL_of_DenL hds hb2) (lendL_den hl hu)
where h_loc {s : Sy} {E : Env} {a : Act} {w : World} (hE : SatE C E s a w) {key : Nat} {T : TypeId} {cells : List SV} (hL : s.L key = some (T, cells)) := hE.hp.loc key T cells hL
theorem argsO_den {s s' : Sy} {E : Env} {a : Act} {w : World} (hext : Ext o s s') (hE : SatE C E s' a w) : ∀ {l : List Operand} {svs : List SV}, (∀ x ∈ l, x ∈ o.op.operands) → l.mapM (evalO s.S) = some svs → DenL E w svs (l.map a.eval) := fun hm h => mapM_den hext hE hm h
theorem argsV_mapM {S : List (Nat × SV)} : ∀ {l : List Operand} {svs : List SV}, argsV S l = some svs → l.mapM (evalO fun t => klook t S) = some svs
  | [], svs, h => by simp [argsV] at h; subst h; rfl
  | x :: r, svs, h => by
    simp only [argsV] at h
    split at h
    · rename_i sv l h1 h2
      cases h
      rw [evalL_eq] at h1
      simp [h1, argsV_mapM h2]
    · cases h
theorem ok_callM (hI : ∀ w, BelM C w → I w) {st : Stt} {f : Operand} {args : Array Operand} {ts : Array TypeId} {sv : SV} {svs all : List SV} {g key : Nat} {T : TypeId} {cells : List SV} {ds cs' : List D} {args' : List SV} {res : D} (ho : o.op = .call { callee := .value f, args := args, argTypes := ts })
    (ht : ∀ t, o.dst = some t → t < st.N) (hf : evalL st.S f = some sv) (hargs : argsV st.S args.toList = some svs) (hc : callAll sv svs = some (g, all)) (hl : lendL key all = some args') (hL : klook key st.L = some (T, cells)) (hds : allD cells = some ds) (h : FnM I P g T ds args' (.ret cs' res)) :
    Ok1 P C o st.sy ⟨.d res, [(key, T, cs'.map SV.d)], [], [], []⟩ := by
  refine ⟨by simp [ho], fun s' hext a w ⟨E, hE⟩ => ?_⟩
  have hfv := hext.ev hE (x := f) (by simp [ho, Op.operands, Call.operands]) ((evalL_eq _ _).symm.trans hf)
  have hav := argsO_den hext hE (l := args.toList) (fun x hx => by simp [ho, Op.operands, Call.operands] at hx ⊢; exact .inr hx) (argsV_mapM hargs)
  obtain ⟨us, h1, h2⟩ := callAll_run (P := P) hc h.1 hfv hav
  have hL' : s'.L key = some (T, cells) := by rw [hext.l key (by rw [show st.sy.L key = _ from hL]; simp)]; exact hL
  have hr : (execOp a.eval o).run P w = .ok (.enter g us.toArray) w := by
    have e1 : args.map a.eval = (args.toList.map a.eval).toArray := Array.ext' (by simp)
    rw [← h2, ← e1]
    simp only [execOp, ho, resolve]
  have hcl := lend_call hI hE h hL' hds hl h1
  unfold gives
  rw [hr]
  refine hcl.mono ?_
  rintro e w' ⟨ha, v, Z', bs, rfl, hz, hb, hcs, hv⟩
  exact ⟨v, rfl, _, hE.boxTo hL' (fun t e => by rw [hext.n]; exact ht t e) ha hz hb hcs hv⟩
theorem kcallM (key : Nat) {ops : Array Oper} {r : List Oper} {i : Nat} {dl : List (Option Tmp)} {st : Stt} {Q : Sy → Prop} {te : TE} (hI : ∀ w, BelM C w → I w) (hte : TEok P te) (hw : wantR i dl st.S o = some true) (hd : dstOk o st.N = true) {f : Operand} {args : Array Operand} {ts : Array TypeId} {sv : SV} {svs all : List SV} {g : Nat} {T : TypeId} {cells : List SV} {ds cs' : List D} {args' : List SV} {res : D}
    (ho : o.op = .call { callee := .value f, args := args, argTypes := ts }) (hf : evalL st.S f = some sv) (hargs : argsV st.S args.toList = some svs) (hc : callAll sv svs = some (g, all)) (hl : lendL key all = some args') (hL : klook key st.L = some (T, cells)) (hds : allD cells = some ds)
    (h : FnM I P g T ds args' (.ret cs' res)) (hr : runL P C te ops (i + 1) (o.dst :: dl) r (applyL o.dst ⟨.d res, [(key, T, cs'.map SV.d)], [], [], []⟩ st) Q) : WalkI P C ops i dl (o :: r) st.sy Q :=
  walkI_step (fun _ hi => ok2_run (ok_callM hI ho (dstOk_spec hd) hf hargs hc hl hL hds h) (wantR_spec hi hw)) (runL_walk hte hr)
theorem ktcallM (key : Nat) {ops : Array Oper} {lt : Nat → Bool} {kl : List Nat} {r : List Oper} {i : Nat} {dl : List (Option Tmp)} {st : Stt} {Q : Sy → Prop} {te : TE} (hI : ∀ w, BelM C w → I w) (hte : TEok P te) (hw : wantR i dl st.S o = some true) (hd : dstOk o st.N = true) {f : Operand} {args : Array Operand} {ts : Array TypeId} {sv : SV} {svs all : List SV} {g : Nat} {T : TypeId} {cells : List SV} {ds cs' : List D} {args' : List SV} {res : D}
    (ho : o.op = .call { callee := .value f, args := args, argTypes := ts }) (hf : evalL st.S f = some sv) (hargs : argsV st.S args.toList = some svs) (hc : callAll sv svs = some (g, all)) (hl : lendL key all = some args') (hL : klook key st.L = some (T, cells)) (hds : allD cells = some ds)
    (hk : kl.contains (key + 100000) = false) (h : FnM I P g T ds args' (.ret cs' res)) (hr : runT P C te ops lt kl (i + 1) (o.dst :: dl) r (applyL o.dst ⟨.d res, [(key, T, cs'.map SV.d)], [], [], []⟩ st) Q) : WalkTI P C ops lt kl i dl (o :: r) st.sy Q :=
  walkTI_step (fun _ hi => ok2_run (ok_callM hI ho (dstOk_spec hd) hf hargs hc hl hL hds h) (wantR_spec hi hw)) (by simp only [nlOk, hk]; simp) (runT_walk hte hr)
end
/-! ### the body of such a function -/
def FnTM (P : Program) (f : FuncId) (cs : List Frame) (w : World) (Z : Nat → Prop) (b : Nat) (T : TypeId) (out : Out) (m : Machine) : Prop :=
  ∃ e w' fr, m = lone fr cs w' ∧ fr.fn = f ∧ fr.leaving P w' e ∧ Aft b w w' ∧ OutOf out b T w Z e w'
structure FnRunM (R : Rn) (I : World → Prop) (P : Program) (f : FuncId) (fn : Func) (T : TypeId) (out : Out) (b0 : Nat) : Prop where
  p : R.P = P
  bfn : R.b.fn = f
  kind : R.b.kind = .normal
  round : R.b.roundOf = none
  m : ∀ k, R.C.M k ↔ k = b0
  inv : ∀ w, BelM R.C w → I w
  func : P.funcs[f]? = some fn
  t : R.T = FnTM P f R.cs R.C.w0 R.C.Z0 b0 T out
theorem FnM_of {I : World → Prop} {P : Program} {f : FuncId} {fn : Func} {c : Code} {T : TypeId} {cs : List D} {args : List SV} {out : Out} {N : Nat} (hf : P.funcs[f]? = some fn) (hN : fn.ntmps = N) (hb : fn.body = some c) (hn : (fn.name == "runtime.NumGoroutine") = false) (hl : args.length ≤ N)
    (h : ∀ R b0, FnRunM R I P f fn T out b0 → Exec R [.code c] (Stt.mk N [] (slotsV 0 args) [(900, T, cs.map SV.d)] [] [] []).sy) : FnM I P f T cs args out := by
  subst hN
  refine ⟨⟨fn, hf, by simp [hb], hn⟩, fun w Z b0 us vs hi hi' hZ hb0 hus hv => ?_⟩
  intro fs
  let b : Frame := { (default : Frame) with fn := f, kind := .normal, roundOf := none }
  have hlen := DenL_length hv
  have henter : Frame.enter P f vs.toArray .normal = b.atR { tmps := vs.toArray ++ Array.replicate (fn.ntmps - vs.toArray.size) undef, defers := [] } [.code c] := by
    simp [Frame.enter, Frame.atR, hf, hb, b]
  have hblt : b0 < w.heap.size := (Array.getElem?_eq_some_iff.1 hb0).1
  have hx := h ⟨P, b, fs, FnTM P f fs w Z b0 T out, ⟨w, Z, fun k => k = b0⟩⟩ b0 ⟨rfl, rfl, rfl, rfl, fun _ => Iff.rfl, fun w' hb => hi' w' ⟨hb.os, hb.tape, hb.output, hb.size, fun k hk hne => hb.block k hk hne⟩, hf, rfl⟩
  obtain ⟨m', ⟨e, w', fr, rfl, h1, h2, h3, h4⟩, hst⟩ := hx { tmps := vs.toArray ++ Array.replicate (fn.ntmps - vs.toArray.size) undef, defers := [] } w (by
    refine ⟨lentE b0 Z, ?_, rfl, fun t sv hs => ?_, ⟨⟨rfl, rfl, rfl, Nat.le_refl _, fun _ _ _ => rfl⟩, fun b hb => ⟨(hZ b hb).1, fun _ h => (hZ b hb).2 h, .inl hb⟩, fun key T' cs' hk => ?_, fun key e hk => ?_, fun key key' e e' hk hk' _ => ?_, ?_, ?_, ?_⟩, fun b o hb => (nomatch hb), fun p hp => (nomatch hp)⟩
    · simp [Stt.sy]; omega
    · simp only [Stt.sy, look_slotsV, Nat.zero_le, if_true, Nat.sub_zero] at hs
      obtain ⟨v, h1, h2⟩ := DenL_get hv hs
      have hlt : t < vs.length := (List.getElem?_eq_some_iff.1 h1).1
      refine ⟨v, ?_, h2⟩
      rw [Array.getElem?_append_left (by simpa using hlt)]
      simpa using h1
    · simp only [Stt.sy, klook] at hk
      split at hk
      · cases hk; exact ⟨us, hb0, DenL_of_RdL hus⟩
      · cases hk
    · simp only [Stt.sy, klook] at hk
      split at hk
      · rename_i e1; subst e1; exact ⟨.inr ⟨by decide, rfl⟩, fun hz => (hZ b0 hz).2 rfl⟩
      · cases hk
    · simp only [Stt.sy, klook] at hk hk'
      split at hk
      · split at hk'
        · rename_i e1 e2; rw [e1, e2]
        · cases hk'
      · cases hk
    all_goals (intros; simp_all [Stt.sy, klook]))
  refine ⟨e, w', fr, ⟨h3, h4⟩, ?_, h1, h2⟩
  rw [henter]
  cases e with
  | returned v => exact hst
  | panicked ch => exact hst
  | outgrown => cases out <;> simp [OutOf] at h4
/-- a return from such a function -/
theorem Exec.retsMu {te : TE} {I : World → Prop} {P : Program} {b : Frame} {cs : List Frame} {T : Machine → Prop} {C : Ctx} {f : FuncId} {fn : Func} {Ty : TypeId} {out : Out} {b0 : Nat} (hR : FnRunM ⟨P, b, cs, T, C⟩ I P f fn Ty out b0) (hte : TEok P te) {s : Stt} {rv : List ResultVar} (hrv : fn.results.toList = rv) (hdf : Marks s.df s.pin) {k : List Item} {ds : List D} (hr : resV te s rv = some ds)
    {cells : List SV} (hL : klook 900 s.L = some (Ty, cells)) {cs1 : List D} (hcs : toD1s (fun k => klook k s.O) cells = some cs1) (he : ∃ cs' res, out = .ret cs' res ∧ LeXs cs1 cs' ∧ LeX (resD ds) res) (hk : k = [] ∨ ∃ k', k = .code .ret :: k') : Exec ⟨P, b, cs, T, C⟩ k s.sy := by
  subst hrv
  obtain ⟨cs', res, rfl, he⟩ := he
  intro a w ⟨E0, hE0⟩
  obtain ⟨a, w, pin, hE, hst⟩ := hdf.run (P := P) (b := b) (cs := cs) (k := k) hE0
  have hr : resV te (Stt.mk s.N [] s.S s.L s.O s.fz pin) fn.results.toList = some ds := by rw [← hr]; exact resV_same (s := Stt.mk s.N [] s.S s.L s.O s.fz pin) (s' := s) rfl rfl rfl
  obtain ⟨vs, h1, h2⟩ := resV_run (P := P) (s := Stt.mk s.N [] s.S s.L s.O s.fz pin) hte hE hr
  have hb0 : E0.β 900 = b0 := by
    rcases (hE.hp.locN 900 _ hL).1 with ⟨h3, _⟩ | ⟨_, h3⟩
    · exact absurd h3 (by decide)
    · exact (hR.m _).1 h3
  obtain ⟨us, h3, h4⟩ := hE.hp.loc 900 _ _ hL
  rw [hb0] at h3
  have h5 := toD1s_den (s := (Stt.mk s.N [] s.S s.L s.O s.fz pin).sy) hE hcs h4
  have hres : ∃ v, (results fn a.tmps).run P w = .ok v w ∧ RdV w (Zf E0 s.sy.L s.sy.O) res v := by
    have hm : (fn.results.mapM (rvSem a.tmps)).run P w = .ok vs.toArray w := by
      rw [Array.mapM_eq_mapM_toList]
      simp [Sem.run_bind, h1]
    refine (?_ : ∃ v, (results fn a.tmps).run P w = .ok v w ∧ RdV w (Zf E0 s.sy.L s.sy.O) (resD ds) v).imp fun v hv => ⟨hv.1, he.2.le _ _ _ hv.2⟩
    have hlen := RdL_length h2
    match ds, vs, hlen, h2, hm with
    | [d], [v], _, h2, hm =>
      refine ⟨v, ?_, by simp only [RdL] at h2; obtain ⟨v', vs', e, h3, _⟩ := h2; simp at e; rw [e.1]; exact h3⟩
      rw [results_eq]
      simp only [Sem.run_bind, hm, Result.andThen_ok]
      rfl
    | [], [], _, h2, hm =>
      refine ⟨.tuple #[], ?_, by simp only [resD, RdV]; exact ⟨[], rfl, h2⟩⟩
      rw [results_eq]
      simp only [Sem.run_bind, hm, Result.andThen_ok]
      rfl
    | d :: d' :: ds, v :: v' :: vs, _, h2, hm =>
      refine ⟨.tuple (v :: v' :: vs).toArray, ?_, by simp only [resD, RdV]; exact ⟨_, rfl, h2⟩⟩
      rw [results_eq]
      simp only [Sem.run_bind, hm, Result.andThen_ok]
      simp
  obtain ⟨v, h6, h7⟩ := hres
  have hbel := hE.hp.bel
  refine ⟨lone { b.atR a k with mode := .returning } cs w, ?_, ?_⟩
  · rw [show T = _ from hR.t]
    refine ⟨.returned v, w, _, rfl, hR.bfn, ⟨rfl, hE.df, hR.kind, fn, ?_, h6⟩, ⟨hbel.os, hbel.tape, hbel.output, hbel.size, fun k hk hne => hbel.block k hk fun hm => hne ((hR.m k).1 hm)⟩, v, _, us, rfl, fun c hc => Zf_lt hE hc, h3, (LeXs.le he.1).rd h5, h7⟩
    show P.funcs[b.fn]? = some fn
    rw [hR.bfn]; exact hR.func
  · rcases hk with rfl | ⟨k', rfl⟩
    · exact .head (stepR_end hR.round) hst
    · exact .head (stepR_ret hR.round) hst
attribute [go_sem] callAll lendV lendL
end Go.Kin
namespace Go.Kin
open Go.RowKit
/-! ### panics on their way out -/
/-- raised with a value that reads as d, from a state: carried out to the goal -/
def ExecP (R : Rn) (d : D) (s : Sy) : Prop := ∀ a w k v, (∃ E, SatE R.C E s a w ∧ RdV w E.Z d v) → ∃ m', R.T m' ∧ Steps R.P (lone { R.b.atR a k with mode := .panicking [{ v, recovered := false }] } R.cs w) m'
/-- a call that panics -/
theorem Exec.callP (key : Nat) {I : World → Prop} {P : Program} {b : Frame} {cs : List Frame} {T : Machine → Prop} {C : Ctx} {k : List Item} {s : Stt} {ops : Array Oper} {i : Nat} {rest : List Nat} {o : Oper} (hI : ∀ w, BelM C w → I w) {f : Operand} {args : Array Operand} {ts : Array TypeId} {sv : SV} {svs all : List SV} {g : Nat} {Ty : TypeId} {cells : List SV} {ds : List D} {args' : List SV} {d : D}
    (ho : ops[i]? = some o) (hgd : o.guard = none) (hop : o.op = .call { callee := .value f, args := args, argTypes := ts }) (hf : evalL s.S f = some sv) (hargs : argsV s.S args.toList = some svs) (hc : callAll sv svs = some (g, all)) (hl : lendL key all = some args') (hL : klook key s.L = some (Ty, cells)) (hds : allD cells = some ds)
    (h : FnM I P g Ty ds args' (.pan d)) (hx : ExecP ⟨P, b, cs, T, C⟩ d (Stt.mk s.N s.df s.S (delK key s.L) s.O s.fz s.pin).sy) : Exec ⟨P, b, cs, T, C⟩ (.inRegion ops (i :: rest) :: k) s.sy := by
  intro a w ⟨E, hE⟩
  have hfv := evalO_den (s := s.sy) hE ((evalL_eq _ _).symm.trans hf)
  have hav := argsV_den hE hargs
  obtain ⟨us, h1, h2⟩ := callAll_run (P := P) hc h.1 hfv hav
  have hw : Region.wanted o (yielded ops a.tmps) = true := by unfold Region.wanted; rw [hgd]
  have hg := stepGR_op (P := P) (b := b) (k := k) (cs := cs) (w := w) (a := a) (rest := rest) ho hw
  rw [Oper.semAt_eq _ _ _ (by simp [hop])] at hg
  have hr : (execOp a.eval o).run P w = .ok (.enter g us.toArray) w := by
    have e1 : args.map a.eval = (args.toList.map a.eval).toArray := Array.ext' (by simp)
    rw [← h2, ← e1]
    simp only [execOp, hop, resolve]
  obtain ⟨e, w', fr, ⟨ha, hout⟩, hst, _, hlv⟩ := lend_call (s := s.sy) hI hE h hL hds hl h1 (b.atR a (.inRegion ops (i :: rest) :: k) :: cs)
  obtain ⟨v, Z', rfl, hz, hv⟩ := hout
  obtain ⟨m', h3, h4⟩ := hx a w' (.inRegion ops (i :: rest) :: k) v ⟨_, hE.boxLost hL ha hz, hv.mono ⟨fun _ h => .inr h, fun _ _ => rfl⟩⟩
  refine ⟨m', h3, .head (m₁ := lone (Frame.enter P g us.toArray .normal) (b.atR a (.inRegion ops (i :: rest) :: k) :: cs) w) (step_lone_go (by rw [hg]; simp [stepG.apply, hr, Frame.atR])) (Steps.trans hst (.head (step_leave_panicked hlv) ?_))⟩
  exact h4
/-- the panic itself -/
theorem Exec.panicOp {P : Program} {b : Frame} {cs : List Frame} {T : Machine → Prop} {C : Ctx} {k : List Item} {s : Stt} {ops : Array Oper} {i : Nat} {rest : List Nat} {o : Oper} {x : Operand} {t : TypeId} {d : D}
    (ho : ops[i]? = some o) (hgd : o.guard = none) (hop : o.op = .panic x) (hx : evalL s.S x = some (.d (.ifc t d))) (h : ExecP ⟨P, b, cs, T, C⟩ (.ifc t d) s.sy) : Exec ⟨P, b, cs, T, C⟩ (.inRegion ops (i :: rest) :: k) s.sy := by
  intro a w ⟨E, hE⟩
  have hv := evalO_den (s := s.sy) hE ((evalL_eq _ _).symm.trans hx)
  simp only [DenV] at hv
  have hv0 := hv
  simp only [RdV] at hv
  obtain ⟨v', e1, h2⟩ := hv
  have hw : Region.wanted o (yielded ops a.tmps) = true := by unfold Region.wanted; rw [hgd]
  have hg := stepGR_op (P := P) (b := b) (k := k) (cs := cs) (w := w) (a := a) (rest := rest) ho hw
  rw [Oper.semAt_eq _ _ _ (by simp [hop])] at hg
  have hr : (execOp a.eval o).run P w = .halt (.panic (a.eval x)) w := by
    simp [execOp, hop, e1, Instr.panic, goPanic, Sem.run]
  obtain ⟨m', h3, h4⟩ := h a w (.inRegion ops (i :: rest) :: k) (a.eval x) ⟨E, hE, hv0⟩
  exact ⟨m', h3, .head (step_lone_go (by rw [hg]; simp [stepG.apply, hr, Frame.atR, Frame.raise])) h4⟩
theorem ExecP.ren {R : Rn} {d : D} {s : Stt} (π : Swp) (h : ExecP R d (renSt π s).sy) : ExecP R d s.sy := fun a w k v ⟨E, hE, hv⟩ => h a w k v ⟨renE π E, hE.ren π, hv⟩
theorem ExecP.norm {R : Rn} {d : D} {s s' : Stt} (h : s = s') (hk : ExecP R d s'.sy) : ExecP R d s.sy := h ▸ hk
theorem Marks.runP {P : Program} {b : Frame} {cs : List Frame} {C : Ctx} {k : List Item} {N : Nat} {S : List (Nat × SV)} {L : List (Nat × TypeId × List SV)} {O : List (Nat × Ow)} {fz : List (Act × List (Nat × SV))} {df : List Deferred} {pin : List (Nat × Obj)} {fm : FrameMode} (hfm : fm ≠ .run) (h : Marks df pin) :
    ∀ {E : Env} {a : Act} {w : World}, SatE C E (Stt.mk N df S L O fz pin).sy a w → ∃ a' w' pin', SatE C E (Stt.mk N [] S L O fz pin').sy a' w' ∧ (∀ b, E.Z b → w'.heap[b]? = w.heap[b]?) ∧ Steps P (lone { b.atR a k with mode := fm } cs w) (lone { b.atR a' k with mode := fm } cs w') := by
  induction h with
  | nil => exact fun {E a w} hE => ⟨a, w, _, hE, fun _ _ => rfl, Steps.refl _ _⟩
  | @cons r df pin hf _ ih =>
    intro E a w hE
    have hr : w.heap[r]? = some (.deferred (some [])) := (hE.pins r _ (by simp [Stt.sy])).1
    have hrz := (hE.pins r (.deferred (some [])) (by simp [Stt.sy])).2.2.1
    have h1 := (hE.pinSet (o' := .deferred none) rfl hf).pinDrop rfl
    have h2 : SatE C E (Stt.mk N df S L O fz pin).sy { a with defers := df } (w.putObj r (.deferred none)) := ⟨h1.sz, rfl, h1.slots, h1.hp, h1.pins, h1.waits⟩
    obtain ⟨a', w', pin', h3, h5, h4⟩ := ih h2
    refine ⟨a', w', pin', h3, fun b hb => (h5 b hb).trans (putObj_heap b fun e => hrz (e ▸ hb)), .head (step_collected (fr := { b.atR a k with mode := fm }) (d := markD r) (ds := df) (r := r) (calls := []) hfm ?_ rfl (run_takeDeferred hr)) h4⟩
    exact hE.df
/-- a function leaves with a panic -/
theorem ExecP.endM {I : World → Prop} {P : Program} {b : Frame} {cs : List Frame} {T : Machine → Prop} {C : Ctx} {f : FuncId} {fn : Func} {Ty : TypeId} {d : D} {out : Out} {b0 : Nat} (hR : FnRunM ⟨P, b, cs, T, C⟩ I P f fn Ty out b0) {s : Stt} (hdf : Marks s.df s.pin) (hd : ∃ d', out = .pan d' ∧ LeX d d') : ExecP ⟨P, b, cs, T, C⟩ d s.sy := by
  obtain ⟨d', rfl, hd⟩ := hd
  intro a w k v ⟨E, hE0, hv⟩
  obtain ⟨a', w', pin, hE, hz, hst⟩ := hdf.runP (P := P) (b := b) (cs := cs) (k := k) (fm := .panicking [{ v, recovered := false }]) (by simp) hE0
  have hbel := hE.hp.bel
  refine ⟨_, ?_, hst⟩
  rw [show T = _ from hR.t]
  refine ⟨.panicked [{ v, recovered := false }], w', _, rfl, hR.bfn, ⟨rfl, hE.df, fn, ?_⟩, ⟨hbel.os, hbel.tape, hbel.output, hbel.size, fun k hk hne => hbel.block k hk fun hm => hne ((hR.m k).1 hm)⟩, v, E.Z, rfl, fun c hc => ⟨(hE.hp.z c hc).1, (hE.hp.z c hc).2.2⟩, hd.le _ _ _ (hv.mono ⟨fun _ h => h, hz⟩)⟩
  show P.funcs[b.fn]? = some fn
  rw [hR.bfn]; exact hR.func
/-- out of an activation into the one that waits -/
theorem ExecP.popC {P : Program} {b b' : Frame} {cs : List Frame} {T : Machine → Prop} {C : Ctx} {k' : List Item} {ops : Array Oper} {i : Nat} {rest : List Nat} {s : Stt} {fu : Func} {ag : Act} {Sg : List (Nat × SV)} {fz : List (Act × List (Nat × SV))} {Ng : Nat} {dfg : List Deferred} {d : D}
    (hf : P.funcs[b'.fn]? = some fu) (hdf : s.df = []) (hfz : s.fz = (ag, Sg) :: fz) (hag : ag.tmps.size = Ng) (hagd : ag.defers = dfg) (h : ExecP ⟨P, b, cs, T, C⟩ d (Stt.mk Ng dfg Sg s.L s.O fz s.pin).sy) : ExecP ⟨P, b', b.atR ag (.inRegion ops (i :: rest) :: k') :: cs, T, C⟩ d s.sy := by
  intro a w k v ⟨E, hE, hv⟩
  obtain ⟨m', h1, h2⟩ := h ag w (.inRegion ops (i :: rest) :: k') v ⟨E, ⟨hag, hagd, fun t sv ht => hE.waits (ag, Sg) (by simp [Stt.sy, hfz]) t sv ht, hE.hp, hE.pins, fun p hp => hE.waits p (by simp only [Stt.sy, hfz]; exact List.mem_cons_of_mem _ hp)⟩, hv⟩
  refine ⟨m', h1, .head (step_leave_panicked (fr := { b'.atR a k with mode := .panicking [{ v, recovered := false }] }) (chain := [{ v, recovered := false }]) ⟨rfl, hE.df.trans hdf, fu, hf⟩) h2⟩
/-- out of an iterator into the function whose loop it runs -/
theorem ExecP.popR {P : Program} {b b' : Frame} {cs : List Frame} {T : Machine → Prop} {C : Ctx} {k' : List Item} {l r : Nat} {s : Stt} {fu : Func} {ao : Act} {So : List (Nat × SV)} {fz : List (Act × List (Nat × SV))} {p : Nat × Obj} {pin : List (Nat × Obj)} {No : Nat} {df : List Deferred} {d : D}
    (hf : P.funcs[b'.fn]? = some fu) (hdf : s.df = []) (hpin : s.pin = p :: pin) (hfz : s.fz = (ao, So) :: fz) (hao : ao.tmps.size = No) (haod : ao.defers = df) (h : ExecP ⟨P, b, cs, T, C⟩ d (Stt.mk No (markD r :: df) So s.L s.O fz pin).sy) :
    ExecP ⟨P, b', b.atR { ao with defers := markD r :: ao.defers } (.inRangeFunc l :: k') :: cs, T, C⟩ d s.sy := by
  intro a w k v ⟨E, hE, hv⟩
  have hE1 := hE.pinDrop hpin
  obtain ⟨m', h1, h2⟩ := h { ao with defers := markD r :: ao.defers } w (.inRangeFunc l :: k') v ⟨E, ⟨hao, by simp only [Stt.sy, haod], fun t sv ht => hE1.waits (ao, So) (by simp [Stt.sy, hfz]) t sv ht, hE1.hp, hE1.pins, fun p hp => hE1.waits p (by simp only [Stt.sy, hfz]; exact List.mem_cons_of_mem _ hp)⟩, hv⟩
  refine ⟨m', h1, .head (step_leave_panicked (fr := { b'.atR a k with mode := .panicking [{ v, recovered := false }] }) (chain := [{ v, recovered := false }]) ⟨rfl, hE.df.trans hdf, fu, hf⟩) h2⟩
/-! ### a region that draws its order and ends in a panic -/
theorem SatE.less {C : Ctx} {E : Env} {s s' : Sy} {a : Act} {w : World} (hN : s'.N = s.N) (hdf : s'.df = s.df) (hS : ∀ t sv, s'.S t = some sv → s.S t = some sv) (hL : ∀ t e, s'.L t = some e → s.L t = some e) (hO : ∀ t e, s'.O t = some e → s.O t = some e) (hfz : s'.fz = s.fz) (hpin : s'.pin = s.pin) (hE : SatE C E s a w) : SatE C E s' a w :=
  ⟨hE.sz.trans hN.symm, hE.df.trans hdf.symm, fun t sv hs => hE.slots t sv (hS t sv hs), ⟨hE.hp.bel, hE.hp.z, fun key T cs hk => hE.hp.loc key T cs (hL _ _ hk), fun key e hk => hE.hp.locN key e (hL _ _ hk),
    fun key key' e e' hk hk' heq => hE.hp.locD key key' e e' (hL _ _ hk) (hL _ _ hk') heq, fun key e hk => hE.hp.own key e (hO _ _ hk), fun key e g hk hg => let h := hE.hp.ownN key e g (hO _ _ hk) hg; ⟨h.1, h.2.1, fun key' e' hk' => h.2.2 key' e' (hL _ _ hk')⟩,
    fun key key' e e' g hk hk' => hE.hp.ownD key key' e e' g (hO _ _ hk) (hO _ _ hk')⟩, fun b o hb => (by
      rw [hpin] at hb
      obtain ⟨p1, p2, p3, p4, p5⟩ := hE.pins b o hb
      exact ⟨p1, p2, p3, fun key e he => p4 key e (hL _ _ he), fun key e he => p5 key e (hO _ _ he)⟩), by rw [hfz]; exact hE.waits⟩
theorem EndsT.callP (key : Nat) {I : World → Prop} {P : Program} {b : Frame} {cs : List Frame} {T : Machine → Prop} {C : Ctx} {k : List Item} {st : Stt} {ops : Array Oper} {n : Nat} {o : Oper} (hI : ∀ w, BelM C w → I w) {f : Operand} {args : Array Operand} {ts : Array TypeId} {sv : SV} {svs all : List SV} {g : Nat} {Ty : TypeId} {cells : List SV} {ds : List D} {args' : List SV} {d : D}
    (ho : ops[n]? = some o) (hgd : o.guard = none) (hop : o.op = .call { callee := .value f, args := args, argTypes := ts }) (hf : evalL st.S f = some sv) (hargs : argsV st.S args.toList = some svs) (hc : callAll sv svs = some (g, all)) (hl : lendL key all = some args') (hL : klook key st.L = some (Ty, cells)) (hds : allD cells = some ds)
    (h : FnM I P g Ty ds args' (.pan d)) (hx : ExecP ⟨P, b, cs, T, C⟩ d (Stt.mk st.N st.df [] (delK key st.L) st.O st.fz st.pin).sy) : EndsT ⟨P, b, cs, T, C⟩ k ops n st.sy := by
  refine ⟨o, ho, fun s' hext hfz hpin rest a w ⟨E, hE⟩ => ?_⟩
  have hfv := hext.ext.ev hE (x := f) (by simp [hop, Op.operands, Call.operands]) ((evalL_eq _ _).symm.trans hf)
  have hav := argsO_den hext.ext hE (l := args.toList) (fun x hx => by simp [hop, Op.operands, Call.operands] at hx ⊢; exact .inr hx) (argsV_mapM hargs)
  have hE2 : SatE C E (Stt.mk st.N st.df [] st.L st.O st.fz st.pin).sy a w := SatE.less (s := s') (s' := (Stt.mk st.N st.df [] st.L st.O st.fz st.pin).sy) hext.n.symm hext.df.symm (fun t sv ht => by simp [Stt.sy, klook] at ht)
    (fun t e he => by have h1 : st.sy.L t = some e := he; rw [hext.l t (by rw [h1]; simp)]; exact h1) (fun t e he => by have h1 : st.sy.O t = some e := he; rw [hext.o t (by rw [h1]; simp)]; exact h1) hfz.symm hpin.symm hE
  obtain ⟨us, h1, h2⟩ := callAll_run (P := P) hc h.1 hfv hav
  have hw : Region.wanted o (yielded ops a.tmps) = true := by unfold Region.wanted; rw [hgd]
  have hg := stepGR_op (P := P) (b := b) (k := k) (cs := cs) (w := w) (a := a) (rest := rest) ho hw
  rw [Oper.semAt_eq _ _ _ (by simp [hop])] at hg
  have hr : (execOp a.eval o).run P w = .ok (.enter g us.toArray) w := by
    have e1 : args.map a.eval = (args.toList.map a.eval).toArray := Array.ext' (by simp)
    rw [← h2, ← e1]
    simp only [execOp, hop, resolve]
  obtain ⟨e, w', fr, ⟨ha, hout⟩, hst, _, hlv⟩ := lend_call (s := (Stt.mk st.N st.df [] st.L st.O st.fz st.pin).sy) hI hE2 h hL hds hl h1 (b.atR a (.inRegion ops (n :: rest) :: k) :: cs)
  obtain ⟨v, Z', rfl, hz, hv⟩ := hout
  obtain ⟨m', h3, h4⟩ := hx a w' (.inRegion ops (n :: rest) :: k) v ⟨_, hE2.boxLost hL ha hz, hv.mono ⟨fun _ h => .inr h, fun _ _ => rfl⟩⟩
  exact ⟨m', h3, .head (m₁ := lone (Frame.enter P g us.toArray .normal) (b.atR a (.inRegion ops (n :: rest) :: k) :: cs) w) (step_lone_go (by rw [hg]; simp [stepG.apply, hr, Frame.atR])) (Steps.trans hst (.head (step_leave_panicked hlv) h4))⟩
theorem Exec.drawE {P : Program} {b : Frame} {cs : List Frame} {T : Machine → Prop} {C : Ctx} {k : List Item} {te : TE} {id : Nat} {ops : Array Oper} {st : Stt} {S' : List (Nat × SV)} {bs' : List (Nat × TypeId × List SV)} (f n : Nat) (ks lates : List Nat) (hte : TEok P te) (hm : P.follows .mixedOrders = true) (hck : okRegion ops f n (fun i => lates.contains i) = true) (hks : ksOk ops n ks = true)
    (h : ∀ Q : QD, (∀ ds, Q S' bs' ds) → runD P C te ks lates (preL ks st) 0 [] (ops.toList.take n) (preL ks st).S [] Q) (hE : EndsT ⟨P, b, cs, T, C⟩ k ops n (Stt.mk st.N st.df S' (bs' ++ (preL ks st).L) st.O (preL ks st).fz st.pin).sy) : Exec ⟨P, b, cs, T, C⟩ (.code (.region id ops true) :: k) st.sy :=
  Exec.draw0 (lt := fun _ => !lates.isEmpty) f n ks lates hte hm hck hks ⟨fun kk i _ _ hl hb => by cases lates with | nil => simp at hl | cons x xs => simp at hb, fun _ h => h⟩
    (fun ops' => runD_sem hte (h (fun S bs rev => runT P C te ops' (fun _ => !lates.isEmpty) lates n rev (ops.toList.drop n) ⟨st.N, st.df, S, bs ++ (preL ks st).L, st.O, (preL ks st).fz, st.pin⟩ (Exec ⟨P, b, cs, T, C⟩ k) ∨ EndsT ⟨P, b, cs, T, C⟩ k ops n (Stt.mk st.N st.df S (bs ++ (preL ks st).L) st.O (preL ks st).fz st.pin).sy) (fun _ => .inr hE)))
theorem EndsT.norm {R : Rn} {k : List Item} {ops : Array Oper} {n : Nat} {s s' : Stt} (h : s = s') (hk : EndsT R k ops n s'.sy) : EndsT R k ops n s.sy := h ▸ hk
end Go.Kin
