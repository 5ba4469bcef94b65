/- Steps of a function body on data, and contracts of the functions of the seat, walked. -/
import Derived.Test.YtonchjamoblioaaGreatDoorKStp
set_option linter.unusedSimpArgs false
set_option linter.unusedVariables false
set_option linter.unusedSectionVars false
namespace Go.Kin
open Go.RowKit
variable {I : World → Prop}
/-! ### what may be handed out: the function's own memory, read from now on -/
def toD1 (O : FO) : SV → Option D
  | .d x => some x
  | .own key => match O key with | some ow => some (.sl ow.k ow.n ow.x ow.row) | none => none
  | _ => none
def toD1s (O : FO) : List SV → Option (List D)
  | [] => some []
  | sv :: r => match toD1 O sv, toD1s O r with | some d, some ds => some (d :: ds) | _, _ => none
def toD2 (L : FL) (O : FO) : SV → Option D
  | .lp key off => match (if lentK key then none else L key) with
    | some (_, cs) => match toD1s O cs with | some ds => some (.ptr (ds.drop off)) | none => none
    | none => none
  | sv => toD1 O sv
def toD2s (L : FL) (O : FO) : List SV → Option (List D)
  | [] => some []
  | sv :: r => match toD2 L O sv, toD2s L O r with | some d, some ds => some (d :: ds) | _, _ => none
def toD (L : FL) (O : FO) : SV → Option D
  | .fn f caps => match toD2s L O caps with | some ds => some (.fn f ds) | none => none
  | sv => toD2 L O sv
def toDs (L : FL) (O : FO) : List SV → Option (List D)
  | [] => some []
  | sv :: r => match toD L O sv, toDs L O r with | some d, some ds => some (d :: ds) | _, _ => none
/-- all that is the function's own, too -/
def Zf (E : Env) (L : FL) (O : FO) (b : Nat) : Prop := E.Z b ∨ (∃ key e, L key = some e ∧ lentK key = false ∧ E.β key = b) ∨ (∃ key e, O key = some e ∧ (E.ω key).ownBlock = some b)
section
variable {C : Ctx} {E : Env} {s : Sy} {a : Act} {w : World}
theorem keepZf : Keeps w E.Z w (Zf E s.L s.O) := ⟨fun _ h => .inl h, fun _ _ => rfl⟩
theorem toD1_den (hE : SatE C E s a w) {sv : SV} {d : D} {v : Value} (h : toD1 s.O sv = some d) (hv : DenV E w sv v) : RdV w (Zf E s.L s.O) d v := by
  cases sv with
  | d x => simp [toD1] at h; subst h; simp only [DenV] at hv; exact hv.mono keepZf
  | own key =>
    simp only [toD1] at h
    cases hO : s.O key with
    | none => simp [hO] at h
    | some e =>
      simp [hO] at h; subst h
      simp only [DenV] at hv
      obtain ⟨⟨h0, h0', h0''⟩, h1⟩ := hE.hp.own key e hO
      simp only [RdV]
      rcases h1 with ⟨h1, h2⟩ | ⟨g, cap, vs, h1, h2, h3, h4, h5, h6⟩
      · exact ⟨none, 0, by rw [hv, h1]; congr 1; omega, h0', by omega, h0'', .inl h2⟩
      · refine ⟨some ⟨g, 0, none⟩, cap, by rw [hv, h1], h0', h2, h0'', .inr ⟨g, 0, rfl, .inr (.inr ⟨key, _, hO, by rw [h1]; rfl⟩), fun i hi => ⟨(h0 i hi).1, (h0 i hi).2, ?_⟩⟩⟩
        refine RdC_of_vals ((h6 i hi).mono keepZf) fun j hj => ?_
        have hjk : j < e.k := by rw [← (h0 i hi).1]; exact hj
        rw [List.getElem?_take_of_lt hjk, List.getElem?_drop]
        simp [World.cell?, h4]
  | _ => simp [toD1] at h
theorem toD1s_den (hE : SatE C E s a w) : ∀ {svs : List SV} {ds : List D} {vs : List Value}, toD1s s.O svs = some ds → DenL E w svs vs → RdL w (Zf E s.L s.O) ds vs
  | [], ds, vs, h, hv => by simp [toD1s] at h; subst h; simpa [RdL, DenL] using hv
  | sv :: svs, ds, vs, h, hv => by
    simp only [toD1s] at h
    split at h
    · rename_i d ds' h1 h2
      cases h
      simp only [DenL] at hv
      obtain ⟨v, vs', rfl, h3, h4⟩ := hv
      simp only [RdL]
      exact ⟨v, vs', rfl, toD1_den hE h1 h3, toD1s_den hE h2 h4⟩
    · cases h
theorem toD2_den (hE : SatE C E s a w) {sv : SV} {d : D} {v : Value} (h : toD2 s.L s.O sv = some d) (hv : DenV E w sv v) : RdV w (Zf E s.L s.O) d v := by
  cases sv with
  | lp key off =>
    simp only [toD2] at h
    cases hlk : lentK key with
    | true => simp [hlk] at h
    | false =>
    simp only [hlk, Bool.false_eq_true, if_false] at h
    cases hL : s.L key with
    | none => simp [hL] at h
    | some e =>
      obtain ⟨T, cs⟩ := e
      simp only [hL] at h
      cases hd : toD1s s.O cs with
      | none => simp [hd] at h
      | some ds =>
        simp [hd] at h; subst h
        simp only [DenV] at hv
        obtain ⟨us, h1, h2⟩ := hE.hp.loc key T cs hL
        have h3 := toD1s_den hE hd h2
        simp only [RdV]
        refine ⟨E.β key, off, hv, .inr (.inl ⟨key, _, hL, hlk, rfl⟩), ?_⟩
        have := RdC_of_vals (b := E.β key) (off := 0) h3 (fun i _ => by simp [World.cell?, h1])
        simpa using RdC_drop off this
  | d x => exact toD1_den (s := s) (sv := .d x) hE (by simpa [toD2] using h) hv
  | own key => exact toD1_den (s := s) (sv := .own key) hE (by simpa [toD2] using h) hv
  | fn f caps => simp [toD2, toD1] at h
  | oa key k i f => simp [toD2, toD1] at h
  | op cs x => simp [toD2, toD1] at h
  | mv f first => simp [toD2, toD1] at h
  | sg cs => simp [toD2, toD1] at h
  | junk => simp [toD2, toD1] at h
theorem toD2s_den (hE : SatE C E s a w) : ∀ {svs : List SV} {ds : List D} {vs : List Value}, toD2s s.L s.O svs = some ds → DenL E w svs vs → RdL w (Zf E s.L s.O) ds vs
  | [], ds, vs, h, hv => by simp [toD2s] at h; subst h; simpa [RdL, DenL] using hv
  | sv :: svs, ds, vs, h, hv => by
    simp only [toD2s] at h
    split at h
    · rename_i d ds' h1 h2
      cases h
      simp only [DenL] at hv
      obtain ⟨v, vs', rfl, h3, h4⟩ := hv
      simp only [RdL]
      exact ⟨v, vs', rfl, toD2_den hE h1 h3, toD2s_den hE h2 h4⟩
    · cases h
theorem toD_den (hE : SatE C E s a w) {sv : SV} {d : D} {v : Value} (h : toD s.L s.O sv = some d) (hv : DenV E w sv v) : RdV w (Zf E s.L s.O) d v := by
  cases sv with
  | fn f caps =>
    simp only [toD] at h
    cases hc : toD2s s.L s.O caps with
    | none => simp [hc] at h
    | some ds =>
      simp [hc] at h; subst h
      simp only [DenV] at hv
      obtain ⟨vs, h1, h2⟩ := hv
      simp only [RdV]
      exact ⟨vs, h1, toD2s_den hE hc h2⟩
  | d x => exact toD2_den (s := s) (sv := .d x) hE (by simpa [toD] using h) hv
  | own key => exact toD2_den (s := s) (sv := .own key) hE (by simpa [toD] using h) hv
  | lp key off => exact toD2_den (s := s) (sv := .lp key off) hE (by simpa [toD] using h) hv
  | oa key k i f => simp [toD, toD2, toD1] at h
  | op cs x => simp [toD, toD2, toD1] at h
  | mv f first => simp [toD, toD2, toD1] at h
  | sg cs => simp [toD, toD2, toD1] at h
  | junk => simp [toD, toD2, toD1] at h
theorem Zf_lt (hE : SatE C E s a w) {b : Nat} (h : Zf E s.L s.O b) : b < w.heap.size ∧ (C.Z0 b ∨ C.w0.heap.size ≤ b) := by
  rcases h with h | ⟨key, e, h, hlk, rfl⟩ | ⟨key, e, h, h'⟩
  · have := hE.hp.z b h; exact ⟨this.1, this.2.2⟩
  · exact ⟨hE.hp.lt h, .inr ((hE.hp.locN key e h).1.elim (fun h => h.2) (fun h5 => by rw [hlk] at h5; cases h5.1))⟩
  · exact ⟨hE.hp.ltO h h', .inr (hE.hp.ownN key e b h h').1⟩
end
def nilRow : Nat → List D := fun _ => []
theorem RdL_n0 {w : World} {Z : Nat → Prop} : RdL w Z [] [] := by simp [RdL]
theorem RdL_v0 {w : World} {Z : Nat → Prop} {x : Value} {ds : List D} {vs : List Value} (h : RdL w Z ds vs) : RdL w Z (.v x :: ds) (x :: vs) := by simp only [RdL, RdV]; exact ⟨x, vs, rfl, rfl, h⟩
/-! ### a function, from its body -/
structure FnPost (P : Program) (w : World) (Z : Nat → Prop) (res : D) (e : Ending) (w' : World) : Prop where
  out : ∃ v Z', e = .returned v ∧ Below w.heap.size w w' ∧ (∀ b, Z' b → b < w'.heap.size ∧ (Z b ∨ w.heap.size ≤ b)) ∧ RdV w' Z' res v
/-- where the activation is to come: it has returned what is asked -/
def FnT (P : Program) (f : FuncId) (cs : List Frame) (w : World) (Z : Nat → Prop) (res : D) (m : Machine) : Prop :=
  ∃ v w' fr Z', m = lone fr cs w' ∧ fr.fn = f ∧ fr.leaving P w' (.returned v) ∧ Below w.heap.size w w' ∧ (∀ b, Z' b → b < w'.heap.size ∧ (Z b ∨ w.heap.size ≤ b)) ∧ RdV w' Z' res v
/-- a run of a function's body -/
structure FnRun (R : Rn) (I : World → Prop) (P : Program) (f : FuncId) (fn : Func) (res : D) : Prop where
  p : R.P = P
  bfn : R.b.fn = f
  kind : R.b.kind = .normal
  round : R.b.roundOf = none
  m : ∀ k, ¬ R.C.M k
  inv : ∀ w, BelM R.C w → I w
  func : P.funcs[f]? = some fn
  t : R.T = FnT P f R.cs R.C.w0 R.C.Z0 res
def slotsFrom : Nat → List D → List (Nat × SV)
  | _, [] => []
  | i, d :: r => (i, .d d) :: slotsFrom (i + 1) r
theorem look_slots (i : Nat) : ∀ (ds : List D) (j : Nat), klook j (slotsFrom i ds) = if i ≤ j then (ds[j - i]?).map SV.d else none
  | [], j => by simp [slotsFrom, klook]
  | d :: ds, j => by
    simp only [slotsFrom, klook]
    by_cases h : j = i
    · subst h; simp
    · rw [if_neg h, look_slots (i + 1) ds j]
      by_cases hij : i ≤ j
      · have h1 : i + 1 ≤ j := by omega
        have h2 : j - i = (j - (i + 1)) + 1 := by omega
        simp [hij, h1, h2]
      · have h1 : ¬ (i + 1 ≤ j) := by omega
        simp [hij, h1]
theorem FnOK_of (hst : Stable I) {P : Program} {f : FuncId} {fn : Func} {c : Code} {args : List D} {res : D} {N : Nat} (hf : P.funcs[f]? = some fn) (hN : fn.ntmps = N) (hb : fn.body = some c) (hn : (fn.name == "runtime.NumGoroutine") = false) (hl : args.length ≤ N)
    (h : ∀ R, FnRun R I P f fn res → Exec R [.code c] (Stt.mk N [] (slotsFrom 0 args) [] [] [] []).sy) : FnOK I P f args res := by
  subst hN
  refine ⟨⟨fn, hf, by simp [hb], hn⟩, fun w Z vs hi hZ hv => ?_⟩
  intro cs
  let b : Frame := { (default : Frame) with fn := f, kind := .normal, roundOf := none }
  have hlen := RdL_length hv
  have henter : Frame.enter P f vs.toArray .normal = b.atR { tmps := vs.toArray ++ Array.replicate (fn.ntmps - vs.toArray.size) undef, defers := [] } [.code c] := by
    simp [Frame.enter, Frame.atR, hf, hb, b]
  have hx := h ⟨P, b, cs, FnT P f cs w Z res, ⟨w, Z, fun _ => False⟩⟩ ⟨rfl, rfl, rfl, rfl, fun _ h => h, fun w' hb => hst w w' hi ⟨hb.os, hb.tape, hb.output, hb.size, fun k hk => hb.block k hk (fun h => h)⟩, hf, rfl⟩
  obtain ⟨m', ⟨v, w', fr, Z', rfl, h1, h2, h3, h4, h5⟩, hst⟩ := hx { tmps := vs.toArray ++ Array.replicate (fn.ntmps - vs.toArray.size) undef, defers := [] } w (by
    refine ⟨⟨fun _ => 0, fun _ => undef, Z⟩, ?_, rfl, fun t sv hs => ?_, ⟨⟨rfl, rfl, rfl, Nat.le_refl _, fun _ _ _ => rfl⟩, fun b hb => ⟨hZ b hb, fun _ h => h, .inl hb⟩, ?_, ?_, ?_, ?_, ?_, ?_⟩, fun b o hb => (nomatch hb), fun p hp => (nomatch hp)⟩
    · simp [Stt.sy]; omega
    · simp only [Stt.sy, look_slots, Nat.zero_le, if_true, Nat.sub_zero] at hs
      cases hd : args[t]? with
      | none => simp [hd] at hs
      | some d =>
        simp [hd] at hs; subst hs
        obtain ⟨v, h1, h2⟩ := RdL_get hv hd
        have hlt : t < vs.length := (List.getElem?_eq_some_iff.1 h1).1
        refine ⟨v, ?_, by simpa [DenV] using h2⟩
        rw [Array.getElem?_append_left (by simpa using hlt)]
        simpa using h1
    all_goals (intros; simp_all [Stt.sy, klook]))
  refine ⟨.returned v, w', fr, ⟨v, Z', rfl, h3, h4, h5⟩, ?_, h1, h2⟩
  rw [henter]; exact hst
/-- what a function's result variables hold -/
def resV (te : TE) (s : Stt) : List ResultVar → Option (List D)
  | [] => some []
  | .tmp t :: r => match klook t s.S with
    | some sv => match toD (fun k => klook k s.L) (fun k => klook k s.O) sv, resV te s r with | some d, some ds => some (d :: ds) | _, _ => none
    | none => none
  | .cell t ty :: r => match klook t s.S, klook ty te with
    | some (.lp key off), some i => match klook key s.L with
      | some (_, cs) => if one1 i = true ∧ off + i.size ≤ cs.length then
          (match toD1s (fun k => klook k s.O) ((cs.drop off).take i.size), resV te s r with | some ds', some ds => some (mkD i.u ds' :: ds) | _, _ => none) else none
      | none => none
    | _, _ => none
def resD : List D → D
  | [d] => d
  | ds => .tup ds
def rvSem (tmps : Array Value) (r : ResultVar) : Sem Value := match r with
  | .tmp t => pure (tmps.getD t undef)
  | .cell x t => do loadVar t (← asAddr (tmps.getD x undef))
theorem results_eq (fn : Func) (tmps : Array Value) : results fn tmps = (do
  let vs ← fn.results.mapM (rvSem tmps)
  pure (if h : vs.size = 1 then vs[0] else .tuple vs)) := by
  unfold results
  congr 1
theorem resV_run {te : TE} {P : Program} (hte : TEok P te) {C : Ctx} {E : Env} {s : Stt} {a : Act} {w : World} (hE : SatE C E s.sy a w) : ∀ {l : List ResultVar} {ds : List D}, resV te s l = some ds →
    ∃ vs : List Value, (l.mapM (rvSem a.tmps)).run P w = .ok vs w ∧ RdL w (Zf E s.sy.L s.sy.O) ds vs
  | [], ds, h => by simp [resV] at h; subst h; exact ⟨[], by simp, by simp [RdL]⟩
  | .tmp t :: r, ds, h => by
    simp only [resV] at h
    split at h
    · rename_i sv hs
      split at h
      · rename_i d ds' hd hr
        cases h
        obtain ⟨vs, h1, h2⟩ := resV_run hte hE hr
        obtain ⟨v, h3, h4⟩ := hE.slots t sv hs
        refine ⟨v :: vs, ?_, by simp only [RdL]; exact ⟨v, vs, rfl, toD_den hE hd h4, h2⟩⟩
        simp [List.mapM_cons, rvSem, h1, h3]
      · cases h
    · cases h
  | .cell t ty :: r, ds, h => by
    simp only [resV] at h
    split at h
    · rename_i key off i hs hi
      split at h
      · rename_i T cs hL
        split at h
        · rename_i hc
          split at h
          · rename_i ds' ds'' hd hr
            cases h
            obtain ⟨vs, h1, h2⟩ := resV_run hte hE hr
            obtain ⟨v, h3, h4⟩ := hE.slots t _ hs
            simp only [DenV] at h4
            obtain ⟨us, h5, h6⟩ := hE.hp.loc key T cs hL
            have h7 := DenL_take i.size (DenL_drop off h6)
            have hul := DenL_length h6
            have hvl : ((us.drop off).take i.size).length = i.size := by simp; omega
            have hcell : ∀ j, j < i.size → w.cell? ⟨E.β key, off + j, none⟩ = ((us.drop off).take i.size)[j]? := fun j hj => by
              rw [List.getElem?_take_of_lt hj, List.getElem?_drop]
              simp [World.cell?, h5]
            have hld := run_load (P := P) (w := w) (t := ty) (hte _ _ hi) hvl hcell (one1_spec hc.1)
            have h8 := toD1s_den hE hd h7
            refine ⟨(if aggD i.u then .agg ((us.drop off).take i.size).toArray else ((us.drop off).take i.size).headD undef) :: vs, ?_, ?_⟩
            · simp [List.mapM_cons, rvSem, h1, h3, h4, asAddr, hld]
            · simp only [RdL]
              refine ⟨_, vs, rfl, ?_, h2⟩
              unfold mkD
              cases ha : aggD i.u with
              | true => simp only [if_true, RdV]; exact ⟨_, rfl, h8⟩
              | false =>
                have h1' := one1_spec hc.1 ha
                simp only [Bool.false_eq_true, if_false]
                rw [h1'] at h8 hvl ⊢
                cases hds : ds' with
                | nil => rw [hds] at h8; simp only [RdL] at h8; rw [h8] at hvl; simp at hvl
                | cons d r =>
                  rw [hds] at h8
                  simp only [RdL] at h8
                  obtain ⟨v', vs', e1, h9, _⟩ := h8
                  rw [e1]
                  simpa using h9
          · cases h
        · cases h
      · cases h
    · cases h
/-- whatever reads as the one reads as the other -/
def LeD (d d' : D) : Prop := ∀ w Z v, RdV w Z d v → RdV w Z d' v
theorem LeD.refl (d : D) : LeD d d := fun _ _ _ h => h
theorem LeD.nil (k : Nat) (row : Nat → List D) : LeD (.v (.slice none 0 0)) (.sl k 0 0 row) := fun w Z v h => by
  simp only [RdV] at h ⊢
  subst h
  exact ⟨none, 0, rfl, Nat.le_refl _, Nat.le_refl _, Nat.zero_le _, .inl (by trivial)⟩
theorem LeD.slice {k n x x' : Nat} {row row' : Nat → List D} (hn : n ≤ x') (hx : x' ≤ x) (h : ∀ i, i < x' → row i = row' i) : LeD (.sl k n x row) (.sl k n x' row') := fun w Z v hv => by
  simp only [RdV] at hv ⊢
  obtain ⟨a, c, h1, h2, h3, h4, h5⟩ := hv
  refine ⟨a, c, h1, hn, by omega, by omega, ?_⟩
  rcases h5 with h5 | ⟨b, off, h5, h6, h7⟩
  · exact .inl (by omega)
  · exact .inr ⟨b, off, h5, h6, fun i hi => by rw [← h i hi]; exact h7 i (by omega)⟩
theorem LeD.empty {k k' x : Nat} {row row' : Nat → List D} : LeD (.sl k 0 x row) (.sl k' 0 0 row') := fun w Z v hv => by
  simp only [RdV] at hv ⊢
  obtain ⟨a, c, h1, h2, h3, h4, h5⟩ := hv
  exact ⟨a, c, h1, Nat.le_refl _, Nat.zero_le _, Nat.zero_le _, .inl (by trivial)⟩
theorem LeD.trans {d d' d'' : D} (h : LeD d d') (h' : LeD d' d'') : LeD d d'' := fun w Z v hv => h' w Z v (h w Z v hv)
def LeDs : List D → List D → Prop
  | [], [] => True
  | d :: ds, d' :: ds' => LeD d d' ∧ LeDs ds ds'
  | _, _ => False
theorem LeDs.rd {w : World} {Z : Nat → Prop} : ∀ {ds ds' : List D} {vs : List Value}, LeDs ds ds' → RdL w Z ds vs → RdL w Z ds' vs
  | [], [], _, _, h => h
  | d :: ds, d' :: ds', vs, hle, h => by
    simp only [RdL] at h ⊢
    obtain ⟨v, vs', rfl, h1, h2⟩ := h
    exact ⟨v, vs', rfl, hle.1 _ _ _ h1, LeDs.rd hle.2 h2⟩
  | [], _ :: _, _, hle, _ => hle.elim
  | _ :: _, [], _, hle, _ => hle.elim
theorem LeD.tup {ds ds' : List D} (h : LeDs ds ds') : LeD (.tup ds) (.tup ds') := fun w Z v hv => by
  simp only [RdV] at hv ⊢
  obtain ⟨vs, h1, h2⟩ := hv
  exact ⟨vs, h1, h.rd h2⟩
theorem LeD.ag {ds ds' : List D} (h : LeDs ds ds') : LeD (.ag ds) (.ag ds') := fun w Z v hv => by
  simp only [RdV] at hv ⊢
  obtain ⟨vs, h1, h2⟩ := hv
  exact ⟨vs, h1, h.rd h2⟩
theorem ret_T {te : TE} {R : Rn} {P : Program} {f : FuncId} {fn : Func} {res : D} (hR : FnRun R I P f fn res) (hte : TEok P te) {s : Stt} (hdf : s.df = []) {k : List Item} {ds : List D} (hr : resV te s fn.results.toList = some ds) (he : LeD (resD ds) res)
    {a : Act} {w : World} (hs : Sat R.C s.sy a w) : R.T (lone { R.b.atR a k with mode := .returning } R.cs w) := by
  obtain ⟨E, hE⟩ := hs
  obtain ⟨vs, h1, h2⟩ := resV_run hte hE hr
  have hlen := RdL_length h2
  -- the value
  have hres : ∃ v, (results fn a.tmps).run P w = .ok v w ∧ RdV w (Zf E s.sy.L s.sy.O) res v := by
    have hm : (fn.results.mapM (rvSem a.tmps)).run P w = .ok vs.toArray w := by
      rw [Array.mapM_eq_mapM_toList]
      simp [h1]
    refine (?_ : ∃ v, (results fn a.tmps).run P w = .ok v w ∧ RdV w (Zf E s.sy.L s.sy.O) (resD ds) v).imp fun v hv => ⟨hv.1, he _ _ _ hv.2⟩
    match ds, vs, hlen, h2 with
    | [d], [v], _, h2 =>
      refine ⟨v, ?_, by simp only [RdL] at h2; obtain ⟨v', vs', e, h3, _⟩ := h2; simp at e; rw [e.1]; exact h3⟩
      rw [results_eq]
      simp only [Sem.run_bind, hm, Result.andThen_ok]
      rfl
    | [], [], _, h2 =>
      refine ⟨.tuple #[], ?_, by simp only [resD, RdV]; exact ⟨[], rfl, h2⟩⟩
      rw [results_eq]
      simp only [Sem.run_bind, hm, Result.andThen_ok]
      rfl
    | d :: d' :: ds, v :: v' :: vs, _, h2 =>
      refine ⟨.tuple (v :: v' :: vs).toArray, ?_, by simp only [resD, RdV]; exact ⟨_, rfl, h2⟩⟩
      rw [results_eq]
      simp only [Sem.run_bind, hm, Result.andThen_ok]
      simp
  obtain ⟨v, h3, h4⟩ := hres
  have hbel : Below R.C.w0.heap.size R.C.w0 w := ⟨hE.hp.bel.os, hE.hp.bel.tape, hE.hp.bel.output, hE.hp.bel.size, fun k hk => hE.hp.bel.block k hk (hR.m k)⟩
  have hdf' : a.defers = [] := hE.df.trans hdf
  rw [hR.t]
  refine ⟨v, w, _, Zf E s.sy.L s.sy.O, rfl, hR.bfn, ?_, hbel, fun b hb => Zf_lt hE hb, h4⟩
  refine ⟨rfl, hdf', hR.kind, fn, ?_, h3⟩
  show P.funcs[R.b.fn]? = some fn
  rw [hR.bfn]; exact hR.func
theorem Exec.ret {te : TE} {R : Rn} {P : Program} {f : FuncId} {fn : Func} {res : D} (hR : FnRun R I P f fn res) (hte : TEok P te) {s : Stt} (hdf : s.df = []) {k : List Item} {ds : List D} (hr : resV te s fn.results.toList = some ds) (he : LeD (resD ds) res) (hk : k = [] ∨ ∃ k', k = .code .ret :: k') :
    Exec R k s.sy := by
  intro a w hs
  refine ⟨lone { R.b.atR a k with mode := .returning } R.cs w, ret_T hR hte hdf hr he hs, ?_⟩
  rcases hk with rfl | ⟨k', rfl⟩
  · exact .one (stepR_end hR.round)
  · exact .one (stepR_ret hR.round)
end Go.Kin
