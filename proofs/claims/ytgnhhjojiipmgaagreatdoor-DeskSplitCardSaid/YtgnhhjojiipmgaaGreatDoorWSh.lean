/- Steps of a function body on data, and contracts of the functions of the seat, walked. -/
import Derived.Test.YtgnhhjojiipmgaaGreatDoorKStp
import Derived.Test.YtgnhhjojiipmgaaGreatDoorProg
import Derived.KernelRfl
import Derived.Shelf.Strings.OnBuilder
import Derived.Shelf.Strings.Trim
import Derived.Shelf.Strconv.Atoi
import Derived.Shelf.Strconv.Itoa3
import Derived.Shelf.Small.Strs
import Derived.Shelf.Strings.Search3
import Derived.Shelf.Strings.Search2
import Derived.Shelf.Strings.Prefix
import Derived.Shelf.Strings.Fields
set_option linter.unusedSimpArgs false
set_option linter.unusedVariables false
set_option linter.unusedSectionVars false
namespace Go.Kin
open Go.RowKit
variable {I : World → Prop}
/-! ### what may be handed out: the function's own memory, read from now on -/
def toD1 (O : FO) : SV → Option D
  | .d x => some x
  | .own key => match O key with | some ow => some (.sl ow.k ow.n ow.x ow.row) | none => none
  | _ => none
def toD1s (O : FO) : List SV → Option (List D)
  | [] => some []
  | sv :: r => match toD1 O sv, toD1s O r with | some d, some ds => some (d :: ds) | _, _ => none
def toD2 (L : FL) (O : FO) : SV → Option D
  | .lp key off => match (if lentK key then none else L key) with
    | some (_, cs) => match toD1s O cs with | some ds => some (.ptr (ds.drop off)) | none => none
    | none => none
  | sv => toD1 O sv
def toD2s (L : FL) (O : FO) : List SV → Option (List D)
  | [] => some []
  | sv :: r => match toD2 L O sv, toD2s L O r with | some d, some ds => some (d :: ds) | _, _ => none
def toD (L : FL) (O : FO) : SV → Option D
  | .fn f caps => match toD2s L O caps with | some ds => some (.fn f ds) | none => none
  | sv => toD2 L O sv
def toDs (L : FL) (O : FO) : List SV → Option (List D)
  | [] => some []
  | sv :: r => match toD L O sv, toDs L O r with | some d, some ds => some (d :: ds) | _, _ => none
/-- all that is the function's own, too -/
def Zf (E : Env) (L : FL) (O : FO) (b : Nat) : Prop := E.Z b ∨ (∃ key e, L key = some e ∧ lentK key = false ∧ E.β key = b) ∨ (∃ key e, O key = some e ∧ (E.ω key).ownBlock = some b)
section
variable {C : Ctx} {E : Env} {s : Sy} {a : Act} {w : World}
theorem keepZf : Keeps w E.Z w (Zf E s.L s.O) := ⟨fun _ h => .inl h, fun _ _ => rfl⟩
theorem toD1_den (hE : SatE C E s a w) {sv : SV} {d : D} {v : Value} (h : toD1 s.O sv = some d) (hv : DenV E w sv v) : RdV w (Zf E s.L s.O) d v := by
  cases sv with
  | d x => simp [toD1] at h; subst h; simp only [DenV] at hv; exact hv.mono keepZf
  | own key =>
    simp only [toD1] at h
    cases hO : s.O key with
    | none => simp [hO] at h
    | some e =>
      simp [hO] at h; subst h
      simp only [DenV] at hv
      obtain ⟨⟨h0, h0', h0''⟩, h1⟩ := hE.hp.own key e hO
      simp only [RdV]
      rcases h1 with ⟨h1, h2⟩ | ⟨g, cap, vs, h1, h2, h3, h4, h5, h6⟩
      · exact ⟨none, 0, by rw [hv, h1]; congr 1; omega, h0', by omega, h0'', .inl h2⟩
      · refine ⟨some ⟨g, 0, none⟩, cap, by rw [hv, h1], h0', h2, h0'', .inr ⟨g, 0, rfl, .inr (.inr ⟨key, _, hO, by rw [h1]; rfl⟩), fun i hi => ⟨(h0 i hi).1, (h0 i hi).2, ?_⟩⟩⟩
        refine RdC_of_vals ((h6 i hi).mono keepZf) fun j hj => ?_
        have hjk : j < e.k := by rw [← (h0 i hi).1]; exact hj
        rw [List.getElem?_take_of_lt hjk, List.getElem?_drop]
        simp [World.cell?, h4]
  | _ => simp [toD1] at h
theorem toD1s_den (hE : SatE C E s a w) : ∀ {svs : List SV} {ds : List D} {vs : List Value}, toD1s s.O svs = some ds → DenL E w svs vs → RdL w (Zf E s.L s.O) ds vs
  | [], ds, vs, h, hv => by simp [toD1s] at h; subst h; simpa [RdL, DenL] using hv
  | sv :: svs, ds, vs, h, hv => by
    simp only [toD1s] at h
    split at h
    · rename_i d ds' h1 h2
      cases h
      simp only [DenL] at hv
      obtain ⟨v, vs', rfl, h3, h4⟩ := hv
      simp only [RdL]
      exact ⟨v, vs', rfl, toD1_den hE h1 h3, toD1s_den hE h2 h4⟩
    · cases h
theorem toD2_den (hE : SatE C E s a w) {sv : SV} {d : D} {v : Value} (h : toD2 s.L s.O sv = some d) (hv : DenV E w sv v) : RdV w (Zf E s.L s.O) d v := by
  cases sv with
  | lp key off =>
    simp only [toD2] at h
    cases hlk : lentK key with
    | true => simp [hlk] at h
    | false =>
    simp only [hlk, Bool.false_eq_true, if_false] at h
    cases hL : s.L key with
    | none => simp [hL] at h
    | some e =>
      obtain ⟨T, cs⟩ := e
      simp only [hL] at h
      cases hd : toD1s s.O cs with
      | none => simp [hd] at h
      | some ds =>
        simp [hd] at h; subst h
        simp only [DenV] at hv
        obtain ⟨us, h1, h2⟩ := hE.hp.loc key T cs hL
        have h3 := toD1s_den hE hd h2
        simp only [RdV]
        refine ⟨E.β key, off, hv, .inr (.inl ⟨key, _, hL, hlk, rfl⟩), ?_⟩
        have := RdC_of_vals (b := E.β key) (off := 0) h3 (fun i _ => by simp [World.cell?, h1])
        simpa using RdC_drop off this
  | d x => exact toD1_den (s := s) (sv := .d x) hE (by simpa [toD2] using h) hv
  | own key => exact toD1_den (s := s) (sv := .own key) hE (by simpa [toD2] using h) hv
  | fn f caps => simp [toD2, toD1] at h
  | oa key k i f => simp [toD2, toD1] at h
  | op cs x => simp [toD2, toD1] at h
  | mv f first => simp [toD2, toD1] at h
  | sg cs => simp [toD2, toD1] at h
  | junk => simp [toD2, toD1] at h
theorem toD2s_den (hE : SatE C E s a w) : ∀ {svs : List SV} {ds : List D} {vs : List Value}, toD2s s.L s.O svs = some ds → DenL E w svs vs → RdL w (Zf E s.L s.O) ds vs
  | [], ds, vs, h, hv => by simp [toD2s] at h; subst h; simpa [RdL, DenL] using hv
  | sv :: svs, ds, vs, h, hv => by
    simp only [toD2s] at h
    split at h
    · rename_i d ds' h1 h2
      cases h
      simp only [DenL] at hv
      obtain ⟨v, vs', rfl, h3, h4⟩ := hv
      simp only [RdL]
      exact ⟨v, vs', rfl, toD2_den hE h1 h3, toD2s_den hE h2 h4⟩
    · cases h
theorem toD_den (hE : SatE C E s a w) {sv : SV} {d : D} {v : Value} (h : toD s.L s.O sv = some d) (hv : DenV E w sv v) : RdV w (Zf E s.L s.O) d v := by
  cases sv with
  | fn f caps =>
    simp only [toD] at h
    cases hc : toD2s s.L s.O caps with
    | none => simp [hc] at h
    | some ds =>
      simp [hc] at h; subst h
      simp only [DenV] at hv
      obtain ⟨vs, h1, h2⟩ := hv
      simp only [RdV]
      exact ⟨vs, h1, toD2s_den hE hc h2⟩
  | d x => exact toD2_den (s := s) (sv := .d x) hE (by simpa [toD] using h) hv
  | own key => exact toD2_den (s := s) (sv := .own key) hE (by simpa [toD] using h) hv
  | lp key off => exact toD2_den (s := s) (sv := .lp key off) hE (by simpa [toD] using h) hv
  | oa key k i f => simp [toD, toD2, toD1] at h
  | op cs x => simp [toD, toD2, toD1] at h
  | mv f first => simp [toD, toD2, toD1] at h
  | sg cs => simp [toD, toD2, toD1] at h
  | junk => simp [toD, toD2, toD1] at h
theorem Zf_lt (hE : SatE C E s a w) {b : Nat} (h : Zf E s.L s.O b) : b < w.heap.size ∧ (C.Z0 b ∨ C.w0.heap.size ≤ b) := by
  rcases h with h | ⟨key, e, h, hlk, rfl⟩ | ⟨key, e, h, h'⟩
  · have := hE.hp.z b h; exact ⟨this.1, this.2.2⟩
  · exact ⟨hE.hp.lt h, .inr ((hE.hp.locN key e h).1.elim (fun h => h.2) (fun h5 => by rw [hlk] at h5; cases h5.1))⟩
  · exact ⟨hE.hp.ltO h h', .inr (hE.hp.ownN key e b h h').1⟩
end
def nilRow : Nat → List D := fun _ => []
theorem RdL_n0 {w : World} {Z : Nat → Prop} : RdL w Z [] [] := by simp [RdL]
theorem RdL_v0 {w : World} {Z : Nat → Prop} {x : Value} {ds : List D} {vs : List Value} (h : RdL w Z ds vs) : RdL w Z (.v x :: ds) (x :: vs) := by simp only [RdL, RdV]; exact ⟨x, vs, rfl, rfl, h⟩
theorem RdL_s0 {w : World} {Z : Nat → Prop} {k : Nat} {ds : List D} {vs : List Value} (h : RdL w Z ds vs) : RdL w Z (.sl k 0 0 nilRow :: ds) (.slice none 0 0 :: vs) := by
  simp only [RdL, RdV]; exact ⟨_, vs, rfl, ⟨none, 0, rfl, Nat.le_refl _, Nat.le_refl _, Nat.zero_le _, .inl (by trivial)⟩, h⟩
/-! ### a function, from its body -/
structure FnPost (P : Program) (w : World) (Z : Nat → Prop) (res : D) (e : Ending) (w' : World) : Prop where
  out : ∃ v Z', e = .returned v ∧ Below w.heap.size w w' ∧ (∀ b, Z' b → b < w'.heap.size ∧ (Z b ∨ w.heap.size ≤ b)) ∧ RdV w' Z' res v
/-- where the activation is to come: it has returned what is asked -/
def FnT (P : Program) (f : FuncId) (cs : List Frame) (w : World) (Z : Nat → Prop) (res : D) (m : Machine) : Prop :=
  ∃ v w' fr Z', m = lone fr cs w' ∧ fr.fn = f ∧ fr.leaving P w' (.returned v) ∧ Below w.heap.size w w' ∧ (∀ b, Z' b → b < w'.heap.size ∧ (Z b ∨ w.heap.size ≤ b)) ∧ RdV w' Z' res v
/-- a run of a function's body -/
structure FnRun (R : Rn) (I : World → Prop) (P : Program) (f : FuncId) (fn : Func) (res : D) : Prop where
  p : R.P = P
  bfn : R.b.fn = f
  kind : R.b.kind = .normal
  round : R.b.roundOf = none
  m : ∀ k, ¬ R.C.M k
  inv : ∀ w, BelM R.C w → I w
  func : P.funcs[f]? = some fn
  t : R.T = FnT P f R.cs R.C.w0 R.C.Z0 res
def slotsFrom : Nat → List D → List (Nat × SV)
  | _, [] => []
  | i, d :: r => (i, .d d) :: slotsFrom (i + 1) r
theorem look_slots (i : Nat) : ∀ (ds : List D) (j : Nat), klook j (slotsFrom i ds) = if i ≤ j then (ds[j - i]?).map SV.d else none
  | [], j => by simp [slotsFrom, klook]
  | d :: ds, j => by
    simp only [slotsFrom, klook]
    by_cases h : j = i
    · subst h; simp
    · rw [if_neg h, look_slots (i + 1) ds j]
      by_cases hij : i ≤ j
      · have h1 : i + 1 ≤ j := by omega
        have h2 : j - i = (j - (i + 1)) + 1 := by omega
        simp [hij, h1, h2]
      · have h1 : ¬ (i + 1 ≤ j) := by omega
        simp [hij, h1]
theorem FnOK_of (hst : Stable I) {P : Program} {f : FuncId} {fn : Func} {c : Code} {args : List D} {res : D} {N : Nat} (hf : P.funcs[f]? = some fn) (hN : fn.ntmps = N) (hb : fn.body = some c) (hn : (fn.name == "runtime.NumGoroutine") = false) (hl : args.length ≤ N)
    (h : ∀ R, FnRun R I P f fn res → Exec R [.code c] (Stt.mk N [] (slotsFrom 0 args) [] [] [] []).sy) : FnOK I P f args res := by
  subst hN
  refine ⟨⟨fn, hf, by simp [hb], hn⟩, fun w Z vs hi hZ hv => ?_⟩
  intro cs
  let b : Frame := { (default : Frame) with fn := f, kind := .normal, roundOf := none }
  have hlen := RdL_length hv
  have henter : Frame.enter P f vs.toArray .normal = b.atR { tmps := vs.toArray ++ Array.replicate (fn.ntmps - vs.toArray.size) undef, defers := [] } [.code c] := by
    simp [Frame.enter, Frame.atR, hf, hb, b]
  have hx := h ⟨P, b, cs, FnT P f cs w Z res, ⟨w, Z, fun _ => False⟩⟩ ⟨rfl, rfl, rfl, rfl, fun _ h => h, fun w' hb => hst w w' hi ⟨hb.os, hb.tape, hb.output, hb.size, fun k hk => hb.block k hk (fun h => h)⟩, hf, rfl⟩
  obtain ⟨m', ⟨v, w', fr, Z', rfl, h1, h2, h3, h4, h5⟩, hst⟩ := hx { tmps := vs.toArray ++ Array.replicate (fn.ntmps - vs.toArray.size) undef, defers := [] } w (by
    refine ⟨⟨fun _ => 0, fun _ => undef, Z⟩, ?_, rfl, fun t sv hs => ?_, ⟨⟨rfl, rfl, rfl, Nat.le_refl _, fun _ _ _ => rfl⟩, fun b hb => ⟨hZ b hb, fun _ h => h, .inl hb⟩, ?_, ?_, ?_, ?_, ?_, ?_⟩, fun b o hb => (nomatch hb), fun p hp => (nomatch hp)⟩
    · simp [Stt.sy]; omega
    · simp only [Stt.sy, look_slots, Nat.zero_le, if_true, Nat.sub_zero] at hs
      cases hd : args[t]? with
      | none => simp [hd] at hs
      | some d =>
        simp [hd] at hs; subst hs
        obtain ⟨v, h1, h2⟩ := RdL_get hv hd
        have hlt : t < vs.length := (List.getElem?_eq_some_iff.1 h1).1
        refine ⟨v, ?_, by simpa [DenV] using h2⟩
        rw [Array.getElem?_append_left (by simpa using hlt)]
        simpa using h1
    all_goals (intros; simp_all [Stt.sy, klook]))
  refine ⟨.returned v, w', fr, ⟨v, Z', rfl, h3, h4, h5⟩, ?_, h1, h2⟩
  rw [henter]; exact hst
/-- what a function's result variables hold -/
def resV (te : TE) (s : Stt) : List ResultVar → Option (List D)
  | [] => some []
  | .tmp t :: r => match klook t s.S with
    | some sv => match toD (fun k => klook k s.L) (fun k => klook k s.O) sv, resV te s r with | some d, some ds => some (d :: ds) | _, _ => none
    | none => none
  | .cell t ty :: r => match klook t s.S, klook ty te with
    | some (.lp key off), some i => match klook key s.L with
      | some (_, cs) => if one1 i = true ∧ off + i.size ≤ cs.length then
          (match toD1s (fun k => klook k s.O) ((cs.drop off).take i.size), resV te s r with | some ds', some ds => some (mkD i.u ds' :: ds) | _, _ => none) else none
      | none => none
    | _, _ => none
def resD : List D → D
  | [d] => d
  | ds => .tup ds
def rvSem (tmps : Array Value) (r : ResultVar) : Sem Value := match r with
  | .tmp t => pure (tmps.getD t undef)
  | .cell x t => do loadVar t (← asAddr (tmps.getD x undef))
theorem results_eq (fn : Func) (tmps : Array Value) : results fn tmps = (do
  let vs ← fn.results.mapM (rvSem tmps)
  pure (if h : vs.size = 1 then vs[0] else .tuple vs)) := by
  unfold results
  congr 1
theorem resV_run {te : TE} {P : Program} (hte : TEok P te) {C : Ctx} {E : Env} {s : Stt} {a : Act} {w : World} (hE : SatE C E s.sy a w) : ∀ {l : List ResultVar} {ds : List D}, resV te s l = some ds →
    ∃ vs : List Value, (l.mapM (rvSem a.tmps)).run P w = .ok vs w ∧ RdL w (Zf E s.sy.L s.sy.O) ds vs
  | [], ds, h => by simp [resV] at h; subst h; exact ⟨[], by simp, by simp [RdL]⟩
  | .tmp t :: r, ds, h => by
    simp only [resV] at h
    split at h
    · rename_i sv hs
      split at h
      · rename_i d ds' hd hr
        cases h
        obtain ⟨vs, h1, h2⟩ := resV_run hte hE hr
        obtain ⟨v, h3, h4⟩ := hE.slots t sv hs
        refine ⟨v :: vs, ?_, by simp only [RdL]; exact ⟨v, vs, rfl, toD_den hE hd h4, h2⟩⟩
        simp [List.mapM_cons, rvSem, h1, h3]
      · cases h
    · cases h
  | .cell t ty :: r, ds, h => by
    simp only [resV] at h
    split at h
    · rename_i key off i hs hi
      split at h
      · rename_i T cs hL
        split at h
        · rename_i hc
          split at h
          · rename_i ds' ds'' hd hr
            cases h
            obtain ⟨vs, h1, h2⟩ := resV_run hte hE hr
            obtain ⟨v, h3, h4⟩ := hE.slots t _ hs
            simp only [DenV] at h4
            obtain ⟨us, h5, h6⟩ := hE.hp.loc key T cs hL
            have h7 := DenL_take i.size (DenL_drop off h6)
            have hul := DenL_length h6
            have hvl : ((us.drop off).take i.size).length = i.size := by simp; omega
            have hcell : ∀ j, j < i.size → w.cell? ⟨E.β key, off + j, none⟩ = ((us.drop off).take i.size)[j]? := fun j hj => by
              rw [List.getElem?_take_of_lt hj, List.getElem?_drop]
              simp [World.cell?, h5]
            have hld := run_load (P := P) (w := w) (t := ty) (hte _ _ hi) hvl hcell (one1_spec hc.1)
            have h8 := toD1s_den hE hd h7
            refine ⟨(if aggD i.u then .agg ((us.drop off).take i.size).toArray else ((us.drop off).take i.size).headD undef) :: vs, ?_, ?_⟩
            · simp [List.mapM_cons, rvSem, h1, h3, h4, asAddr, hld]
            · simp only [RdL]
              refine ⟨_, vs, rfl, ?_, h2⟩
              unfold mkD
              cases ha : aggD i.u with
              | true => simp only [if_true, RdV]; exact ⟨_, rfl, h8⟩
              | false =>
                have h1' := one1_spec hc.1 ha
                simp only [Bool.false_eq_true, if_false]
                rw [h1'] at h8 hvl ⊢
                cases hds : ds' with
                | nil => rw [hds] at h8; simp only [RdL] at h8; rw [h8] at hvl; simp at hvl
                | cons d r =>
                  rw [hds] at h8
                  simp only [RdL] at h8
                  obtain ⟨v', vs', e1, h9, _⟩ := h8
                  rw [e1]
                  simpa using h9
          · cases h
        · cases h
      · cases h
    · cases h
/-- whatever reads as the one reads as the other -/
def LeD (d d' : D) : Prop := ∀ w Z v, RdV w Z d v → RdV w Z d' v
theorem LeD.refl (d : D) : LeD d d := fun _ _ _ h => h
theorem LeD.of_eq {d d' : D} (h : d = d') : LeD d d' := h ▸ LeD.refl d
theorem LeD.nil (k : Nat) (row : Nat → List D) : LeD (.v (.slice none 0 0)) (.sl k 0 0 row) := fun w Z v h => by
  simp only [RdV] at h ⊢
  subst h
  exact ⟨none, 0, rfl, Nat.le_refl _, Nat.le_refl _, Nat.zero_le _, .inl (by trivial)⟩
theorem LeD.slice {k n x x' : Nat} {row row' : Nat → List D} (hn : n ≤ x') (hx : x' ≤ x) (h : ∀ i, i < x' → row i = row' i) : LeD (.sl k n x row) (.sl k n x' row') := fun w Z v hv => by
  simp only [RdV] at hv ⊢
  obtain ⟨a, c, h1, h2, h3, h4, h5⟩ := hv
  refine ⟨a, c, h1, hn, by omega, by omega, ?_⟩
  rcases h5 with h5 | ⟨b, off, h5, h6, h7⟩
  · exact .inl (by omega)
  · exact .inr ⟨b, off, h5, h6, fun i hi => by rw [← h i hi]; exact h7 i (by omega)⟩
theorem LeD.empty {k k' x : Nat} {row row' : Nat → List D} : LeD (.sl k 0 x row) (.sl k' 0 0 row') := fun w Z v hv => by
  simp only [RdV] at hv ⊢
  obtain ⟨a, c, h1, h2, h3, h4, h5⟩ := hv
  exact ⟨a, c, h1, Nat.le_refl _, Nat.zero_le _, Nat.zero_le _, .inl (by trivial)⟩
theorem LeD.trans {d d' d'' : D} (h : LeD d d') (h' : LeD d' d'') : LeD d d'' := fun w Z v hv => h' w Z v (h w Z v hv)
def LeDs : List D → List D → Prop
  | [], [] => True
  | d :: ds, d' :: ds' => LeD d d' ∧ LeDs ds ds'
  | _, _ => False
theorem LeDs.rd {w : World} {Z : Nat → Prop} : ∀ {ds ds' : List D} {vs : List Value}, LeDs ds ds' → RdL w Z ds vs → RdL w Z ds' vs
  | [], [], _, _, h => h
  | d :: ds, d' :: ds', vs, hle, h => by
    simp only [RdL] at h ⊢
    obtain ⟨v, vs', rfl, h1, h2⟩ := h
    exact ⟨v, vs', rfl, hle.1 _ _ _ h1, LeDs.rd hle.2 h2⟩
  | [], _ :: _, _, hle, _ => hle.elim
  | _ :: _, [], _, hle, _ => hle.elim
theorem LeD.tup {ds ds' : List D} (h : LeDs ds ds') : LeD (.tup ds) (.tup ds') := fun w Z v hv => by
  simp only [RdV] at hv ⊢
  obtain ⟨vs, h1, h2⟩ := hv
  exact ⟨vs, h1, h.rd h2⟩
theorem LeD.ag {ds ds' : List D} (h : LeDs ds ds') : LeD (.ag ds) (.ag ds') := fun w Z v hv => by
  simp only [RdV] at hv ⊢
  obtain ⟨vs, h1, h2⟩ := hv
  exact ⟨vs, h1, h.rd h2⟩
theorem ret_T {te : TE} {R : Rn} {P : Program} {f : FuncId} {fn : Func} {res : D} (hR : FnRun R I P f fn res) (hte : TEok P te) {s : Stt} (hdf : s.df = []) {k : List Item} {ds : List D} (hr : resV te s fn.results.toList = some ds) (he : LeD (resD ds) res)
    {a : Act} {w : World} (hs : Sat R.C s.sy a w) : R.T (lone { R.b.atR a k with mode := .returning } R.cs w) := by
  obtain ⟨E, hE⟩ := hs
  obtain ⟨vs, h1, h2⟩ := resV_run hte hE hr
  have hlen := RdL_length h2
  -- the value
  have hres : ∃ v, (results fn a.tmps).run P w = .ok v w ∧ RdV w (Zf E s.sy.L s.sy.O) res v := by
    have hm : (fn.results.mapM (rvSem a.tmps)).run P w = .ok vs.toArray w := by
      rw [Array.mapM_eq_mapM_toList]
      simp [h1]
    refine (?_ : ∃ v, (results fn a.tmps).run P w = .ok v w ∧ RdV w (Zf E s.sy.L s.sy.O) (resD ds) v).imp fun v hv => ⟨hv.1, he _ _ _ hv.2⟩
    match ds, vs, hlen, h2 with
    | [d], [v], _, h2 =>
      refine ⟨v, ?_, by simp only [RdL] at h2; obtain ⟨v', vs', e, h3, _⟩ := h2; simp at e; rw [e.1]; exact h3⟩
      rw [results_eq]
      simp only [Sem.run_bind, hm, Result.andThen_ok]
      rfl
    | [], [], _, h2 =>
      refine ⟨.tuple #[], ?_, by simp only [resD, RdV]; exact ⟨[], rfl, h2⟩⟩
      rw [results_eq]
      simp only [Sem.run_bind, hm, Result.andThen_ok]
      rfl
    | d :: d' :: ds, v :: v' :: vs, _, h2 =>
      refine ⟨.tuple (v :: v' :: vs).toArray, ?_, by simp only [resD, RdV]; exact ⟨_, rfl, h2⟩⟩
      rw [results_eq]
      simp only [Sem.run_bind, hm, Result.andThen_ok]
      simp
  obtain ⟨v, h3, h4⟩ := hres
  have hbel : Below R.C.w0.heap.size R.C.w0 w := ⟨hE.hp.bel.os, hE.hp.bel.tape, hE.hp.bel.output, hE.hp.bel.size, fun k hk => hE.hp.bel.block k hk (hR.m k)⟩
  have hdf' : a.defers = [] := hE.df.trans hdf
  rw [hR.t]
  refine ⟨v, w, _, Zf E s.sy.L s.sy.O, rfl, hR.bfn, ?_, hbel, fun b hb => Zf_lt hE hb, h4⟩
  refine ⟨rfl, hdf', hR.kind, fn, ?_, h3⟩
  show P.funcs[R.b.fn]? = some fn
  rw [hR.bfn]; exact hR.func
theorem Exec.ret {te : TE} {R : Rn} {P : Program} {f : FuncId} {fn : Func} {res : D} (hR : FnRun R I P f fn res) (hte : TEok P te) {s : Stt} (hdf : s.df = []) {k : List Item} {ds : List D} (hr : resV te s fn.results.toList = some ds) (he : LeD (resD ds) res) (hk : k = [] ∨ ∃ k', k = .code .ret :: k') :
    Exec R k s.sy := by
  intro a w hs
  refine ⟨lone { R.b.atR a k with mode := .returning } R.cs w, ret_T hR hte hdf hr he hs, ?_⟩
  rcases hk with rfl | ⟨k', rfl⟩
  · exact .one (stepR_end hR.round)
  · exact .one (stepR_ret hR.round)
end Go.Kin
namespace Go.Proofs.YtgnhhjojiipmgaaGreatDoor
open Go.Kin
set_option maxRecDepth 100000
/-! the types, as the engine looks at them -/
def te : TE := [
  (1, ⟨.func #[] #[] false, 1, 8, [.v (.nilFunc)], false⟩),
  (2, ⟨.int .i64, 1, 8, [.v (.int .i64 0)], false⟩),
  (3, ⟨.int .i64, 1, 8, [.v (.int .i64 0)], false⟩),
  (4, ⟨.bool, 1, 1, [.v (.bool false)], false⟩),
  (5, ⟨.int .u8, 1, 1, [.v (.int .u8 0)], false⟩),
  (9, ⟨.string, 1, 16, [.v (.string (mkS []))], false⟩),
  (21, ⟨.int .i32, 1, 4, [.v (.int .i32 0)], false⟩),
  (23, ⟨.slice 9, 1, 24, [.v (.slice none 0 0)], false⟩),
  (27, ⟨.func #[9] #[4] false, 1, 8, [.v (.nilFunc)], false⟩),
  (30, ⟨.func #[27] #[] false, 1, 8, [.v (.nilFunc)], false⟩),
  (43, ⟨.interface #[("Error", 34)], 1, 16, [.v (.nilIface)], false⟩)]
theorem te_1 : klook 1 te = some ⟨.func #[] #[] false, 1, 8, [.v (.nilFunc)], false⟩ := rfl
theorem te_2 : klook 2 te = some ⟨.int .i64, 1, 8, [.v (.int .i64 0)], false⟩ := rfl
theorem te_3 : klook 3 te = some ⟨.int .i64, 1, 8, [.v (.int .i64 0)], false⟩ := rfl
theorem te_4 : klook 4 te = some ⟨.bool, 1, 1, [.v (.bool false)], false⟩ := rfl
theorem te_5 : klook 5 te = some ⟨.int .u8, 1, 1, [.v (.int .u8 0)], false⟩ := rfl
theorem te_9 : klook 9 te = some ⟨.string, 1, 16, [.v (.string (mkS []))], false⟩ := rfl
theorem te_21 : klook 21 te = some ⟨.int .i32, 1, 4, [.v (.int .i32 0)], false⟩ := rfl
theorem te_23 : klook 23 te = some ⟨.slice 9, 1, 24, [.v (.slice none 0 0)], false⟩ := rfl
theorem te_27 : klook 27 te = some ⟨.func #[9] #[4] false, 1, 8, [.v (.nilFunc)], false⟩ := rfl
theorem te_30 : klook 30 te = some ⟨.func #[27] #[] false, 1, 8, [.v (.nilFunc)], false⟩ := rfl
theorem te_43 : klook 43 te = some ⟨.interface #[("Error", 34)], 1, 16, [.v (.nilIface)], false⟩ := rfl
theorem te_ok : TEok Tryz.prog te := by
  unfold te
  refine TEok.cons (z := .nilFunc) Tryz.underlying1 (by as_aux_lemma => kernel_rfl) (fun w Z => (RdL_v0 RdL_n0)) (fun h => nomatch h) ?_
  refine TEok.cons (z := .int .i64 0) Tryz.underlying2 (by as_aux_lemma => kernel_rfl) (fun w Z => (RdL_v0 RdL_n0)) (fun h => nomatch h) ?_
  refine TEok.cons (z := .int .i64 0) Tryz.underlying3 (by as_aux_lemma => kernel_rfl) (fun w Z => (RdL_v0 RdL_n0)) (fun h => nomatch h) ?_
  refine TEok.cons (z := .bool false) Tryz.underlying4 (by as_aux_lemma => kernel_rfl) (fun w Z => (RdL_v0 RdL_n0)) (fun h => nomatch h) ?_
  refine TEok.cons (z := .int .u8 0) Tryz.underlying5 (by as_aux_lemma => kernel_rfl) (fun w Z => (RdL_v0 RdL_n0)) (fun h => nomatch h) ?_
  refine TEok.cons (z := .string ⟨#[]⟩) Tryz.underlying9 (by as_aux_lemma => kernel_rfl) (fun w Z => (RdL_v0 RdL_n0)) (fun h => nomatch h) ?_
  refine TEok.cons (z := .int .i32 0) Tryz.underlying21 (by as_aux_lemma => kernel_rfl) (fun w Z => (RdL_v0 RdL_n0)) (fun h => nomatch h) ?_
  refine TEok.cons (z := .slice none 0 0) Tryz.underlying23 (by as_aux_lemma => kernel_rfl) (fun w Z => (RdL_v0 RdL_n0)) (fun h => nomatch h) ?_
  refine TEok.cons (z := .nilFunc) Tryz.underlying27 (by as_aux_lemma => kernel_rfl) (fun w Z => (RdL_v0 RdL_n0)) (fun h => nomatch h) ?_
  refine TEok.cons (z := .nilFunc) Tryz.underlying30 (by as_aux_lemma => kernel_rfl) (fun w Z => (RdL_v0 RdL_n0)) (fun h => nomatch h) ?_
  refine TEok.cons (z := .nilIface) Tryz.underlying43 (by as_aux_lemma => kernel_rfl) (fun w Z => (RdL_v0 RdL_n0)) (fun h => nomatch h) ?_
  exact TEok.nil
end Go.Proofs.YtgnhhjojiipmgaaGreatDoor
namespace Go.Proofs
open Go.Shelf
def Tryz.lays156_ren : Go.Shelf.Ren := ⟨fun | 156 => 12 | 165 => 22 | 166 => 23 | 169 => 24 | 240 => 39 | 241 => 40 | 276 => 53 | 277 => 54 | n => n, fun | 31 => 23 | 9 => 9 | 3 => 3 | 4 => 4 | 0 => 0 | 20 => 20 | 72 => 40 | 76 => 44 | 70 => 37 | 37 => 38 | 75 => 43 | 127 => 60 | 164 => 77 | 5 => 5 | 80 => 34 | n => n, fun | n => n⟩
theorem Tryz.lays156 : Go.Proofs.Lays.n156 Tryz.prog Tryz.lays156_ren := {
  mixed := by kernel_rfl
  f156 := Tryz.func12.trans (congrArg some (by kernel_rfl))
  f165 := Tryz.func22.trans (congrArg some (by kernel_rfl))
  f166 := Tryz.func23.trans (congrArg some (by kernel_rfl))
  f169 := Tryz.func24.trans (congrArg some (by kernel_rfl))
  f240 := Tryz.func39.trans (congrArg some (by kernel_rfl))
  f241 := Tryz.func40.trans (congrArg some (by kernel_rfl))
  f276 := Tryz.func53.trans (congrArg some (by kernel_rfl))
  f277 := Tryz.func54.trans (congrArg some (by kernel_rfl))
  t0 := Tryz.underlying0
  a0 := Tryz.isAgg0
  z0 := Tryz.sizeOf0
  v0 := Tryz.zeroValue0
  t3 := Tryz.underlying3
  a3 := Tryz.isAgg3
  z3 := Tryz.sizeOf3
  v3 := Tryz.zeroValue3
  t4 := Tryz.underlying4
  a4 := Tryz.isAgg4
  z4 := Tryz.sizeOf4
  v4 := Tryz.zeroValue4
  t9 := Tryz.underlying9
  a9 := Tryz.isAgg9
  z9 := Tryz.sizeOf9
  v9 := Tryz.zeroValue9
  t20 := Tryz.underlying20
  a20 := Tryz.isAgg20
  z20 := Tryz.sizeOf20
  v20 := Tryz.zeroValue20
  t31 := Tryz.underlying23
  a31 := Tryz.isAgg23
  z31 := Tryz.sizeOf23
  v31 := Tryz.zeroValue23
  t37 := Tryz.underlying38
  a37 := Tryz.isAgg38
  z37 := Tryz.sizeOf38
  v37 := Tryz.zeroValue38
  t70 := Tryz.underlying37
  a70 := Tryz.isAgg37
  z70 := Tryz.sizeOf37
  v70 := Tryz.zeroValue37
  t72 := Tryz.underlying40
  a72 := Tryz.isAgg40
  z72 := Tryz.sizeOf40
  v72 := Tryz.zeroValue40
  t75 := Tryz.underlying43
  a75 := Tryz.isAgg43
  z75 := Tryz.sizeOf43
  v75 := Tryz.zeroValue43
  t76 := Tryz.underlying44
  a76 := Tryz.isAgg44
  z76 := Tryz.sizeOf44
  v76 := Tryz.zeroValue44
  t127 := Tryz.underlying60
  a127 := Tryz.isAgg60
  z127 := Tryz.sizeOf60
  v127 := Tryz.zeroValue60
  t164 := Tryz.underlying77
  a164 := Tryz.isAgg77
  z164 := Tryz.sizeOf77
  v164 := Tryz.zeroValue77 }
theorem Tryz.Builder_Extra_156 : Builder.Extra Tryz.prog Tryz.lays156_ren := {
  sizeBuilder := by kernel_rfl
  liesBuilder := by kernel_rfl
  t5 := Tryz.underlying5
  a5 := Tryz.isAgg5
  z5 := Tryz.sizeOf5
  v5 := Tryz.zeroValue5
  infoByte := by kernel_rfl
  cellsByte := by kernel_rfl
  sizeByte := by kernel_rfl
  neB5 := by decide }
open Go.RowKit in
theorem Tryz.strings_Join_none (a : Option Addr) (c : Nat) (sep : ByteArray) (w : World) :
    Calls Tryz.prog 12 #[.slice a 0 c, .string sep] w fun e w' => e = .returned (.string ⟨#[]⟩) ∧ w' = w := Any.strings_Join_none Tryz.lays156 Tryz.Builder_Extra_156 a c sep w
open Go.RowKit in
theorem Tryz.strings_Join (bk o c : Nat) (xs : List ByteArray) (sep : ByteArray) (w : World) (hcells : ∀ (j : Nat) x, xs[j]? = some x → w.cell? ⟨bk, o + j, none⟩ = some (.string x)) (hbk : bk < w.heap.size) (hN : xs.length ≤ 140737488355328) (hcap : xs.length ≤ c) (hlen : (Lib.join (xs.map (·.data.toList)) sep.data.toList).length ≤ 140737488355328) :
    Calls Tryz.prog 12 #[.slice (some ⟨bk, o, none⟩) xs.length c, .string sep] w fun e w' => e = .returned (.string ⟨(Lib.join (xs.map (·.data.toList)) sep.data.toList).toArray⟩) ∧ Below w.heap.size w w' := Any.strings_Join Tryz.lays156 Tryz.Builder_Extra_156 bk o c xs sep w hcells hbk hN hcap hlen
def Tryz.lays161_ren : Go.Shelf.Ren := ⟨fun | 161 => 30 | 231 => 45 | 227 => 35 | 233 => 46 | 235 => 47 | 228 => 36 | 197 => 63 | 151 => 64 | 260 => 82 | 152 => 33 | 137 => 31 | 119 => 52 | 224 => 50 | 225 => 49 | 217 => 48 | 266 => 65 | n => n, fun | 9 => 9 | 4 => 4 | 3 => 3 | 5 => 5 | 117 => 57 | 116 => 56 | 0 => 0 | 124 => 73 | 105 => 101 | 21 => 21 | 119 => 178 | 46 => 75 | 139 => 181 | 138 => 180 | n => n, fun | 3 => 1 | 4 => 2 | n => n⟩
theorem Tryz.lays161 : Go.Proofs.Lays.n161 Tryz.prog Tryz.lays161_ren := {
  mixed := by kernel_rfl
  f119 := Tryz.func52.trans (congrArg some (by kernel_rfl))
  f137 := Tryz.func31.trans (congrArg some (by kernel_rfl))
  f151 := Tryz.func64.trans (congrArg some (by kernel_rfl))
  f152 := Tryz.func33.trans (congrArg some (by kernel_rfl))
  f161 := Tryz.func30.trans (congrArg some (by kernel_rfl))
  f197 := Tryz.func63.trans (congrArg some (by kernel_rfl))
  f217 := Tryz.func48.trans (congrArg some (by kernel_rfl))
  f224 := Tryz.func50.trans (congrArg some (by kernel_rfl))
  f225 := Tryz.func49.trans (congrArg some (by kernel_rfl))
  f227 := Tryz.func35.trans (congrArg some (by kernel_rfl))
  f228 := Tryz.func36.trans (congrArg some (by kernel_rfl))
  f231 := Tryz.func45.trans (congrArg some (by kernel_rfl))
  f233 := Tryz.func46.trans (congrArg some (by kernel_rfl))
  f235 := Tryz.func47.trans (congrArg some (by kernel_rfl))
  f260 := Tryz.func82.trans (congrArg some (by kernel_rfl))
  f266 := Tryz.func65.trans (congrArg some (by kernel_rfl))
  t0 := Tryz.underlying0
  a0 := Tryz.isAgg0
  z0 := Tryz.sizeOf0
  v0 := Tryz.zeroValue0
  t3 := Tryz.underlying3
  a3 := Tryz.isAgg3
  z3 := Tryz.sizeOf3
  v3 := Tryz.zeroValue3
  t4 := Tryz.underlying4
  a4 := Tryz.isAgg4
  z4 := Tryz.sizeOf4
  v4 := Tryz.zeroValue4
  t5 := Tryz.underlying5
  a5 := Tryz.isAgg5
  z5 := Tryz.sizeOf5
  v5 := Tryz.zeroValue5
  t9 := Tryz.underlying9
  a9 := Tryz.isAgg9
  z9 := Tryz.sizeOf9
  v9 := Tryz.zeroValue9
  t21 := Tryz.underlying21
  a21 := Tryz.isAgg21
  z21 := Tryz.sizeOf21
  v21 := Tryz.zeroValue21
  t46 := Tryz.underlying75
  a46 := Tryz.isAgg75
  z46 := Tryz.sizeOf75
  v46 := Tryz.zeroValue75
  t105 := Tryz.underlying101
  a105 := Tryz.isAgg101
  z105 := Tryz.sizeOf101
  v105 := Tryz.zeroValue101
  t116 := Tryz.underlying56
  a116 := Tryz.isAgg56
  z116 := Tryz.sizeOf56
  t117 := Tryz.underlying57
  a117 := Tryz.isAgg57
  z117 := Tryz.sizeOf57
  v117 := Tryz.zeroValue57
  t119 := Tryz.underlying178
  a119 := Tryz.isAgg178
  z119 := Tryz.sizeOf178
  t124 := Tryz.underlying73
  a124 := Tryz.isAgg73
  z124 := Tryz.sizeOf73
  v124 := Tryz.zeroValue73
  t138 := Tryz.underlying180
  a138 := Tryz.isAgg180
  z138 := Tryz.sizeOf180
  v138 := Tryz.zeroValue180
  t139 := Tryz.underlying181
  a139 := Tryz.isAgg181
  z139 := Tryz.sizeOf181
  v139 := Tryz.zeroValue181
  g3 := by kernel_rfl
  g4 := by kernel_rfl }
open Go.RowKit in
theorem Tryz.strings_TrimLeft_one (s : ByteArray) (c : UInt8) (hc : c.toNat < 128) (w : World) :
    Calls Tryz.prog 30 #[.string s, .string ⟨#[c]⟩] w fun e w' => e = .returned (.string ⟨(Lib.trimLeftB s.data.toList c).toArray⟩) ∧ w' = w := Any.strings_TrimLeft_one Tryz.lays161 s c hc w
def Tryz.lays137_ren : Go.Shelf.Ren := ⟨fun | 137 => 31 | 217 => 48 | 266 => 65 | n => n, fun | 9 => 9 | 5 => 5 | 3 => 3 | n => n, fun | n => n⟩
theorem Tryz.lays137 : Go.Proofs.Lays.n137 Tryz.prog Tryz.lays137_ren := {
  mixed := by kernel_rfl
  f137 := Tryz.func31.trans (congrArg some (by kernel_rfl))
  f217 := Tryz.func48.trans (congrArg some (by kernel_rfl))
  f266 := Tryz.func65.trans (congrArg some (by kernel_rfl))
  t3 := Tryz.underlying3
  a3 := Tryz.isAgg3
  z3 := Tryz.sizeOf3
  v3 := Tryz.zeroValue3
  t5 := Tryz.underlying5
  a5 := Tryz.isAgg5
  z5 := Tryz.sizeOf5
  v5 := Tryz.zeroValue5
  t9 := Tryz.underlying9
  a9 := Tryz.isAgg9
  z9 := Tryz.sizeOf9
  v9 := Tryz.zeroValue9 }
open Go.RowKit in
theorem Tryz.strings_IndexByte (s : ByteArray) (c : Int) (w : World) :
    Calls Tryz.prog 31 #[.string s, .int .u8 c] w fun e w' => e = .returned (.int .i64 (Lib.indexByte s.data.toList c.toNat.toUInt8)) ∧ w' = w := Any.strings_IndexByte Tryz.lays137 s c w
def Tryz.lays172_ren : Go.Shelf.Ren := ⟨fun | 172 => 120 | 244 => 164 | 245 => 165 | 247 => 213 | 279 => 214 | 280 => 215 | 281 => 216 | 282 => 217 | 287 => 289 | 316 => 290 | 171 => 41 | 205 => 291 | 321 => 375 | 322 => 376 | 243 => 55 | 246 => 67 | 283 => 83 | 284 => 84 | 285 => 85 | 286 => 86 | 129 => 110 | 317 => 109 | 318 => 111 | 319 => 112 | 320 => 113 | 337 => 140 | 338 => 141 | n => n, fun | 9 => 9 | 3 => 3 | 75 => 43 | 76 => 44 | 4 => 4 | 5 => 5 | 167 => 338 | 37 => 38 | 0 => 0 | 85 => 339 | 2 => 2 | 168 => 341 | 53 => 120 | 175 => 425 | 46 => 75 | 210 => 428 | 127 => 60 | 145 => 510 | 143 => 508 | 21 => 21 | 171 => 119 | 173 => 123 | 212 => 183 | 51 => 104 | 20 => 20 | 213 => 184 | 232 => 299 | 233 => 300 | 80 => 34 | n => n, fun | 15 => 6 | 16 => 7 | 17 => 3 | 18 => 4 | 19 => 5 | n => n⟩
theorem Tryz.lays172 : Go.Proofs.Lays.n172 Tryz.prog Tryz.lays172_ren := {
  mixed := by kernel_rfl
  f129 := Tryz.func110.trans (congrArg some (by kernel_rfl))
  f171 := Tryz.func41.trans (congrArg some (by kernel_rfl))
  f172 := Tryz.func120.trans (congrArg some (by kernel_rfl))
  f205 := Tryz.func291.trans (congrArg some (by kernel_rfl))
  f243 := Tryz.func55.trans (congrArg some (by kernel_rfl))
  f244 := Tryz.func164.trans (congrArg some (by kernel_rfl))
  f245 := Tryz.func165.trans (congrArg some (by kernel_rfl))
  f246 := Tryz.func67.trans (congrArg some (by kernel_rfl))
  f247 := Tryz.func213.trans (congrArg some (by kernel_rfl))
  f279 := Tryz.func214.trans (congrArg some (by kernel_rfl))
  f280 := Tryz.func215.trans (congrArg some (by kernel_rfl))
  f281 := Tryz.func216.trans (congrArg some (by kernel_rfl))
  f282 := Tryz.func217.trans (congrArg some (by kernel_rfl))
  f283 := Tryz.func83.trans (congrArg some (by kernel_rfl))
  f284 := Tryz.func84.trans (congrArg some (by kernel_rfl))
  f285 := Tryz.func85.trans (congrArg some (by kernel_rfl))
  f286 := Tryz.func86.trans (congrArg some (by kernel_rfl))
  f287 := Tryz.func289.trans (congrArg some (by kernel_rfl))
  f316 := Tryz.func290.trans (congrArg some (by kernel_rfl))
  f317 := Tryz.func109.trans (congrArg some (by kernel_rfl))
  f318 := Tryz.func111.trans (congrArg some (by kernel_rfl))
  f319 := Tryz.func112.trans (congrArg some (by kernel_rfl))
  f320 := Tryz.func113.trans (congrArg some (by kernel_rfl))
  f321 := Tryz.func375.trans (congrArg some (by kernel_rfl))
  f322 := Tryz.func376.trans (congrArg some (by kernel_rfl))
  f337 := Tryz.func140.trans (congrArg some (by kernel_rfl))
  f338 := Tryz.func141.trans (congrArg some (by kernel_rfl))
  t0 := Tryz.underlying0
  a0 := Tryz.isAgg0
  z0 := Tryz.sizeOf0
  v0 := Tryz.zeroValue0
  t2 := Tryz.underlying2
  a2 := Tryz.isAgg2
  z2 := Tryz.sizeOf2
  v2 := Tryz.zeroValue2
  t3 := Tryz.underlying3
  a3 := Tryz.isAgg3
  z3 := Tryz.sizeOf3
  v3 := Tryz.zeroValue3
  t4 := Tryz.underlying4
  a4 := Tryz.isAgg4
  z4 := Tryz.sizeOf4
  v4 := Tryz.zeroValue4
  t5 := Tryz.underlying5
  a5 := Tryz.isAgg5
  z5 := Tryz.sizeOf5
  v5 := Tryz.zeroValue5
  t9 := Tryz.underlying9
  a9 := Tryz.isAgg9
  z9 := Tryz.sizeOf9
  v9 := Tryz.zeroValue9
  t20 := Tryz.underlying20
  a20 := Tryz.isAgg20
  z20 := Tryz.sizeOf20
  v20 := Tryz.zeroValue20
  t21 := Tryz.underlying21
  a21 := Tryz.isAgg21
  z21 := Tryz.sizeOf21
  v21 := Tryz.zeroValue21
  t37 := Tryz.underlying38
  a37 := Tryz.isAgg38
  z37 := Tryz.sizeOf38
  v37 := Tryz.zeroValue38
  t46 := Tryz.underlying75
  a46 := Tryz.isAgg75
  z46 := Tryz.sizeOf75
  v46 := Tryz.zeroValue75
  t51 := Tryz.underlying104
  a51 := Tryz.isAgg104
  z51 := Tryz.sizeOf104
  v51 := Tryz.zeroValue104
  t53 := Tryz.underlying120
  a53 := Tryz.isAgg120
  z53 := Tryz.sizeOf120
  v53 := Tryz.zeroValue120
  t75 := Tryz.underlying43
  a75 := Tryz.isAgg43
  z75 := Tryz.sizeOf43
  v75 := Tryz.zeroValue43
  t76 := Tryz.underlying44
  a76 := Tryz.isAgg44
  z76 := Tryz.sizeOf44
  v76 := Tryz.zeroValue44
  t85 := Tryz.underlying339
  a85 := Tryz.isAgg339
  z85 := Tryz.sizeOf339
  v85 := Tryz.zeroValue339
  t127 := Tryz.underlying60
  a127 := Tryz.isAgg60
  z127 := Tryz.sizeOf60
  v127 := Tryz.zeroValue60
  t143 := Tryz.underlying508
  a143 := Tryz.isAgg508
  z143 := Tryz.sizeOf508
  v143 := Tryz.zeroValue508
  t145 := Tryz.underlying510
  a145 := Tryz.isAgg510
  z145 := Tryz.sizeOf510
  v145 := Tryz.zeroValue510
  t167 := Tryz.underlying338
  a167 := Tryz.isAgg338
  z167 := Tryz.sizeOf338
  v167 := Tryz.zeroValue338
  t168 := Tryz.underlying341
  a168 := Tryz.isAgg341
  z168 := Tryz.sizeOf341
  v168 := Tryz.zeroValue341
  t171 := Tryz.underlying119
  a171 := Tryz.isAgg119
  z171 := Tryz.sizeOf119
  v171 := Tryz.zeroValue119
  t173 := Tryz.underlying123
  a173 := Tryz.isAgg123
  z173 := Tryz.sizeOf123
  v173 := Tryz.zeroValue123
  t175 := Tryz.underlying425
  a175 := Tryz.isAgg425
  z175 := Tryz.sizeOf425
  v175 := Tryz.zeroValue425
  t210 := Tryz.underlying428
  a210 := Tryz.isAgg428
  z210 := Tryz.sizeOf428
  v210 := Tryz.zeroValue428
  t212 := Tryz.underlying183
  a212 := Tryz.isAgg183
  z212 := Tryz.sizeOf183
  v212 := Tryz.zeroValue183
  t213 := Tryz.underlying184
  a213 := Tryz.isAgg184
  z213 := Tryz.sizeOf184
  t232 := Tryz.underlying299
  a232 := Tryz.isAgg299
  z232 := Tryz.sizeOf299
  v232 := Tryz.zeroValue299
  t233 := Tryz.underlying300
  a233 := Tryz.isAgg300
  z233 := Tryz.sizeOf300
  v233 := Tryz.zeroValue300
  g15 := by kernel_rfl
  g16 := by kernel_rfl
  g17 := by kernel_rfl
  g18 := by kernel_rfl
  g19 := by kernel_rfl }
open Go.RowKit in
theorem Tryz.strconv_Atoi (s : ByteArray) (n : Int) (hl : s.size ≤ 18) (h : Lib.atoi s.data.toList = some n) (w : World) :
    Calls Tryz.prog 120 #[.string s] w fun e w' => e = .returned (.tuple #[.int .i64 n, .nilIface]) ∧ ∃ t, w' = Lib.bytesWorld w 5 t := Any.strconv_Atoi Tryz.lays172 s n hl h w
def Tryz.lays171_ren : Go.Shelf.Ren := ⟨fun | 171 => 41 | 243 => 55 | 246 => 67 | 283 => 83 | 284 => 84 | 285 => 85 | 286 => 86 | 129 => 110 | 317 => 109 | 318 => 111 | 319 => 112 | 320 => 113 | 337 => 140 | 338 => 141 | n => n, fun | 3 => 3 | 9 => 9 | 2 => 2 | 4 => 4 | 171 => 119 | 0 => 0 | 53 => 120 | 37 => 38 | 5 => 5 | 173 => 123 | 212 => 183 | 51 => 104 | 20 => 20 | 213 => 184 | 46 => 75 | 232 => 299 | 233 => 300 | n => n, fun | 17 => 3 | 18 => 4 | 19 => 5 | n => n⟩
theorem Tryz.lays171 : Go.Proofs.Lays.n171 Tryz.prog Tryz.lays171_ren := {
  mixed := by kernel_rfl
  f129 := Tryz.func110.trans (congrArg some (by kernel_rfl))
  f171 := Tryz.func41.trans (congrArg some (by kernel_rfl))
  f243 := Tryz.func55.trans (congrArg some (by kernel_rfl))
  f246 := Tryz.func67.trans (congrArg some (by kernel_rfl))
  f283 := Tryz.func83.trans (congrArg some (by kernel_rfl))
  f284 := Tryz.func84.trans (congrArg some (by kernel_rfl))
  f285 := Tryz.func85.trans (congrArg some (by kernel_rfl))
  f286 := Tryz.func86.trans (congrArg some (by kernel_rfl))
  f317 := Tryz.func109.trans (congrArg some (by kernel_rfl))
  f318 := Tryz.func111.trans (congrArg some (by kernel_rfl))
  f319 := Tryz.func112.trans (congrArg some (by kernel_rfl))
  f320 := Tryz.func113.trans (congrArg some (by kernel_rfl))
  f337 := Tryz.func140.trans (congrArg some (by kernel_rfl))
  f338 := Tryz.func141.trans (congrArg some (by kernel_rfl))
  t0 := Tryz.underlying0
  a0 := Tryz.isAgg0
  z0 := Tryz.sizeOf0
  v0 := Tryz.zeroValue0
  t2 := Tryz.underlying2
  a2 := Tryz.isAgg2
  z2 := Tryz.sizeOf2
  v2 := Tryz.zeroValue2
  t3 := Tryz.underlying3
  a3 := Tryz.isAgg3
  z3 := Tryz.sizeOf3
  v3 := Tryz.zeroValue3
  t4 := Tryz.underlying4
  a4 := Tryz.isAgg4
  z4 := Tryz.sizeOf4
  v4 := Tryz.zeroValue4
  t5 := Tryz.underlying5
  a5 := Tryz.isAgg5
  z5 := Tryz.sizeOf5
  v5 := Tryz.zeroValue5
  t9 := Tryz.underlying9
  a9 := Tryz.isAgg9
  z9 := Tryz.sizeOf9
  v9 := Tryz.zeroValue9
  t20 := Tryz.underlying20
  a20 := Tryz.isAgg20
  z20 := Tryz.sizeOf20
  v20 := Tryz.zeroValue20
  t37 := Tryz.underlying38
  a37 := Tryz.isAgg38
  z37 := Tryz.sizeOf38
  v37 := Tryz.zeroValue38
  t46 := Tryz.underlying75
  a46 := Tryz.isAgg75
  z46 := Tryz.sizeOf75
  v46 := Tryz.zeroValue75
  t51 := Tryz.underlying104
  a51 := Tryz.isAgg104
  z51 := Tryz.sizeOf104
  v51 := Tryz.zeroValue104
  t53 := Tryz.underlying120
  a53 := Tryz.isAgg120
  z53 := Tryz.sizeOf120
  v53 := Tryz.zeroValue120
  t171 := Tryz.underlying119
  a171 := Tryz.isAgg119
  z171 := Tryz.sizeOf119
  v171 := Tryz.zeroValue119
  t173 := Tryz.underlying123
  a173 := Tryz.isAgg123
  z173 := Tryz.sizeOf123
  v173 := Tryz.zeroValue123
  t212 := Tryz.underlying183
  a212 := Tryz.isAgg183
  z212 := Tryz.sizeOf183
  v212 := Tryz.zeroValue183
  t213 := Tryz.underlying184
  a213 := Tryz.isAgg184
  z213 := Tryz.sizeOf184
  t232 := Tryz.underlying299
  a232 := Tryz.isAgg299
  z232 := Tryz.sizeOf299
  v232 := Tryz.zeroValue299
  t233 := Tryz.underlying300
  a233 := Tryz.isAgg300
  z233 := Tryz.sizeOf300
  v233 := Tryz.zeroValue300
  g17 := by kernel_rfl
  g18 := by kernel_rfl
  g19 := by kernel_rfl }
open Go.RowKit Go.Sort Go.Lib in
theorem Tryz.strconv_Itoa_small (i : Nat) (hi : i < 100) (w : World) :
    Calls Tryz.prog 41 #[.int .i64 i] w fun e w' => e = .returned (.string ⟨(Lib.decDigits i).toArray⟩) ∧ w' = w := Any.strconv_Itoa_small Tryz.lays171 i hi w
def Tryz.lays144_ren : Go.Shelf.Ren := ⟨fun | 144 => 9 | 143 => 17 | 219 => 32 | 217 => 48 | 225 => 49 | 224 => 50 | 267 => 51 | 266 => 65 | 314 => 66 | n => n, fun | 9 => 9 | 4 => 4 | 3 => 3 | 5 => 5 | 46 => 75 | 146 => 105 | 51 => 104 | n => n, fun | 1 => 0 | n => n⟩
theorem Tryz.lays144 : Go.Proofs.Lays.n144 Tryz.prog Tryz.lays144_ren := {
  mixed := by kernel_rfl
  f143 := Tryz.func17.trans (congrArg some (by kernel_rfl))
  f144 := Tryz.func9.trans (congrArg some (by kernel_rfl))
  f217 := Tryz.func48.trans (congrArg some (by kernel_rfl))
  f219 := Tryz.func32.trans (congrArg some (by kernel_rfl))
  f224 := Tryz.func50.trans (congrArg some (by kernel_rfl))
  f225 := Tryz.func49.trans (congrArg some (by kernel_rfl))
  f266 := Tryz.func65.trans (congrArg some (by kernel_rfl))
  f267 := Tryz.func51.trans (congrArg some (by kernel_rfl))
  f314 := Tryz.func66.trans (congrArg some (by kernel_rfl))
  t3 := Tryz.underlying3
  a3 := Tryz.isAgg3
  z3 := Tryz.sizeOf3
  v3 := Tryz.zeroValue3
  t4 := Tryz.underlying4
  a4 := Tryz.isAgg4
  z4 := Tryz.sizeOf4
  v4 := Tryz.zeroValue4
  t5 := Tryz.underlying5
  a5 := Tryz.isAgg5
  z5 := Tryz.sizeOf5
  v5 := Tryz.zeroValue5
  t9 := Tryz.underlying9
  a9 := Tryz.isAgg9
  z9 := Tryz.sizeOf9
  v9 := Tryz.zeroValue9
  t46 := Tryz.underlying75
  a46 := Tryz.isAgg75
  z46 := Tryz.sizeOf75
  v46 := Tryz.zeroValue75
  t51 := Tryz.underlying104
  a51 := Tryz.isAgg104
  z51 := Tryz.sizeOf104
  v51 := Tryz.zeroValue104
  t146 := Tryz.underlying105
  a146 := Tryz.isAgg105
  z146 := Tryz.sizeOf105
  v146 := Tryz.zeroValue105
  g1 := by kernel_rfl }
open Go.RowKit Go.Lib in
theorem Tryz.strings_Contains_one (s : ByteArray) (c : UInt8) (w : World) :
    Calls Tryz.prog 9 #[.string s, .string ⟨#[c]⟩] w fun e w' => e = .returned (.bool (decide (0 ≤ Lib.indexByte s.data.toList c))) ∧ w' = w := Any.strings_Contains_one Tryz.lays144 s c w
def Tryz.lays100_ren : Go.Shelf.Ren := ⟨fun | 100 => 13 | 207 => 25 | n => n, fun | 9 => 9 | 4 => 4 | 3 => 3 | n => n, fun | n => n⟩
theorem Tryz.lays100 : Go.Proofs.Lays.n100 Tryz.prog Tryz.lays100_ren := {
  mixed := by kernel_rfl
  f100 := Tryz.func13.trans (congrArg some (by kernel_rfl))
  f207 := Tryz.func25.trans (congrArg some (by kernel_rfl))
  t3 := Tryz.underlying3
  a3 := Tryz.isAgg3
  z3 := Tryz.sizeOf3
  v3 := Tryz.zeroValue3
  t4 := Tryz.underlying4
  a4 := Tryz.isAgg4
  z4 := Tryz.sizeOf4
  v4 := Tryz.zeroValue4
  t9 := Tryz.underlying9
  a9 := Tryz.isAgg9
  z9 := Tryz.sizeOf9
  v9 := Tryz.zeroValue9 }
open Go.RowKit Go.Lib in
theorem Tryz.strings_HasSuffix (s p : ByteArray) (w : World) (hs : s.size ≤ 9223372036854775807) :
    Calls Tryz.prog 13 #[.string s, .string p] w fun e w' => e = .returned (.bool (Lib.hasSuffix s.data.toList p.data.toList)) ∧ w' = w := Any.strings_HasSuffix Tryz.lays100 s p w hs
def Tryz.lays102_ren : Go.Shelf.Ren := ⟨fun | 102 => 21 | 209 => 38 | 207 => 25 | n => n, fun | 9 => 9 | 4 => 4 | 3 => 3 | n => n, fun | n => n⟩
theorem Tryz.lays102 : Go.Proofs.Lays.n102 Tryz.prog Tryz.lays102_ren := {
  mixed := by kernel_rfl
  f102 := Tryz.func21.trans (congrArg some (by kernel_rfl))
  f207 := Tryz.func25.trans (congrArg some (by kernel_rfl))
  f209 := Tryz.func38.trans (congrArg some (by kernel_rfl))
  t3 := Tryz.underlying3
  a3 := Tryz.isAgg3
  z3 := Tryz.sizeOf3
  v3 := Tryz.zeroValue3
  t4 := Tryz.underlying4
  a4 := Tryz.isAgg4
  z4 := Tryz.sizeOf4
  v4 := Tryz.zeroValue4
  t9 := Tryz.underlying9
  a9 := Tryz.isAgg9
  z9 := Tryz.sizeOf9
  v9 := Tryz.zeroValue9 }
open Go.RowKit Go.Lib in
theorem Tryz.strings_TrimSuffix (s p : ByteArray) (w : World) (hs : s.size ≤ 9223372036854775807) :
    Calls Tryz.prog 21 #[.string s, .string p] w fun e w' => e = .returned (.string ⟨(Lib.trimSuffix s.data.toList p.data.toList).toArray⟩) ∧ w' = w := Any.strings_TrimSuffix Tryz.lays102 s p w hs
def Tryz.lays157_ren : Go.Shelf.Ren := ⟨fun | 157 => 414 | 229 => 484 | 199 => 485 | 261 => 534 | 311 => 573 | 312 => 574 | n => n, fun | 9 => 9 | 31 => 23 | 3 => 3 | 5 => 5 | 4 => 4 | 119 => 178 | 0 => 0 | 40 => 76 | 152 => 663 | 21 => 21 | 154 => 665 | 51 => 104 | 141 => 667 | 196 => 696 | 193 => 693 | 198 => 699 | 49 => 697 | 194 => 694 | 201 => 702 | 226 => 717 | 46 => 75 | 227 => 718 | n => n, fun | 0 => 8 | 6 => 9 | n => n⟩
theorem Tryz.lays157 : Go.Proofs.Lays.n157 Tryz.prog Tryz.lays157_ren := {
  mixed := by kernel_rfl
  f157 := Tryz.func414.trans (congrArg some (by kernel_rfl))
  f199 := Tryz.func485.trans (congrArg some (by kernel_rfl))
  f229 := Tryz.func484.trans (congrArg some (by kernel_rfl))
  f261 := Tryz.func534.trans (congrArg some (by kernel_rfl))
  f311 := Tryz.func573.trans (congrArg some (by kernel_rfl))
  f312 := Tryz.func574.trans (congrArg some (by kernel_rfl))
  t0 := Tryz.underlying0
  a0 := Tryz.isAgg0
  z0 := Tryz.sizeOf0
  v0 := Tryz.zeroValue0
  t3 := Tryz.underlying3
  a3 := Tryz.isAgg3
  z3 := Tryz.sizeOf3
  v3 := Tryz.zeroValue3
  t4 := Tryz.underlying4
  a4 := Tryz.isAgg4
  z4 := Tryz.sizeOf4
  v4 := Tryz.zeroValue4
  t5 := Tryz.underlying5
  a5 := Tryz.isAgg5
  z5 := Tryz.sizeOf5
  v5 := Tryz.zeroValue5
  t9 := Tryz.underlying9
  a9 := Tryz.isAgg9
  z9 := Tryz.sizeOf9
  v9 := Tryz.zeroValue9
  t21 := Tryz.underlying21
  a21 := Tryz.isAgg21
  z21 := Tryz.sizeOf21
  v21 := Tryz.zeroValue21
  t31 := Tryz.underlying23
  a31 := Tryz.isAgg23
  z31 := Tryz.sizeOf23
  v31 := Tryz.zeroValue23
  t40 := Tryz.underlying76
  a40 := Tryz.isAgg76
  z40 := Tryz.sizeOf76
  v40 := Tryz.zeroValue76
  t46 := Tryz.underlying75
  a46 := Tryz.isAgg75
  z46 := Tryz.sizeOf75
  v46 := Tryz.zeroValue75
  t49 := Tryz.underlying697
  a49 := Tryz.isAgg697
  z49 := Tryz.sizeOf697
  v49 := Tryz.zeroValue697
  t51 := Tryz.underlying104
  a51 := Tryz.isAgg104
  z51 := Tryz.sizeOf104
  v51 := Tryz.zeroValue104
  t119 := Tryz.underlying178
  a119 := Tryz.isAgg178
  z119 := Tryz.sizeOf178
  t141 := Tryz.underlying667
  a141 := Tryz.isAgg667
  z141 := Tryz.sizeOf667
  v141 := Tryz.zeroValue667
  t152 := Tryz.underlying663
  a152 := Tryz.isAgg663
  z152 := Tryz.sizeOf663
  v152 := Tryz.zeroValue663
  t154 := Tryz.underlying665
  a154 := Tryz.isAgg665
  z154 := Tryz.sizeOf665
  v154 := Tryz.zeroValue665
  t193 := Tryz.underlying693
  a193 := Tryz.isAgg693
  z193 := Tryz.sizeOf693
  v193 := Tryz.zeroValue693
  t194 := Tryz.underlying694
  a194 := Tryz.isAgg694
  z194 := Tryz.sizeOf694
  v194 := Tryz.zeroValue694
  t196 := Tryz.underlying696
  a196 := Tryz.isAgg696
  z196 := Tryz.sizeOf696
  v196 := Tryz.zeroValue696
  t198 := Tryz.underlying699
  a198 := Tryz.isAgg699
  z198 := Tryz.sizeOf699
  v198 := Tryz.zeroValue699
  t201 := Tryz.underlying702
  a201 := Tryz.isAgg702
  z201 := Tryz.sizeOf702
  v201 := Tryz.zeroValue702
  t226 := Tryz.underlying717
  a226 := Tryz.isAgg717
  z226 := Tryz.sizeOf717
  v226 := Tryz.zeroValue717
  t227 := Tryz.underlying718
  a227 := Tryz.isAgg718
  z227 := Tryz.sizeOf718
  v227 := Tryz.zeroValue718
  g0 := by kernel_rfl
  g6 := by kernel_rfl }
open Go.RowKit Go.Lib in
theorem Tryz.strings_Fields (s : ByteArray) (w : World) (hs : s.size < 4294967281) (hascii : ∀ (j : Nat) b, s.data.toList[j]? = some b → b.toNat < 128) (htab : Lib.TabIs Tryz.prog w "strings.asciiSpace" .u8 Lib.asciiSpaceTab) :
    Calls Tryz.prog 414 #[.string s] w fun e w' =>
      e = .returned (.slice (some ⟨w.heap.size, 0, none⟩) (Lib.fields s.data.toList).length (Lib.fields s.data.toList).length) ∧ w' = w.alloc (.cells ((Lib.fields s.data.toList).map fun l => Value.string ⟨l.toArray⟩).toArray 9) := Any.strings_Fields Tryz.lays157 (by kernel_rfl) (by kernel_rfl) s w hs hascii htab
end Go.Proofs
