/- Steps of a function body on data, and contracts of the functions of the seat, walked. -/
import Derived.Test.YtonchjamoblioaaGreatDoorKAttr
set_option linter.unusedSimpArgs false
set_option linter.unusedVariables false
set_option linter.unusedSectionVars false
namespace Go.Kin
open Go.RowKit
/-! ### a box of the function itself is read alone from now on: it becomes data -/
mutual
def frbSV (key : Nat) (ds : List D) : SV → SV
  | .lp k off => if k = key then .d (.ptr (ds.drop off)) else .lp k off
  | .fn f caps => match allD (frbL key ds caps) with
    | some es => .d (.fn f es)
    | none => .fn f (frbL key ds caps)
  | .op p sv => .op p (frbSV key ds sv)
  | .d x => .d x
  | .own k => .own k
  | .oa k a b c => .oa k a b c
  | .mv f caps => .mv f (frbL key ds caps)
  | .sg caps => .sg (frbL key ds caps)
  | .junk => .junk
def frbL (key : Nat) (ds : List D) : List SV → List SV
  | [] => []
  | sv :: r => frbSV key ds sv :: frbL key ds r
end
def frbS (key : Nat) (ds : List D) : List (Nat × SV) → List (Nat × SV)
  | [] => []
  | (t, sv) :: r => (t, frbSV key ds sv) :: frbS key ds r
def frbLL (key : Nat) (ds : List D) : List (Nat × TypeId × List SV) → List (Nat × TypeId × List SV)
  | [] => []
  | (t, T, svs) :: r => (t, T, frbL key ds svs) :: frbLL key ds r
theorem frbS_look {key : Nat} {ds : List D} (t : Nat) : ∀ (l : List (Nat × SV)), klook t (frbS key ds l) = (klook t l).map (frbSV key ds)
  | [] => rfl
  | (t', sv) :: r => by simp only [frbS, klook]; by_cases h : t = t' <;> simp [h, frbS_look t r]
theorem frbLL_look {key : Nat} {ds : List D} (t : Nat) : ∀ (l : List (Nat × TypeId × List SV)), klook t (frbLL key ds l) = (klook t l).map fun x => (x.1, frbL key ds x.2)
  | [] => rfl
  | (t', T, sv) :: r => by simp only [frbLL, klook]; by_cases h : t = t' <;> simp [h, frbLL_look t r]
mutual
theorem frbSV_den {E E' : Env} {w : World} {key : Nat} {ds : List D} (hk : Keeps w E.Z w E'.Z) (hβ : E'.β = E.β) (hω : E'.ω = E.ω) (hz : E'.Z (E.β key)) (hd : ∀ off, RdC w E'.Z (E.β key) off (ds.drop off)) : ∀ {sv : SV} {v : Value}, DenV E w sv v → DenV E' w (frbSV key ds sv) v
  | .own k, v, h => by simp only [frbSV, DenV] at h ⊢; rw [hω]; exact h
  | .oa k a b c, v, h => by simp only [frbSV, DenV] at h ⊢; rw [hω]; exact h
  | .fn f caps, v, h => by
    simp only [DenV] at h
    obtain ⟨vs, h1, h2⟩ := h
    have h3 := frbL_den hk hβ hω hz hd h2
    simp only [frbSV]
    cases ha : allD (frbL key ds caps) with
    | none => simp only [DenV]; exact ⟨vs, h1, h3⟩
    | some es => simp only [DenV, RdV]; exact ⟨vs, h1, RdL_of_DenL ha h3⟩
  | .op p sv, v, h => by simp only [frbSV, DenV] at h ⊢; exact ⟨fun hp => frbSV_den hk hβ hω hz hd (h.1 hp), h.2⟩
  | .d x, v, h => by simp only [frbSV, DenV] at h ⊢; exact h.mono hk
  | .lp k o, v, h => by
    simp only [frbSV]
    simp only [DenV] at h
    split
    · rename_i e; subst e
      simp only [DenV, RdV]
      exact ⟨E.β k, o, h, hz, hd o⟩
    · simp only [DenV]; rw [hβ]; exact h
  | .mv f caps, v, h => by
    simp only [frbSV, DenV] at h ⊢
    obtain ⟨vs, h1, h2⟩ := h
    exact ⟨vs, h1, frbL_den hk hβ hω hz hd h2⟩
  | .sg caps, v, h => by
    simp only [frbSV, DenV] at h ⊢
    obtain ⟨vs, h1, h2⟩ := h
    exact ⟨vs, h1, frbL_den hk hβ hω hz hd h2⟩
  | .junk, v, h => by simp [frbSV, DenV]
theorem frbL_den {E E' : Env} {w : World} {key : Nat} {ds : List D} (hk : Keeps w E.Z w E'.Z) (hβ : E'.β = E.β) (hω : E'.ω = E.ω) (hz : E'.Z (E.β key)) (hd : ∀ off, RdC w E'.Z (E.β key) off (ds.drop off)) : ∀ {svs : List SV} {vs : List Value}, DenL E w svs vs → DenL E' w (frbL key ds svs) vs
  | [], vs, h => by simpa [frbL, DenL] using h
  | sv :: r, vs, h => by
    simp only [frbL, DenL] at h ⊢
    obtain ⟨v, vs', e, h1, h2⟩ := h
    exact ⟨v, vs', e, frbSV_den hk hβ hω hz hd h1, frbL_den hk hβ hω hz hd h2⟩
end
def frbF (key : Nat) (ds : List D) : List (Act × List (Nat × SV)) → List (Act × List (Nat × SV))
  | [] => []
  | (a, S) :: r => (a, frbS key ds S) :: frbF key ds r
theorem mem_frbF {key : Nat} {ds : List D} {p : Act × List (Nat × SV)} : ∀ {fz : List (Act × List (Nat × SV))}, p ∈ frbF key ds fz → ∃ S, (p.1, S) ∈ fz ∧ p.2 = frbS key ds S
  | [], h => by simp [frbF] at h
  | (a, S) :: r, h => by
    simp only [frbF, List.mem_cons] at h
    rcases h with rfl | h
    · exact ⟨S, by simp, rfl⟩
    · obtain ⟨S', h1, h2⟩ := mem_frbF h; exact ⟨S', by simp [h1], h2⟩
def frbSt (key : Nat) (ds : List D) (s : Stt) : Stt := ⟨s.N, s.df, frbS key ds s.S, frbLL key ds (delK key s.L), s.O, frbF key ds s.fz, s.pin⟩
theorem Sat.freezeB {C : Ctx} {s : Stt} (key : Nat) (hlk : lentK key = false) {T : TypeId} {cs : List SV} {ds : List D} (hL : klook key s.L = some (T, cs)) (hds : allD cs = some ds) {a : Act} {w : World} (h : Sat C s.sy a w) : Sat C (frbSt key ds s).sy a w := by
  obtain ⟨E, hE⟩ := h
  let E' : Env := { E with Z := fun b => E.Z b ∨ E.β key = b }
  refine ⟨E', ?_⟩
  have hk0 : Keeps w E.Z w E'.Z := ⟨fun _ h => .inl h, fun _ _ => rfl⟩
  obtain ⟨vs, hv1, hv2⟩ := hE.hp.loc key T cs hL
  have hz : E'.Z (E.β key) := .inr rfl
  have hd : ∀ off, RdC w E'.Z (E.β key) off (ds.drop off) := fun off => by
    have h3 := (RdL_of_DenL hds hv2).mono hk0
    have h4 : RdC w E'.Z (E.β key) 0 ds := RdC_of_vals h3 (fun i _ => by simp [World.cell?, hv1])
    have := RdC_drop off h4
    rwa [Nat.zero_add] at this
  have hLL : ∀ key' T cs, klook key' (frbLL key ds (delK key s.L)) = some (T, cs) → key' ≠ key ∧ ∃ cs0, klook key' s.L = some (T, cs0) ∧ cs = frbL key ds cs0 := fun key' T cs hk => by
    rw [frbLL_look, look_delK] at hk
    by_cases e : key' = key
    · simp [e] at hk
    · rw [if_neg e] at hk
      refine ⟨e, ?_⟩
      cases hx : klook key' s.L with
      | none => simp [hx] at hk
      | some x => obtain ⟨T', cs'⟩ := x; simp [hx] at hk; obtain ⟨rfl, rfl⟩ := hk; exact ⟨cs', rfl, rfl⟩
  refine ⟨hE.sz, hE.df, fun t sv hs => ?_, ⟨hE.hp.bel, fun b hb => ?_, fun key' T cs hk => ?_, fun key' e hk => ?_, fun key1 key2 e1 e2 hk hk' heq => ?_, fun key' o hk => ?_, fun key' e g hk hg => ?_, fun key1 key2 e1 e2 g hk hk' hg hg' => ?_⟩, fun b o hb => ?_, fun p hp t sv ht => ?_⟩
  · simp only [Stt.sy, frbSt, frbS_look] at hs
    cases hx : klook t s.S with
    | none => simp [hx] at hs
    | some sv0 =>
      simp [hx] at hs; subst hs
      obtain ⟨v, h1, h2⟩ := hE.slots t sv0 hx
      exact ⟨v, h1, frbSV_den (E' := E') hk0 rfl rfl hz hd h2⟩
  · rcases hb with hb | hb
    · exact hE.hp.z b hb
    · subst hb
      have h1 := hE.hp.locN key _ hL
      have h2 : C.w0.heap.size ≤ E.β key := h1.1.elim (fun h => h.2) (fun h5 => by rw [hlk] at h5; cases h5.1)
      exact ⟨hE.hp.lt hL, fun hlt => by omega, .inr h2⟩
  · obtain ⟨_, cs0, h1, rfl⟩ := hLL _ _ _ hk
    obtain ⟨us, h2, h3⟩ := hE.hp.loc key' T cs0 h1
    exact ⟨us, h2, frbL_den (E' := E') hk0 rfl rfl hz hd h3⟩
  · obtain ⟨T', cs'⟩ := e
    obtain ⟨hne, cs0, h1, _⟩ := hLL _ _ _ hk
    have h2 := hE.hp.locN key' _ h1
    refine ⟨h2.1, fun hz => ?_⟩
    rcases hz with hz | hz
    · exact h2.2 hz
    · exact hne (hE.hp.locD key' key _ _ h1 hL hz.symm)
  · obtain ⟨T1, cs1⟩ := e1
    obtain ⟨T2, cs2⟩ := e2
    obtain ⟨_, c1, h1, _⟩ := hLL _ _ _ hk
    obtain ⟨_, c2, h2, _⟩ := hLL _ _ _ hk'
    exact hE.hp.locD key1 key2 _ _ h1 h2 heq
  · obtain ⟨h2, h3⟩ := hE.hp.own key' o hk
    refine ⟨h2, h3.imp id ?_⟩
    rintro ⟨g, cap, us, q1, q2, q3, q4, q5, q6⟩
    exact ⟨g, cap, us, q1, q2, q3, q4, q5, fun i hi => (q6 i hi).mono hk0⟩
  · have h2 := hE.hp.ownN key' e g hk hg
    refine ⟨h2.1, fun hz => ?_, fun key1 e' hk' => ?_⟩
    · rcases hz with hz | hz
      · exact h2.2.1 hz
      · exact h2.2.2 key _ hL hz
    · obtain ⟨T', cs'⟩ := e'
      obtain ⟨_, c1, h3, _⟩ := hLL _ _ _ hk'
      exact h2.2.2 key1 _ h3
  · exact hE.hp.ownD key1 key2 _ _ g hk hk' hg hg'
  · obtain ⟨p1, p2, p3, p4, p5⟩ := hE.pins b o hb
    refine ⟨p1, p2, fun hz => ?_, fun key1 e he => ?_, p5⟩
    · rcases hz with hz | hz
      · exact p3 hz
      · exact p4 key _ hL hz
    · obtain ⟨T', cs'⟩ := e
      obtain ⟨_, c1, h3, _⟩ := hLL _ _ _ he
      exact p4 key1 _ h3
  · obtain ⟨S, h1, h2⟩ := mem_frbF hp
    rw [h2, frbS_look] at ht
    cases hx : klook t S with
    | none => simp [hx] at ht
    | some x =>
      simp [hx] at ht; subst ht
      obtain ⟨v, h3, h4⟩ := hE.waits _ h1 t x hx
      exact ⟨v, h3, frbSV_den (E' := E') hk0 rfl rfl hz hd h4⟩
theorem Exec.freezeB {R : Rn} {k : List Item} {s : Stt} (key : Nat) (hlk : lentK key = false) {T : TypeId} {cs : List SV} {ds : List D} (hL : klook key s.L = some (T, cs)) (hds : allD cs = some ds) (h : Exec R k (frbSt key ds s).sy) : Exec R k s.sy := fun a w hs => h a w (hs.freezeB key hlk hL hds)
theorem kfreezeB {P : Program} {C : Ctx} {ops : Array Oper} {i : Nat} {dl : List (Option Tmp)} {o : Oper} {r : List Oper} {st st' : Stt} {Q : Sy → Prop} (key : Nat) {T : TypeId} {cs : List SV} {ds : List D} (hL : klook key st.L = some (T, cs)) (hds : allD cs = some ds) (hs : frbSt key ds st = st')
    (h : WalkI P C ops i dl (o :: r) st'.sy Q) (hlk : lentK key = false := by decide) : WalkI P C ops i dl (o :: r) st.sy Q := fun hi hl => by
  subst hs
  obtain ⟨s', h1, h2⟩ := h hi hl
  exact ⟨s', fun a w hs => h1 a w (hs.freezeB key hlk hL hds), h2⟩
attribute [go_sem] frbSt frbS frbLL frbSV frbL frbF
end Go.Kin
namespace Go.Kin
open Go.RowKit
/-! ### a call that is walked where it stands: the caller waits -/
theorem mkSV_den {E : Env} {w : World} {u : TypeDesc} {cs : List SV} {vs : List Value} {sv : SV} (h : mkSV u cs = some sv) (hv : DenL E w cs vs) (h1 : aggD u = false → cs.length = 1) : DenV E w sv (if aggD u then .agg vs.toArray else vs.headD undef) := by
  unfold mkSV at h
  cases ha : aggD u with
  | true =>
    simp only [ha, if_true] at h ⊢
    cases hd : allD cs with
    | none => rw [hd] at h; cases h
    | some ds =>
      rw [hd] at h; cases h
      simp only [DenV, RdV]
      exact ⟨vs, rfl, RdL_of_DenL hd hv⟩
  | false =>
    have h2 := h1 ha
    simp only [ha, Bool.false_eq_true, if_false] at h ⊢
    match cs, h2, h, hv with
    | [c], _, h, hv =>
      simp at h; subst h
      simp only [DenL] at hv
      obtain ⟨v, vs', rfl, h3, _⟩ := hv
      simpa using h3
theorem mkD_rd {w : World} {Z : Nat → Prop} {u : TypeDesc} {cs : List D} {vs : List Value} (hv : RdL w Z cs vs) (h1 : aggD u = false → cs.length = 1) : RdV w Z (mkD u cs) (if aggD u then .agg vs.toArray else vs.headD undef) := by
  unfold mkD
  cases ha : aggD u with
  | true => simp only [if_true, RdV]; exact ⟨vs, rfl, hv⟩
  | false =>
    have h2 := h1 ha
    simp only [Bool.false_eq_true, if_false]
    match cs, h2, hv with
    | [c], _, hv =>
      simp only [RdL] at hv
      obtain ⟨v, vs', rfl, h3, _⟩ := hv
      simpa using h3
def resI (te : TE) (s : Stt) : List ResultVar → Option (List SV)
  | [] => some []
  | .tmp t :: r => match klook t s.S, resI te s r with
    | some sv, some svs => some (sv :: svs)
    | _, _ => none
  | .cell t ty :: r => match klook t s.S, klook ty te with
    | some (.lp key off), some i => match klook key s.L with
      | some (_, cs) => if one1 i = true ∧ off + i.size ≤ cs.length then (match mkSV i.u ((cs.drop off).take i.size), resI te s r with | some sv, some svs => some (sv :: svs) | _, _ => none) else none
      | none => none
    | some (.d (.ptr cs)), some i => if one1 i = true ∧ i.size ≤ cs.length then (match resI te s r with | some svs => some (.d (mkD i.u (cs.take i.size)) :: svs) | none => none) else none
    | _, _ => none
def resSV : List SV → Option SV
  | [] => some (.d (.v (.tuple #[])))
  | [sv] => some sv
  | svs => match allD svs with
    | some ds => some (.d (.tup ds))
    | none => none
theorem resI_run {te : TE} {P : Program} (hte : TEok P te) {C : Ctx} {E : Env} {s : Stt} {a : Act} {w : World} (hE : SatE C E s.sy a w) : ∀ {l : List ResultVar} {svs : List SV}, resI te s l = some svs →
    ∃ vs : List Value, (l.mapM (rvSem a.tmps)).run P w = .ok vs w ∧ DenL E w svs vs
  | [], svs, h => by simp [resI] at h; subst h; exact ⟨[], by simp, by simp [DenL]⟩
  | .tmp t :: r, svs, h => by
    simp only [resI] at h
    split at h
    · rename_i sv svs' hs hr
      cases h
      obtain ⟨vs, h1, h2⟩ := resI_run hte hE hr
      obtain ⟨v, h3, h4⟩ := hE.slots t sv hs
      refine ⟨v :: vs, ?_, by simp only [DenL]; exact ⟨v, vs, rfl, h4, h2⟩⟩
      simp [List.mapM_cons, rvSem, h1, h3]
    · cases h
  | .cell t ty :: r, svs, h => by
    simp only [resI] at h
    split at h
    · rename_i key off i hs hi
      split at h
      · rename_i T cs hL
        split at h
        · rename_i hc
          split at h
          · rename_i sv svs' hd hr
            cases h
            obtain ⟨vs, h1, h2⟩ := resI_run hte hE hr
            obtain ⟨v, h3, h4⟩ := hE.slots t _ hs
            simp only [DenV] at h4
            obtain ⟨us, h5, h6⟩ := hE.hp.loc key T cs hL
            have h7 := DenL_take i.size (DenL_drop off h6)
            have hul := DenL_length h6
            have hvl : ((us.drop off).take i.size).length = i.size := by simp; omega
            have hcell : ∀ j, j < i.size → w.cell? ⟨E.β key, off + j, none⟩ = ((us.drop off).take i.size)[j]? := fun j hj => by
              rw [List.getElem?_take_of_lt hj, List.getElem?_drop]
              simp [World.cell?, h5]
            have hld := run_load (P := P) (w := w) (t := ty) (hte _ _ hi) hvl hcell (one1_spec hc.1)
            have h8 := mkSV_den hd h7 (fun ha => by have := one1_spec hc.1 ha; simp; omega)
            refine ⟨(if aggD i.u then .agg ((us.drop off).take i.size).toArray else ((us.drop off).take i.size).headD undef) :: vs, ?_, by simp only [DenL]; exact ⟨_, vs, rfl, h8, h2⟩⟩
            simp [List.mapM_cons, rvSem, h1, h3, h4, asAddr, hld]
          · cases h
        · cases h
      · cases h
    · rename_i cs i hs hi
      split at h
      · rename_i hc
        split at h
        · rename_i svs' hr
          cases h
          obtain ⟨vs, h1, h2⟩ := resI_run hte hE hr
          obtain ⟨v, h3, h4⟩ := hE.slots t _ hs
          simp only [DenV, RdV] at h4
          obtain ⟨b, off, rfl, hz, h5⟩ := h4
          obtain ⟨us, h6, h7⟩ := RdC_vals (RdC_take i.size h5)
          have hlen : (cs.take i.size).length = i.size := by simp [hc.2]
          have hvl : us.length = i.size := by rw [RdL_length h6, hlen]
          have hld := run_load (P := P) (w := w) (t := ty) (hte _ _ hi) (b := b) (off := off) (vs := us) hvl (fun j hj => h7 j (by rw [hlen]; exact hj)) (one1_spec hc.1)
          have h8 := mkD_rd (u := i.u) h6 (fun ha => by have := one1_spec hc.1 ha; simp; omega)
          refine ⟨(if aggD i.u then .agg us.toArray else us.headD undef) :: vs, ?_, by simp only [DenL]; exact ⟨_, vs, rfl, by simp only [DenV]; exact h8, h2⟩⟩
          simp [List.mapM_cons, rvSem, h1, h3, asAddr, hld]
        · cases h
      · cases h
    · cases h
theorem resSV_den {E : Env} {w : World} {svs : List SV} {vs : List Value} {sv : SV} (h : resSV svs = some sv) (hv : DenL E w svs vs) : DenV E w sv (if hs : vs.toArray.size = 1 then vs.toArray[0] else .tuple vs.toArray) := by
  match svs, h, hv with
  | [], h, hv => simp [resSV] at h; subst h; simp only [DenL] at hv; subst hv; simp [DenV, RdV]
  | [x], h, hv =>
    simp [resSV] at h; subst h
    simp only [DenL] at hv
    obtain ⟨v, vs', rfl, h1, rfl⟩ := hv
    simpa using h1
  | x :: y :: r, h, hv =>
    simp only [resSV] at h
    cases hd : allD (x :: y :: r) with
    | none => rw [hd] at h; cases h
    | some ds =>
      rw [hd] at h; cases h
      have hl := DenL_length hv
      have hne : ¬ vs.toArray.size = 1 := by simp at hl ⊢; omega
      rw [dif_neg hne]
      simp only [DenV, RdV]
      exact ⟨vs, rfl, RdL_of_DenL hd hv⟩
theorem Exec.enter {P : Program} {b : Frame} {cs : List Frame} {T : Machine → Prop} {C : Ctx} {k : List Item} {s : Stt} {ops : Array Oper} {i m : Nat} {o : Oper} {f : Operand} {args : Array Operand} {ts : Array TypeId} {sv : SV} {g : Nat} {fn : Func} {c : Code} {caps svs : List SV} {N : Nat}
    (ho : ops[i]? = some o) (hop : o.op = .call { callee := .value f, args := args, argTypes := ts }) (hgd : o.guard = none) (hf : evalL s.S f = some sv) (hc : fnCaps sv = some (g, caps)) (hargs : argsV s.S args.toList = some svs)
    (hfn : P.funcs[g]? = some fn) (hN : fn.ntmps = N) (hb : fn.body = some c) (hn : (fn.name == "runtime.NumGoroutine") = false) (hl : svs.length + caps.length ≤ N)
    (h : ∀ ag : Act, ag.tmps.size = s.N → ag.defers = s.df →
      Exec ⟨P, callB g, b.atR ag (.inRegion ops (i :: List.range' (i + 1) m) :: k) :: cs, T, C⟩ [.code c] (Stt.mk N [] (slotsV 0 (svs ++ caps)) s.L s.O ((ag, s.S) :: s.fz) s.pin).sy) :
    Exec ⟨P, b, cs, T, C⟩ (.inRegion ops (List.range' i (m + 1)) :: k) s.sy := by
  subst hN
  rw [List.range'_succ]
  intro a w ⟨E, hE⟩
  have hgv : DenV E w sv (a.eval f) := evalO_den (s := s.sy) hE ((evalL_eq _ _).symm.trans hf)
  obtain ⟨us, e1, hus⟩ := fnCaps_den hc hgv
  have hav := argsV_den hE hargs
  have hall := DenL_append hav hus
  have hlen := DenL_length hall
  have hent : ∀ args w, (callFunc g args).run P w = .ok (.enter g args) w := fun args w => Enters.run ⟨fn, hfn, by simp [hb], hn⟩ args w
  have hw : Region.wanted o (yielded ops a.tmps) = true := by unfold Region.wanted; rw [hgd]
  have hg := stepGR_op (P := P) (b := b) (k := k) (cs := cs) (w := w) (a := a) (rest := List.range' (i + 1) m) ho hw
  rw [Oper.semAt_eq _ _ _ (by simp [hop])] at hg
  have hr : (execOp a.eval o).run P w = .ok (.enter g (args.toList.map a.eval ++ us).toArray) w := by
    have : (args.map a.eval ++ us.toArray) = (args.toList.map a.eval ++ us).toArray := Array.ext' (by simp)
    simp [execOp, hop, resolve, e1, Deferred.ofValue, invoke, hent, this]
  have henter : Frame.enter P g (args.toList.map a.eval ++ us).toArray .normal = (callB g).atR { tmps := (args.toList.map a.eval ++ us).toArray ++ Array.replicate (fn.ntmps - (args.toList.map a.eval ++ us).toArray.size) undef, defers := [] } [.code c] := by
    simp [Frame.enter, Frame.atR, hfn, hb, callB]
  have hst : step P (lone (b.atR a (.inRegion ops (i :: List.range' (i + 1) m) :: k)) cs w) = .next (lone (Frame.enter P g (args.toList.map a.eval ++ us).toArray .normal) (b.atR a (.inRegion ops (i :: List.range' (i + 1) m) :: k) :: cs) w) :=
    step_lone_go (by rw [hg]; simp [stepG.apply, hr, Frame.atR])
  refine (?_ : ∃ m', T m' ∧ Steps P _ m').imp fun m' hm => ⟨hm.1, .head hst hm.2⟩
  rw [henter]
  refine h a hE.sz hE.df _ _ ⟨E, ⟨?_, rfl, fun t sv' ht => ?_, hE.hp, hE.pins, fun p hp => ?_⟩⟩
  · simp only [Stt.sy, Array.size_append, Array.size_replicate, List.size_toArray]
    have : (args.toList.map a.eval ++ us).length = svs.length + caps.length := by rw [hlen]; simp
    omega
  · simp only [Stt.sy, look_slotsV, Nat.zero_le, if_true, Nat.sub_zero] at ht
    obtain ⟨v, h3, h4⟩ := DenL_get hall ht
    refine ⟨v, ?_, h4⟩
    have hlt : t < (args.toList.map a.eval ++ us).length := (List.getElem?_eq_some_iff.1 h3).1
    rw [Array.getElem?_append_left (by simpa using hlt)]
    simpa using h3
  · rcases List.mem_cons.1 hp with rfl | hp
    · exact hE.slots
    · exact hE.waits p hp
theorem Exec.leave {P : Program} {te : TE} {b : Frame} {cs : List Frame} {T : Machine → Prop} {C : Ctx} {k k' : List Item} {s : Stt} (hte : TEok P te) {g : Nat} {fu : Func} {rv : List ResultVar} {svs : List SV} {sv : SV} {ag : Act} {Sg : List (Nat × SV)} {fz : List (Act × List (Nat × SV))} {df : List Deferred}
    {ops : Array Oper} {i m Ng : Nat} {d : Option Tmp}
    (hf : P.funcs[g]? = some fu) (hrv : fu.results.toList = rv) (hres : resI te s rv = some svs) (hsv : resSV svs = some sv) (hk : k = [] ∨ ∃ k1, k = .code .ret :: k1) (hdf : s.df = []) (hfz : s.fz = (ag, Sg) :: fz) (hag : ag.tmps.size = Ng) (hagd : ag.defers = df) (hd : (ops[i]?).bind (·.dst) = d) (hdN : dstLt d Ng = true)
    (h : Exec ⟨P, b, cs, T, C⟩ (.inRegion ops (List.range' (i + 1) m) :: k') (Stt.mk Ng df (putD d sv Sg) s.L s.O fz s.pin).sy) :
    Exec ⟨P, callB g, b.atR ag (.inRegion ops (i :: List.range' (i + 1) m) :: k') :: cs, T, C⟩ k s.sy := by
  intro a w ⟨E, hE⟩
  have hd' : a.defers = [] := hE.df.trans hdf
  obtain ⟨vs, hr1, hr2⟩ := resI_run (P := P) hte hE hres
  have hsvd := resSV_den hsv hr2
  generalize hv : (if hs : vs.toArray.size = 1 then vs.toArray[0] else Value.tuple vs.toArray) = v at hsvd
  have s1 : step P (lone ((callB g).atR a k) (b.atR ag (.inRegion ops (i :: List.range' (i + 1) m) :: k') :: cs) w) = .next (lone { (callB g).atR a k with mode := .returning } (b.atR ag (.inRegion ops (i :: List.range' (i + 1) m) :: k') :: cs) w) := by
    rcases hk with rfl | ⟨k1, rfl⟩
    · exact stepR_end rfl
    · exact stepR_ret rfl
  have hleave : Frame.leaving P { (callB g).atR a k with mode := .returning } w (.returned v) := by
    refine ⟨rfl, hd', rfl, fu, hf, ?_⟩
    have hm : (fu.results.mapM (rvSem a.tmps)).run P w = .ok vs.toArray w := by
      rw [Array.mapM_eq_mapM_toList, hrv]
      simp [Sem.run_bind, hr1]
    show (results fu a.tmps).run P w = _
    rw [results_eq]
    simp only [Sem.run_bind, hm, Result.andThen_ok, Sem.run_pure]
    rw [hv]
  have s2 := step_leave_returned (c := b.atR ag (.inRegion ops (i :: List.range' (i + 1) m) :: k')) (cs := cs) hleave
  rw [Frame.finish_atR, hd] at s2
  refine (?_ : ∃ m', T m' ∧ Steps P _ m').imp fun m' hm => ⟨hm.1, .head s1 (.head s2 hm.2)⟩
  refine h _ _ ⟨E, ⟨?_, ?_, fun t sv' ht => ?_, hE.hp, hE.pins, fun p hp => ?_⟩⟩
  · rw [show (ag.put d v).tmps.size = ag.tmps.size from by cases d <;> simp [Act.put]]; exact hag
  · rw [show (ag.put d v).defers = ag.defers from by cases d <;> rfl]; exact hagd
  · rw [put_tmps (fun t ht => by subst ht; simp [dstLt] at hdN; rw [hag]; exact hdN)]
    simp only [Stt.sy] at ht
    cases d with
    | none =>
      simp only [putD] at ht
      rw [if_neg (by simp)]
      exact hE.waits (ag, Sg) (by simp only [Stt.sy, hfz]; exact List.mem_cons_self) t sv' ht
    | some t' =>
      simp only [putD, klook] at ht
      by_cases htt : t = t'
      · subst htt
        simp at ht; subst ht
        exact ⟨v, by rw [if_pos rfl], hsvd⟩
      · rw [if_neg htt] at ht
        rw [if_neg (by simp; exact fun e => htt e.symm)]
        exact hE.waits (ag, Sg) (by simp [Stt.sy, hfz]) t sv' ht
  · exact hE.waits p (by simp only [Stt.sy, hfz]; exact List.mem_cons_of_mem _ hp)
/-- a round of a loop whose activation waits somewhere -/
theorem Exec.yieldD {P : Program} {b : Frame} {cs : List Frame} {T : Machine → Prop} {C : Ctx} {k : List Item} {s : Stt} (j : Nat) {ops : Array Oper} {i m : Nat} {o : Oper} {y : Operand} {args : Array Operand} {ts : Array TypeId} {l bfn r No : Nat} {ps : Array Tmp} {assign body : Code}
    {pin : List (Nat × Obj)} {ao : Act} {So : List (Nat × SV)} {svs : List SV} {pd : Option Code} {lo : LoopState → Option Code → Obj}
    (ho : ops[i]? = some o) (hop : o.op = .call { callee := .value y, args := args, argTypes := ts }) (hgd : o.guard = none) (hy : evalL s.S y = some (.d (.v (.func (.yield l) #[] #[])))) (hargs : argsV s.S args.toList = some svs)
    (hpin : s.pin = (l, lo .ready pd) :: pin) (hlo : lo = loopR bfn ao.tmps ps assign body r) (hfz : (ao, So) ∈ s.fz) (hao : ao.tmps.size = No) (hps : (decide (ps.size = args.size) && ps.toList.all fun t => decide (t < No)) = true)
    (h : ∀ ag : Act, ag.tmps.size = s.N → ag.defers = s.df →
      Exec ⟨P, rndB bfn l, b.atR ag (.inRegion ops (i :: List.range' (i + 1) m) :: k) :: cs, T, C⟩ [.code assign, .beginRound, .code body]
        (renSt (swJ j) ⟨No, [], setPs ps.toList svs So, s.L, s.O, (ag, s.S) :: s.fz, s.pin⟩).sy) :
    Exec ⟨P, b, cs, T, C⟩ (.inRegion ops (List.range' i (m + 1)) :: k) s.sy := by
  obtain ⟨N, df, S, L, O, fz, pn⟩ := s
  have hx : Exec ⟨P, b, cs, T, C⟩ (.inRegion ops (List.range' i (m + 1)) :: k) (Stt.mk N df S L O ((ao, So) :: fz) pn).sy := by
    refine Exec.yield j ho hop hgd hy hargs hpin hlo rfl hao hps fun ag hag hdg => ?_
    refine fun a w hs => h ag hag hdg a w ?_
    obtain ⟨E, hE⟩ := hs
    refine ⟨E, hE.sz, hE.df, hE.slots, hE.hp, hE.pins, fun p hp => hE.waits p ?_⟩
    simp only [Stt.sy, renSt, renF] at hp ⊢
    rcases List.mem_cons.1 hp with rfl | hp
    · exact List.mem_cons_self
    · exact List.mem_cons_of_mem _ (List.mem_cons_of_mem _ hp)
  intro a w hs
  refine hx a w ?_
  obtain ⟨E, hE⟩ := hs
  refine ⟨E, hE.sz, hE.df, hE.slots, hE.hp, hE.pins, fun p hp => hE.waits p ?_⟩
  rcases List.mem_cons.1 hp with rfl | hp
  · exact hfz
  · exact hp
attribute [go_sem] resI resSV
end Go.Kin
namespace Go.Kin
/-! ### a walk within a walk: boxes forgotten, names changed twice -/
theorem Sat.weakL {C : Ctx} {s : Stt} {L' : List (Nat × TypeId × List SV)} {a : Act} {w : World} (hL : LeL s.L L') (h : Sat C s.sy a w) : Sat C (Stt.mk s.N s.df s.S L' s.O s.fz s.pin).sy a w := by
  obtain ⟨E, hE⟩ := h
  refine ⟨E, hE.sz, hE.df, hE.slots, ⟨hE.hp.bel, hE.hp.z, fun key T cs hk => ?_, fun key e hk => ?_, fun key key' e e' hk hk' heq => ?_, hE.hp.own, fun key e g hk hg => ?_, hE.hp.ownD⟩, fun b o hb => ?_, hE.waits⟩
  · obtain ⟨xs, h1, h2⟩ := LeL_look hL hk
    obtain ⟨vs, h3, h4⟩ := hE.hp.loc key T xs h1
    exact ⟨vs, h3, h2.den h4⟩
  · obtain ⟨T, ys⟩ := e
    obtain ⟨xs, h1, h2⟩ := LeL_look hL hk
    exact hE.hp.locN key _ h1
  · obtain ⟨T, ys⟩ := e
    obtain ⟨T', ys'⟩ := e'
    obtain ⟨xs, h1, _⟩ := LeL_look hL hk
    obtain ⟨xs', h1', _⟩ := LeL_look hL hk'
    exact hE.hp.locD key key' _ _ h1 h1' heq
  · have h2 := hE.hp.ownN key e g hk hg
    refine ⟨h2.1, h2.2.1, fun key' e' hk' => ?_⟩
    obtain ⟨T, ys⟩ := e'
    obtain ⟨xs, h3, _⟩ := LeL_look hL hk'
    exact h2.2.2 key' _ h3
  · obtain ⟨p1, p2, p3, p4, p5⟩ := hE.pins b o hb
    refine ⟨p1, p2, p3, fun key e he => ?_, p5⟩
    obtain ⟨T, ys⟩ := e
    obtain ⟨xs, h3, _⟩ := LeL_look hL he
    exact p4 key _ h3
theorem Exec.weakL {R : Rn} {k : List Item} {s : Stt} (L' : List (Nat × TypeId × List SV)) (hL : LeL s.L L') (h : Exec R k (Stt.mk s.N s.df s.S L' s.O s.fz s.pin).sy) : Exec R k s.sy :=
  fun a w hs => h a w (hs.weakL hL)
mutual
theorem renV_renV (π : Swp) : ∀ sv : SV, renV π (renV π sv) = sv
  | .d d => rfl
  | .lp k o => by simp [renV, π.inv]
  | .own k => by simp [renV, π.inv]
  | .oa k a b c => by simp [renV, π.inv]
  | .fn f cs => by simp [renV, renL_renL π cs]
  | .op p sv => by simp [renV, renV_renV π sv]
  | .mv f cs => by simp [renV, renL_renL π cs]
  | .sg cs => by simp [renV, renL_renL π cs]
  | .junk => rfl
theorem renL_renL (π : Swp) : ∀ l : List SV, renL π (renL π l) = l
  | [] => rfl
  | x :: r => by simp [renL, renV_renV π x, renL_renL π r]
end
theorem renS_renS (π : Swp) : ∀ l : List (Nat × SV), renS π (renS π l) = l
  | [] => rfl
  | (t, v) :: r => by simp [renS, renV_renV, renS_renS π r]
theorem renF_renF (π : Swp) : ∀ l : List (Act × List (Nat × SV)), renF π (renF π l) = l
  | [] => rfl
  | (a, S) :: r => by simp [renF, renS_renS, renF_renF π r]
end Go.Kin
