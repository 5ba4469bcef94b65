/- Contracts of functions of the seat, walked. -/
import Derived.Test.YtmnponhhmkdcdaaGreatDoorKAttr
namespace Go.Kin
open Go.RowKit
/-! ### a box of the function itself is read alone from now on: it becomes data -/
mutual
def frbSV (key : Nat) (ds : List D) : SV → SV
  | .lp k off => if k = key then .d (.ptr (ds.drop off)) else .lp k off
  | .fn f caps => match allD (frbL key ds caps) with
    | some es => .d (.fn f es)
    | none => .fn f (frbL key ds caps)
  | .op p sv => .op p (frbSV key ds sv)
  | .d x => .d x
  | .own k => .own k
  | .oa k a b c => .oa k a b c
  | .junk => .junk
def frbL (key : Nat) (ds : List D) : List SV → List SV
  | [] => []
  | sv :: r => frbSV key ds sv :: frbL key ds r
end
def frbS (key : Nat) (ds : List D) : List (Nat × SV) → List (Nat × SV)
  | [] => []
  | (t, sv) :: r => (t, frbSV key ds sv) :: frbS key ds r
def frbLL (key : Nat) (ds : List D) : List (Nat × TypeId × List SV) → List (Nat × TypeId × List SV)
  | [] => []
  | (t, T, svs) :: r => (t, T, frbL key ds svs) :: frbLL key ds r
theorem frbS_look {key : Nat} {ds : List D} (t : Nat) : ∀ (l : List (Nat × SV)), klook t (frbS key ds l) = (klook t l).map (frbSV key ds)
  | [] => rfl
  | (t', sv) :: r => by simp only [frbS, klook]; by_cases h : t = t' <;> simp [h, frbS_look t r]
theorem frbLL_look {key : Nat} {ds : List D} (t : Nat) : ∀ (l : List (Nat × TypeId × List SV)), klook t (frbLL key ds l) = (klook t l).map fun x => (x.1, frbL key ds x.2)
  | [] => rfl
  | (t', T, sv) :: r => by simp only [frbLL, klook]; by_cases h : t = t' <;> simp [h, frbLL_look t r]
mutual
theorem frbSV_den {E E' : Env} {w : World} {key : Nat} {ds : List D} (hk : Keeps w E.Z w E'.Z) (hβ : E'.β = E.β) (hω : E'.ω = E.ω) (hz : E'.Z (E.β key)) (hd : ∀ off, RdC w E'.Z (E.β key) off (ds.drop off)) : ∀ {sv : SV} {v : Value}, DenV E w sv v → DenV E' w (frbSV key ds sv) v
  | .own k, v, h => by simp only [frbSV, DenV] at h ⊢; rw [hω]; exact h
  | .oa k a b c, v, h => by simp only [frbSV, DenV] at h ⊢; rw [hω]; exact h
  | .fn f caps, v, h => by
    simp only [DenV] at h
    obtain ⟨vs, h1, h2⟩ := h
    have h3 := frbL_den hk hβ hω hz hd h2
    simp only [frbSV]
    cases ha : allD (frbL key ds caps) with
    | none => simp only [DenV]; exact ⟨vs, h1, h3⟩
    | some es => simp only [DenV, RdV]; exact ⟨vs, h1, RdL_of_DenL ha h3⟩
  | .op p sv, v, h => by simp only [frbSV, DenV] at h ⊢; exact ⟨fun hp => frbSV_den hk hβ hω hz hd (h.1 hp), h.2⟩
  | .d x, v, h => by simp only [frbSV, DenV] at h ⊢; exact h.mono hk
  | .lp k o, v, h => by
    simp only [frbSV]
    simp only [DenV] at h
    split
    · rename_i e; subst e
      simp only [DenV, RdV]
      exact ⟨E.β k, o, h, hz, hd o⟩
    · simp only [DenV]; rw [hβ]; exact h
  | .junk, v, h => by simp [frbSV, DenV]
theorem frbL_den {E E' : Env} {w : World} {key : Nat} {ds : List D} (hk : Keeps w E.Z w E'.Z) (hβ : E'.β = E.β) (hω : E'.ω = E.ω) (hz : E'.Z (E.β key)) (hd : ∀ off, RdC w E'.Z (E.β key) off (ds.drop off)) : ∀ {svs : List SV} {vs : List Value}, DenL E w svs vs → DenL E' w (frbL key ds svs) vs
  | [], vs, h => by simpa [frbL, DenL] using h
  | sv :: r, vs, h => by
    simp only [frbL, DenL] at h ⊢
    obtain ⟨v, vs', e, h1, h2⟩ := h
    exact ⟨v, vs', e, frbSV_den hk hβ hω hz hd h1, frbL_den hk hβ hω hz hd h2⟩
end
def frbF (key : Nat) (ds : List D) : List (Act × List (Nat × SV)) → List (Act × List (Nat × SV))
  | [] => []
  | (a, S) :: r => (a, frbS key ds S) :: frbF key ds r
theorem mem_frbF {key : Nat} {ds : List D} {p : Act × List (Nat × SV)} : ∀ {fz : List (Act × List (Nat × SV))}, p ∈ frbF key ds fz → ∃ S, (p.1, S) ∈ fz ∧ p.2 = frbS key ds S
  | [], h => by simp [frbF] at h
  | (a, S) :: r, h => by
    simp only [frbF, List.mem_cons] at h
    rcases h with rfl | h
    · exact ⟨S, by simp, rfl⟩
    · obtain ⟨S', h1, h2⟩ := mem_frbF h; exact ⟨S', by simp [h1], h2⟩
def frbSt (key : Nat) (ds : List D) (s : Stt) : Stt := ⟨s.N, s.df, frbS key ds s.S, frbLL key ds (delK key s.L), s.O, frbF key ds s.fz, s.pin⟩

theorem Sat.freezeB {C : Ctx} {s : Stt} (key : Nat) {T : TypeId} {cs : List SV} {ds : List D} (hL : klook key s.L = some (T, cs)) (hds : allD cs = some ds) {a : Act} {w : World} (h : Sat C s.sy a w) : Sat C (frbSt key ds s).sy a w := by
  obtain ⟨E, hE⟩ := h
  let E' : Env := { E with Z := fun b => E.Z b ∨ E.β key = b }
  refine ⟨E', ?_⟩
  have hk0 : Keeps w E.Z w E'.Z := ⟨fun _ h => .inl h, fun _ _ => rfl⟩
  obtain ⟨vs, hv1, hv2⟩ := hE.hp.loc key T cs hL
  have hz : E'.Z (E.β key) := .inr rfl
  have hd : ∀ off, RdC w E'.Z (E.β key) off (ds.drop off) := fun off => by
    have h3 := (RdL_of_DenL hds hv2).mono hk0
    have h4 : RdC w E'.Z (E.β key) 0 ds := RdC_of_vals h3 (fun i _ => by simp [World.cell?, hv1])
    have := RdC_drop off h4
    rwa [Nat.zero_add] at this
  have hLL : ∀ key' T cs, klook key' (frbLL key ds (delK key s.L)) = some (T, cs) → key' ≠ key ∧ ∃ cs0, klook key' s.L = some (T, cs0) ∧ cs = frbL key ds cs0 := fun key' T cs hk => by
    rw [frbLL_look, look_delK] at hk
    by_cases e : key' = key
    · simp [e] at hk
    · rw [if_neg e] at hk
      refine ⟨e, ?_⟩
      cases hx : klook key' s.L with
      | none => simp [hx] at hk
      | some x => obtain ⟨T', cs'⟩ := x; simp [hx] at hk; obtain ⟨rfl, rfl⟩ := hk; exact ⟨cs', rfl, rfl⟩
  refine ⟨hE.sz, hE.df, fun t sv hs => ?_, ⟨hE.hp.bel, fun b hb => ?_, fun key' T cs hk => ?_, fun key' e hk => ?_, fun key1 key2 e1 e2 hk hk' heq => ?_, fun key' o hk => ?_, fun key' e g hk hg => ?_, fun key1 key2 e1 e2 g hk hk' hg hg' => ?_⟩, fun b o hb => ?_, fun p hp t sv ht => ?_⟩
  · simp only [Stt.sy, frbSt, frbS_look] at hs
    cases hx : klook t s.S with
    | none => simp [hx] at hs
    | some sv0 =>
      simp [hx] at hs; subst hs
      obtain ⟨v, h1, h2⟩ := hE.slots t sv0 hx
      exact ⟨v, h1, frbSV_den (E' := E') hk0 rfl rfl hz hd h2⟩
  · rcases hb with hb | hb
    · exact hE.hp.z b hb
    · subst hb
      have h1 := hE.hp.locN key _ hL
      exact ⟨hE.hp.lt hL, fun hlt => by omega, .inr h1.1⟩
  · obtain ⟨_, cs0, h1, rfl⟩ := hLL _ _ _ hk
    obtain ⟨us, h2, h3⟩ := hE.hp.loc key' T cs0 h1
    exact ⟨us, h2, frbL_den (E' := E') hk0 rfl rfl hz hd h3⟩
  · obtain ⟨T', cs'⟩ := e
    obtain ⟨hne, cs0, h1, _⟩ := hLL _ _ _ hk
    have h2 := hE.hp.locN key' _ h1
    refine ⟨h2.1, fun hz => ?_⟩
    rcases hz with hz | hz
    · exact h2.2 hz
    · exact hne (hE.hp.locD key' key _ _ h1 hL hz.symm)
  · obtain ⟨T1, cs1⟩ := e1
    obtain ⟨T2, cs2⟩ := e2
    obtain ⟨_, c1, h1, _⟩ := hLL _ _ _ hk
    obtain ⟨_, c2, h2, _⟩ := hLL _ _ _ hk'
    exact hE.hp.locD key1 key2 _ _ h1 h2 heq
  · obtain ⟨h2, h3⟩ := hE.hp.own key' o hk
    refine ⟨h2, h3.imp id ?_⟩
    rintro ⟨g, cap, us, q1, q2, q3, q4, q5, q6⟩
    exact ⟨g, cap, us, q1, q2, q3, q4, q5, fun i hi => (q6 i hi).mono hk0⟩
  · have h2 := hE.hp.ownN key' e g hk hg
    refine ⟨h2.1, fun hz => ?_, fun key1 e' hk' => ?_⟩
    · rcases hz with hz | hz
      · exact h2.2.1 hz
      · exact h2.2.2 key _ hL hz
    · obtain ⟨T', cs'⟩ := e'
      obtain ⟨_, c1, h3, _⟩ := hLL _ _ _ hk'
      exact h2.2.2 key1 _ h3
  · exact hE.hp.ownD key1 key2 _ _ g hk hk' hg hg'
  · obtain ⟨p1, p2, p3, p4, p5⟩ := hE.pins b o hb
    refine ⟨p1, p2, fun hz => ?_, fun key1 e he => ?_, p5⟩
    · rcases hz with hz | hz
      · exact p3 hz
      · exact p4 key _ hL hz
    · obtain ⟨T', cs'⟩ := e
      obtain ⟨_, c1, h3, _⟩ := hLL _ _ _ he
      exact p4 key1 _ h3
  · obtain ⟨S, h1, h2⟩ := mem_frbF hp
    rw [h2, frbS_look] at ht
    cases hx : klook t S with
    | none => simp [hx] at ht
    | some x =>
      simp [hx] at ht; subst ht
      obtain ⟨v, h3, h4⟩ := hE.waits _ h1 t x hx
      exact ⟨v, h3, frbSV_den (E' := E') hk0 rfl rfl hz hd h4⟩

theorem Exec.freezeB {R : Rn} {k : List Item} {s : Stt} (key : Nat) {T : TypeId} {cs : List SV} {ds : List D} (hL : klook key s.L = some (T, cs)) (hds : allD cs = some ds) (h : Exec R k (frbSt key ds s).sy) : Exec R k s.sy := fun a w hs => h a w (hs.freezeB key hL hds)
theorem kfreezeB {P : Program} {C : Ctx} {ops : Array Oper} {i : Nat} {dl : List (Option Tmp)} {o : Oper} {r : List Oper} {st st' : Stt} {Q : Sy → Prop} (key : Nat) {T : TypeId} {cs : List SV} {ds : List D} (hL : klook key st.L = some (T, cs)) (hds : allD cs = some ds) (hs : frbSt key ds st = st')
    (h : WalkI P C ops i dl (o :: r) st'.sy Q) : WalkI P C ops i dl (o :: r) st.sy Q := fun hi hl => by
  subst hs
  obtain ⟨s', h1, h2⟩ := h hi hl
  exact ⟨s', fun a w hs => h1 a w (hs.freezeB key hL hds), h2⟩
attribute [go_sem] frbSt frbS frbLL frbSV frbL frbF
end Go.Kin
