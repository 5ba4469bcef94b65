/- Steps of a function body on data, and contracts of the functions of the seat, walked. -/
import Derived.Test.YtgnhhjojiipmgaaGreatDoorKDrawL
set_option linter.unusedSimpArgs false
set_option linter.unusedVariables false
set_option linter.unusedSectionVars false
namespace Go.Kin
open Go.RowKit
/-! ### a state that says less -/
def LeXv (x : Value) : D → Prop
  | .v y => x = y
  | .sl _ n ex _ => x = .slice none 0 0 ∧ n = 0 ∧ ex = 0
  | _ => False
mutual
/-- one datum says what the other does: what is to be shown -/
def LeX : D → D → Prop
  | .v x, d => LeXv x d
  | .sl k n x row, .sl k' n' x' row' => n = n' ∧ (x = x' ∨ (n' ≤ x' ∧ x' ≤ x)) ∧ ((k = k' ∧ ∀ i, i < x' → row i = row' i) ∨ x' = 0)
  | .ptr cs, .ptr cs' => cs = cs'
  | .fn f cs, .fn f' cs' => f = f' ∧ LeXs cs cs'
  | .ag cs, .ag cs' => LeXs cs cs'
  | .tup cs, .tup cs' => LeXs cs cs'
  | .ifc t d, .ifc t' d' => t = t' ∧ LeX d d'
  | _, _ => False
def LeXs : List D → List D → Prop
  | [], [] => True
  | d :: ds, d' :: ds' => LeX d d' ∧ LeXs ds ds'
  | _, _ => False
end
mutual
theorem LeX.le : ∀ {d d' : D}, LeX d d' → LeD d d'
  | .v x, d', h => by
    simp only [LeX] at h
    cases d' with
    | v y => simp only [LeXv] at h; subst h; exact LeD.refl _
    | sl k n ex row => simp only [LeXv] at h; obtain ⟨rfl, rfl, rfl⟩ := h; exact LeD.nil _ _
    | ptr _ => simp [LeXv] at h
    | fn _ _ => simp [LeXv] at h
    | ag _ => simp [LeXv] at h
    | tup _ => simp [LeXv] at h
    | ifc _ _ => simp [LeXv] at h
  | .sl k n x row, .sl k' n' x' row', h => by
    simp only [LeX] at h
    obtain ⟨rfl, h1, h2⟩ := h
    intro w Z v hv
    have hv0 := hv
    simp only [RdV] at hv
    obtain ⟨a, c, e1, e2, e3, e4, e5⟩ := hv
    have hnx : n ≤ x' := by rcases h1 with h1 | h1 <;> omega
    have hxx : x' ≤ x := by rcases h1 with h1 | h1 <;> omega
    rcases h2 with ⟨rfl, h2⟩ | h2
    · exact LeD.slice hnx hxx h2 w Z v hv0
    · simp only [RdV]; exact ⟨a, c, e1, hnx, by omega, by omega, .inl h2⟩
  | .ptr cs, .ptr cs', h => by simp only [LeX] at h; subst h; exact LeD.refl _
  | .fn f cs, .fn f' cs', h => by
    simp only [LeX] at h
    obtain ⟨rfl, h⟩ := h
    intro w Z v hv
    simp only [RdV] at hv ⊢
    obtain ⟨vs, h1, h2⟩ := hv
    exact ⟨vs, h1, (LeXs.le h).rd h2⟩
  | .ag cs, .ag cs', h => by simp only [LeX] at h; exact LeD.ag (LeXs.le h)
  | .tup cs, .tup cs', h => by simp only [LeX] at h; exact LeD.tup (LeXs.le h)
  | .ifc t d, .ifc t' d', h => by
    simp only [LeX] at h
    obtain ⟨rfl, h⟩ := h
    intro w Z v hv
    simp only [RdV] at hv ⊢
    obtain ⟨v', h1, h2⟩ := hv
    exact ⟨v', h1, LeX.le h _ _ _ h2⟩
  | .sl _ _ _ _, .v _, h => by simp [LeX] at h
  | .sl _ _ _ _, .ptr _, h => by simp [LeX] at h
  | .sl _ _ _ _, .fn _ _, h => by simp [LeX] at h
  | .sl _ _ _ _, .ag _, h => by simp [LeX] at h
  | .sl _ _ _ _, .tup _, h => by simp [LeX] at h
  | .sl _ _ _ _, .ifc _ _, h => by simp [LeX] at h
  | .ptr _, .v _, h => by simp [LeX] at h
  | .ptr _, .sl _ _ _ _, h => by simp [LeX] at h
  | .ptr _, .fn _ _, h => by simp [LeX] at h
  | .ptr _, .ag _, h => by simp [LeX] at h
  | .ptr _, .tup _, h => by simp [LeX] at h
  | .ptr _, .ifc _ _, h => by simp [LeX] at h
  | .fn _ _, .v _, h => by simp [LeX] at h
  | .fn _ _, .sl _ _ _ _, h => by simp [LeX] at h
  | .fn _ _, .ptr _, h => by simp [LeX] at h
  | .fn _ _, .ag _, h => by simp [LeX] at h
  | .fn _ _, .tup _, h => by simp [LeX] at h
  | .fn _ _, .ifc _ _, h => by simp [LeX] at h
  | .ag _, .v _, h => by simp [LeX] at h
  | .ag _, .sl _ _ _ _, h => by simp [LeX] at h
  | .ag _, .ptr _, h => by simp [LeX] at h
  | .ag _, .fn _ _, h => by simp [LeX] at h
  | .ag _, .tup _, h => by simp [LeX] at h
  | .ag _, .ifc _ _, h => by simp [LeX] at h
  | .tup _, .v _, h => by simp [LeX] at h
  | .tup _, .sl _ _ _ _, h => by simp [LeX] at h
  | .tup _, .ptr _, h => by simp [LeX] at h
  | .tup _, .fn _ _, h => by simp [LeX] at h
  | .tup _, .ag _, h => by simp [LeX] at h
  | .tup _, .ifc _ _, h => by simp [LeX] at h
  | .ifc _ _, .v _, h => by simp [LeX] at h
  | .ifc _ _, .sl _ _ _ _, h => by simp [LeX] at h
  | .ifc _ _, .ptr _, h => by simp [LeX] at h
  | .ifc _ _, .fn _ _, h => by simp [LeX] at h
  | .ifc _ _, .ag _, h => by simp [LeX] at h
  | .ifc _ _, .tup _, h => by simp [LeX] at h
theorem LeXs.le : ∀ {ds ds' : List D}, LeXs ds ds' → LeDs ds ds'
  | [], [], _ => trivial
  | d :: ds, d' :: ds', h => by simp only [LeXs] at h; exact ⟨LeX.le h.1, LeXs.le h.2⟩
  | [], _ :: _, h => by simp [LeXs] at h
  | _ :: _, [], h => by simp [LeXs] at h
end
def LeSV : SV → SV → Prop
  | _, .junk => True
  | .d x, .d y => LeX x y
  | .lp k o, .lp k' o' => k = k' ∧ o = o'
  | .own k, .own k' => k = k'
  | .oa a b c d, .oa a' b' c' d' => a = a' ∧ b = b' ∧ c = c' ∧ d = d'
  | .fn f cs, .fn f' cs' => f = f' ∧ cs = cs'
  | .mv f cs, .mv f' cs' => f = f' ∧ cs = cs'
  | .sg cs, .sg cs' => cs = cs'
  | _, _ => False
def LeSVs : List SV → List SV → Prop
  | [], [] => True
  | x :: xs, y :: ys => LeSV x y ∧ LeSVs xs ys
  | _, _ => False
theorem LeSV.den {E : Env} {w : World} {x y : SV} {v : Value} (h : LeSV x y) (hv : DenV E w x v) : DenV E w y v := by
  unfold LeSV at h
  split at h
  · simp only [DenV]
  · simp only [DenV] at hv ⊢; exact h.le _ _ _ hv
  · obtain ⟨rfl, rfl⟩ := h; exact hv
  · subst h; exact hv
  · obtain ⟨rfl, rfl, rfl, rfl⟩ := h; exact hv
  · obtain ⟨rfl, rfl⟩ := h; exact hv
  · obtain ⟨rfl, rfl⟩ := h; exact hv
  · subst h; exact hv
  · exact h.elim
theorem LeSVs.den {E : Env} {w : World} : ∀ {xs ys : List SV} {vs : List Value}, LeSVs xs ys → DenL E w xs vs → DenL E w ys vs
  | [], [], _, _, h => by simpa [DenL] using h
  | x :: xs, y :: ys, vs, hle, h => by
    simp only [DenL] at h ⊢
    obtain ⟨v, vs', rfl, h1, h2⟩ := h
    exact ⟨v, vs', rfl, hle.1.den h1, hle.2.den h2⟩
  | [], _ :: _, _, hle, _ => hle.elim
  | _ :: _, [], _, hle, _ => hle.elim
def LeOw (o o' : Ow) : Prop := o.e = o'.e ∧ o.k = o'.k ∧ o.n = o'.n ∧ (o.x = o'.x ∨ (o'.n ≤ o'.x ∧ o'.x ≤ o.x)) ∧ ∀ i, i < o'.x → o.row i = o'.row i
def LeS (S : List (Nat × SV)) : List (Nat × SV) → Prop
  | [] => True
  | (t, y) :: r => (match klook t S with | some x => LeSV x y | none => False) ∧ LeS S r
def LeL (L : List (Nat × TypeId × List SV)) : List (Nat × TypeId × List SV) → Prop
  | [] => True
  | (k, T, ys) :: r => (match klook k L with | some (T', xs) => T' = T ∧ LeSVs xs ys | none => False) ∧ LeL L r
def LeO (O : List (Nat × Ow)) : List (Nat × Ow) → Prop
  | [] => True
  | (k, e) :: r => (match klook k O with | some e' => LeOw e' e | none => False) ∧ LeO O r
theorem LeS_look {S : List (Nat × SV)} : ∀ {l : List (Nat × SV)}, LeS S l → ∀ {t : Nat} {y : SV}, klook t l = some y → ∃ x, klook t S = some x ∧ LeSV x y
  | [], _, t, y, h => by simp [klook] at h
  | (t', y') :: r, hl, t, y, h => by
    simp only [klook] at h
    by_cases ht : t = t'
    · subst ht
      simp at h; subst h
      have := hl.1
      split at this
      · rename_i x hx; exact ⟨x, hx, this⟩
      · exact this.elim
    · rw [if_neg ht] at h; exact LeS_look hl.2 h
theorem LeL_look {L : List (Nat × TypeId × List SV)} : ∀ {l : List (Nat × TypeId × List SV)}, LeL L l → ∀ {k : Nat} {T : TypeId} {ys : List SV}, klook k l = some (T, ys) → ∃ xs, klook k L = some (T, xs) ∧ LeSVs xs ys
  | [], _, t, y, _, h => by simp [klook] at h
  | (t', T', y') :: r, hl, t, T, y, h => by
    simp only [klook] at h
    by_cases ht : t = t'
    · subst ht
      simp at h
      obtain ⟨rfl, rfl⟩ := h
      have := hl.1
      split at this
      · rename_i T'' xs hx; obtain ⟨rfl, h2⟩ := this; exact ⟨xs, hx, h2⟩
      · exact this.elim
    · rw [if_neg ht] at h; exact LeL_look hl.2 h
theorem LeO_look {O : List (Nat × Ow)} : ∀ {l : List (Nat × Ow)}, LeO O l → ∀ {k : Nat} {e : Ow}, klook k l = some e → ∃ e', klook k O = some e' ∧ LeOw e' e
  | [], _, t, y, h => by simp [klook] at h
  | (t', y') :: r, hl, t, y, h => by
    simp only [klook] at h
    by_cases ht : t = t'
    · subst ht
      simp at h; subst h
      have := hl.1
      split at this
      · rename_i x hx; exact ⟨x, hx, this⟩
      · exact this.elim
    · rw [if_neg ht] at h; exact LeO_look hl.2 h
theorem OwnE.le {E : Env} {w : World} {key : Nat} {o o' : Ow} (h : LeOw o o') (hw : OwnE E w key o) : OwnE E w key o' := by
  obtain ⟨he, hk, hn, hx, hr⟩ := h
  obtain ⟨⟨h1, h2, h3⟩, h4⟩ := hw
  have hxx : o'.x ≤ o.x := by rcases hx with hx | hx <;> omega
  have hnx : o'.n ≤ o'.x := by rcases hx with hx | hx <;> omega
  refine ⟨⟨fun i hi => by rw [← hr i hi, ← hk]; exact h1 i (by omega), hnx, by omega⟩, ?_⟩
  rcases h4 with ⟨h4, h5⟩ | ⟨g, cap, vs, h4, h5, h6, h7, h8, h9⟩
  · exact .inl ⟨h4, by omega⟩
  · exact .inr ⟨g, cap, vs, by rw [h4, hn], by omega, h6, by rw [← he]; exact h7, by rw [← hk]; exact h8, fun i hi => by rw [← hr i hi, ← hk]; exact h9 i (by omega)⟩
def LeF : List (Act × List (Nat × SV)) → List (Act × List (Nat × SV)) → Prop
  | [], [] => True
  | (a, S) :: r, (a', S') :: r' => a = a' ∧ LeS S S' ∧ LeF r r'
  | _, _ => False
theorem LeF.waits {E : Env} {w : World} : ∀ {f f' : List (Act × List (Nat × SV))}, LeF f f' → Waits E f w → Waits E f' w
  | [], [], _, h => h
  | (a, S) :: r, (a', S') :: r', hl, h => by
    obtain ⟨rfl, h1, h2⟩ := hl
    intro p hp t sv ht
    rcases List.mem_cons.1 hp with rfl | hp
    · obtain ⟨x, h3, h4⟩ := LeS_look h1 ht
      obtain ⟨v, h5, h6⟩ := h (a, S) (by simp) t x h3
      exact ⟨v, h5, h4.den h6⟩
    · exact LeF.waits h2 (fun p hp => h p (by simp [hp])) p hp t sv ht
  | [], _ :: _, hl, _ => hl.elim
  | _ :: _, [], hl, _ => hl.elim
theorem Sat.weak {C : Ctx} {s s' : Stt} {a : Act} {w : World} (hN : s.N = s'.N) (hdf : s.df = s'.df) (hS : LeS s.S s'.S) (hL : LeL s.L s'.L) (hO : LeO s.O s'.O) (hF : LeF s.fz s'.fz) (hP : s.pin = s'.pin) (h : Sat C s.sy a w) : Sat C s'.sy a w := by
  obtain ⟨E, hE⟩ := h
  refine ⟨E, hE.sz.trans hN, hE.df.trans hdf, fun t sv hs => ?_, ⟨hE.hp.bel, hE.hp.z, fun key T cs hk => ?_, fun key e hk => ?_, fun key key' e e' hk hk' heq => ?_, fun key e hk => ?_, fun key e g hk hg => ?_, fun key key' e e' g hk hk' hg hg' => ?_⟩, fun b o hb => ?_, hF.waits hE.waits⟩
  · obtain ⟨x, h1, h2⟩ := LeS_look hS hs
    obtain ⟨v, h3, h4⟩ := hE.slots t x h1
    exact ⟨v, h3, h2.den h4⟩
  · obtain ⟨xs, h1, h2⟩ := LeL_look hL hk
    obtain ⟨vs, h3, h4⟩ := hE.hp.loc key T xs h1
    exact ⟨vs, h3, h2.den h4⟩
  · obtain ⟨T, ys⟩ := e
    obtain ⟨xs, h1, h2⟩ := LeL_look hL hk
    exact hE.hp.locN key _ h1
  · obtain ⟨T, ys⟩ := e
    obtain ⟨T', ys'⟩ := e'
    obtain ⟨xs, h1, _⟩ := LeL_look hL hk
    obtain ⟨xs', h1', _⟩ := LeL_look hL hk'
    exact hE.hp.locD key key' _ _ h1 h1' heq
  · obtain ⟨e', h1, h2⟩ := LeO_look hO hk
    exact (hE.hp.own key e' h1).le h2
  · obtain ⟨e', h1, h2⟩ := LeO_look hO hk
    have h2 := hE.hp.ownN key e' g h1 hg
    refine ⟨h2.1, h2.2.1, fun key' e' hk' => ?_⟩
    obtain ⟨T, ys⟩ := e'
    obtain ⟨xs, h3, _⟩ := LeL_look hL hk'
    exact h2.2.2 key' _ h3
  · obtain ⟨e1, h1, _⟩ := LeO_look hO hk
    obtain ⟨e2, h2, _⟩ := LeO_look hO hk'
    exact hE.hp.ownD key key' e1 e2 g h1 h2 hg hg'
  · rw [show s'.sy.pin = s.sy.pin from hP.symm] at hb
    obtain ⟨p1, p2, p3, p4, p5⟩ := hE.pins b o hb
    refine ⟨p1, p2, p3, fun key e he => ?_, fun key e he => ?_⟩
    · obtain ⟨T, ys⟩ := e
      obtain ⟨xs, h3, _⟩ := LeL_look hL he
      exact p4 key _ h3
    · obtain ⟨e1, h1, _⟩ := LeO_look hO he
      exact p5 key e1 h1
/-- the second state says less than the first -/
theorem Exec.weak {R : Rn} {k : List Item} {s : Stt} (s' : Stt) (hN : s.N = s'.N) (hdf : s.df = s'.df) (hS : LeS s.S s'.S) (hL : LeL s.L s'.L) (hO : LeO s.O s'.O) (hF : LeF s.fz s'.fz) (hP : s.pin = s'.pin) (h : Exec R k s'.sy) : Exec R k s.sy :=
  fun a w hs => h a w (hs.weak hN hdf hS hL hO hF hP)
/-! ### a slice of the function's own is read alone from now on -/
mutual
def frzSV (key : Nat) (d : D) : SV → SV
  | .own k => if k = key then .d d else .own k
  | .oa k a b c => if k = key then .junk else .oa k a b c
  | .fn f caps => .fn f (frzL key d caps)
  | .op p sv => .op p (frzSV key d sv)
  | .mv f caps => .mv f (frzL key d caps)
  | .sg caps => .sg (frzL key d caps)
  | sv => sv
def frzL (key : Nat) (d : D) : List SV → List SV
  | [] => []
  | sv :: r => frzSV key d sv :: frzL key d r
end
def frzS (key : Nat) (d : D) : List (Nat × SV) → List (Nat × SV)
  | [] => []
  | (t, sv) :: r => (t, frzSV key d sv) :: frzS key d r
def frzLL (key : Nat) (d : D) : List (Nat × TypeId × List SV) → List (Nat × TypeId × List SV)
  | [] => []
  | (t, T, svs) :: r => (t, T, frzL key d svs) :: frzLL key d r
theorem frzS_look {key : Nat} {d : D} (t : Nat) : ∀ (l : List (Nat × SV)), klook t (frzS key d l) = (klook t l).map (frzSV key d)
  | [] => rfl
  | (t', sv) :: r => by simp only [frzS, klook]; by_cases h : t = t' <;> simp [h, frzS_look t r]
theorem frzLL_look {key : Nat} {d : D} (t : Nat) : ∀ (l : List (Nat × TypeId × List SV)), klook t (frzLL key d l) = (klook t l).map fun x => (x.1, frzL key d x.2)
  | [] => rfl
  | (t', T, sv) :: r => by simp only [frzLL, klook]; by_cases h : t = t' <;> simp [h, frzLL_look t r]
mutual
theorem frzSV_den {E E' : Env} {w : World} {key : Nat} {d : D} (hk : Keeps w E.Z w E'.Z) (hβ : E'.β = E.β) (hω : E'.ω = E.ω) (hd : RdV w E'.Z d (E.ω key)) : ∀ {sv : SV} {v : Value}, DenV E w sv v → DenV E' w (frzSV key d sv) v
  | .own k, v, h => by
    simp only [frzSV]
    split
    · rename_i e; subst e; simp only [DenV] at h ⊢; rw [h]; exact hd
    · simp only [DenV] at h ⊢; rw [hω]; exact h
  | .oa k a b c, v, h => by
    simp only [frzSV]
    split
    · simp [DenV]
    · simp only [DenV] at h ⊢; rw [hω]; exact h
  | .fn f caps, v, h => by
    simp only [frzSV, DenV] at h ⊢
    obtain ⟨vs, h1, h2⟩ := h
    exact ⟨vs, h1, frzL_den hk hβ hω hd h2⟩
  | .op p sv, v, h => by simp only [frzSV, DenV] at h ⊢; exact ⟨fun hp => frzSV_den hk hβ hω hd (h.1 hp), h.2⟩
  | .d x, v, h => by simp only [frzSV, DenV] at h ⊢; exact h.mono hk
  | .lp k o, v, h => by simp only [frzSV, DenV] at h ⊢; rw [hβ]; exact h
  | .mv f caps, v, h => by
    simp only [frzSV, DenV] at h ⊢
    obtain ⟨vs, h1, h2⟩ := h
    exact ⟨vs, h1, frzL_den hk hβ hω hd h2⟩
  | .sg caps, v, h => by
    simp only [frzSV, DenV] at h ⊢
    obtain ⟨vs, h1, h2⟩ := h
    exact ⟨vs, h1, frzL_den hk hβ hω hd h2⟩
  | .junk, v, h => by simp [frzSV, DenV]
theorem frzL_den {E E' : Env} {w : World} {key : Nat} {d : D} (hk : Keeps w E.Z w E'.Z) (hβ : E'.β = E.β) (hω : E'.ω = E.ω) (hd : RdV w E'.Z d (E.ω key)) : ∀ {svs : List SV} {vs : List Value}, DenL E w svs vs → DenL E' w (frzL key d svs) vs
  | [], vs, h => by simpa [frzL, DenL] using h
  | sv :: r, vs, h => by
    simp only [frzL, DenL] at h ⊢
    obtain ⟨v, vs', e, h1, h2⟩ := h
    exact ⟨v, vs', e, frzSV_den hk hβ hω hd h1, frzL_den hk hβ hω hd h2⟩
end
def frzF (key : Nat) (d : D) : List (Act × List (Nat × SV)) → List (Act × List (Nat × SV))
  | [] => []
  | (a, S) :: r => (a, frzS key d S) :: frzF key d r
theorem mem_frzF {key : Nat} {d : D} {p : Act × List (Nat × SV)} : ∀ {fz : List (Act × List (Nat × SV))}, p ∈ frzF key d fz → ∃ S, (p.1, S) ∈ fz ∧ p.2 = frzS key d S
  | [], h => by simp [frzF] at h
  | (a, S) :: r, h => by
    simp only [frzF, List.mem_cons] at h
    rcases h with rfl | h
    · exact ⟨S, by simp, rfl⟩
    · obtain ⟨S', h1, h2⟩ := mem_frzF h; exact ⟨S', by simp [h1], h2⟩
def frzSt (key : Nat) (ow : Ow) (s : Stt) : Stt := ⟨s.N, s.df, frzS key (.sl ow.k ow.n ow.x ow.row) s.S, frzLL key (.sl ow.k ow.n ow.x ow.row) s.L, delK key s.O, frzF key (.sl ow.k ow.n ow.x ow.row) s.fz, s.pin⟩
theorem Sat.freeze {C : Ctx} {s : Stt} (key : Nat) {ow : Ow} (hO : klook key s.O = some ow) {a : Act} {w : World} (h : Sat C s.sy a w) : Sat C (frzSt key ow s).sy a w := by
  obtain ⟨E, hE⟩ := h
  refine ⟨{ E with Z := fun b => E.Z b ∨ (E.ω key).ownBlock = some b }, ?_⟩
  have hk0 : Keeps w E.Z w (fun b => E.Z b ∨ (E.ω key).ownBlock = some b) := ⟨fun _ h => .inl h, fun _ _ => rfl⟩
  have hd : RdV w (fun b => E.Z b ∨ (E.ω key).ownBlock = some b) (.sl ow.k ow.n ow.x ow.row) (E.ω key) := by
    obtain ⟨⟨h0, h0', h0''⟩, h1⟩ := hE.hp.own key ow hO
    simp only [RdV]
    rcases h1 with ⟨h1, h2⟩ | ⟨g, cap, vs, h1, h2, h3, h4, h5, h6⟩
    · exact ⟨none, 0, by rw [h1]; congr 1; omega, h0', by omega, h0'', .inl h2⟩
    · refine ⟨some ⟨g, 0, none⟩, cap, h1, h0', h2, h0'', .inr ⟨g, 0, rfl, .inr (by rw [h1]; rfl), fun i hi => ⟨(h0 i hi).1, (h0 i hi).2, ?_⟩⟩⟩
      refine RdC_of_vals ((h6 i hi).mono hk0) fun j hj => ?_
      have hjk : j < ow.k := by rw [← (h0 i hi).1]; exact hj
      rw [List.getElem?_take_of_lt hjk, List.getElem?_drop]
      simp [World.cell?, h4]
  have hOO : ∀ key' o, klook key' (delK key s.O) = some o → key' ≠ key ∧ klook key' s.O = some o := fun key' o hk => by
    rw [look_delK] at hk
    by_cases e : key' = key
    · simp [e] at hk
    · rw [if_neg e] at hk; exact ⟨e, hk⟩
  have hLL : ∀ key' T cs, klook key' (frzLL key (.sl ow.k ow.n ow.x ow.row) s.L) = some (T, cs) → ∃ cs0, klook key' s.L = some (T, cs0) ∧ cs = frzL key (.sl ow.k ow.n ow.x ow.row) cs0 := fun key' T cs hk => by
    rw [frzLL_look] at hk
    cases hx : klook key' s.L with
    | none => simp [hx] at hk
    | some x => obtain ⟨T', cs'⟩ := x; simp [hx] at hk; obtain ⟨rfl, rfl⟩ := hk; exact ⟨cs', rfl, rfl⟩
  refine ⟨hE.sz, hE.df, fun t sv hs => ?_, ⟨hE.hp.bel, fun b hb => ?_, fun key' T cs hk => ?_, fun key' e hk => ?_, fun key1 key2 e1 e2 hk hk' heq => ?_, fun key' o hk => ?_, fun key' e g hk hg => ?_, fun key1 key2 e1 e2 g hk hk' hg hg' => ?_⟩, fun b o hb => ?_, fun p hp t sv ht => ?_⟩
  · simp only [Stt.sy, frzSt, frzS_look] at hs
    cases hx : klook t s.S with
    | none => simp [hx] at hs
    | some sv0 =>
      simp [hx] at hs; subst hs
      obtain ⟨v, h1, h2⟩ := hE.slots t sv0 hx
      exact ⟨v, h1, frzSV_den (E' := { E with Z := fun b => E.Z b ∨ (E.ω key).ownBlock = some b }) hk0 rfl rfl hd h2⟩
  · rcases hb with hb | hb
    · exact hE.hp.z b hb
    · have h1 := hE.hp.ownN key ow b hO hb
      have h2 := hE.hp.ltO hO hb
      exact ⟨h2, fun hlt => by omega, .inr h1.1⟩
  · obtain ⟨cs0, h1, rfl⟩ := hLL _ _ _ hk
    obtain ⟨vs, h2, h3⟩ := hE.hp.loc key' T cs0 h1
    exact ⟨vs, h2, frzL_den (E' := { E with Z := fun b => E.Z b ∨ (E.ω key).ownBlock = some b }) hk0 rfl rfl hd h3⟩
  · obtain ⟨T, cs⟩ := e
    obtain ⟨cs0, h1, _⟩ := hLL _ _ _ hk
    have h2 := hE.hp.locN key' _ h1
    refine ⟨h2.1, fun hz => ?_⟩
    rcases hz with hz | hz
    · exact h2.2 hz
    · exact (hE.hp.ownN key ow _ hO hz).2.2 key' _ h1 rfl
  · obtain ⟨T, cs⟩ := e1
    obtain ⟨T', cs'⟩ := e2
    obtain ⟨c1, h1, _⟩ := hLL _ _ _ hk
    obtain ⟨c2, h2, _⟩ := hLL _ _ _ hk'
    exact hE.hp.locD key1 key2 _ _ h1 h2 heq
  · obtain ⟨hne, h1⟩ := hOO _ _ hk
    obtain ⟨h2, h3⟩ := hE.hp.own key' o h1
    refine ⟨h2, h3.imp id ?_⟩
    rintro ⟨g, cap, vs, q1, q2, q3, q4, q5, q6⟩
    exact ⟨g, cap, vs, q1, q2, q3, q4, q5, fun i hi => (q6 i hi).mono hk0⟩
  · obtain ⟨hne, h1⟩ := hOO _ _ hk
    have h2 := hE.hp.ownN key' e g h1 hg
    refine ⟨h2.1, fun hz => ?_, fun key1 e' hk' => ?_⟩
    · rcases hz with hz | hz
      · exact h2.2.1 hz
      · exact hne (hE.hp.ownD key' key _ _ g h1 hO hg hz)
    · obtain ⟨T, cs⟩ := e'
      obtain ⟨c1, h3, _⟩ := hLL _ _ _ hk'
      exact h2.2.2 key1 _ h3
  · obtain ⟨_, h1⟩ := hOO _ _ hk
    obtain ⟨_, h2⟩ := hOO _ _ hk'
    exact hE.hp.ownD key1 key2 _ _ g h1 h2 hg hg'
  · obtain ⟨p1, p2, p3, p4, p5⟩ := hE.pins b o hb
    refine ⟨p1, p2, fun hz => ?_, fun key1 e he => ?_, fun key1 e he => ?_⟩
    · rcases hz with hz | hz
      · exact p3 hz
      · exact p5 key ow hO hz
    · obtain ⟨T, cs⟩ := e
      obtain ⟨c1, h3, _⟩ := hLL _ _ _ he
      exact p4 key1 _ h3
    · exact p5 key1 e (hOO _ _ he).2
  · obtain ⟨S, h1, h2⟩ := mem_frzF hp
    rw [h2, frzS_look] at ht
    cases hx : klook t S with
    | none => simp [hx] at ht
    | some x =>
      simp [hx] at ht; subst ht
      obtain ⟨v, h3, h4⟩ := hE.waits _ h1 t x hx
      exact ⟨v, h3, frzSV_den (E' := { E with Z := fun b => E.Z b ∨ (E.ω key).ownBlock = some b }) hk0 rfl rfl hd h4⟩
theorem Exec.freeze {R : Rn} {k : List Item} {s : Stt} (key : Nat) {ow : Ow} (hO : klook key s.O = some ow) (h : Exec R k (frzSt key ow s).sy) : Exec R k s.sy := fun a w hs => h a w (hs.freeze key hO)
/-- in a region, ahead of an operation: a slice of the function's own is read alone from now on -/
theorem kfreeze {P : Program} {C : Ctx} {ops : Array Oper} {i : Nat} {ds : List (Option Tmp)} {o : Oper} {r : List Oper} {st st' : Stt} {Q : Sy → Prop} (key : Nat) {ow : Ow} (hO : klook key st.O = some ow) (hs : frzSt key ow st = st')
    (h : WalkI P C ops i ds (o :: r) st'.sy Q) : WalkI P C ops i ds (o :: r) st.sy Q := fun hi hl => by
  subst hs
  obtain ⟨s', h1, h2⟩ := h hi hl
  exact ⟨s', fun a w hs => h1 a w (hs.freeze key hO), h2⟩
/-- what is there for sure is there -/
def un1 : SV → SV
  | .op p sv => bif p then sv else .op p sv
  | sv => sv
def unS (ts : List Nat) : List (Nat × SV) → List (Nat × SV)
  | [] => []
  | (t, sv) :: r => (t, if ts.contains t = true then un1 sv else sv) :: unS ts r
theorem un1_den {E : Env} {w : World} {sv : SV} {v : Value} (h : DenV E w sv v) : DenV E w (un1 sv) v := by
  cases sv with
  | op p sv => cases p with
    | true => simp only [un1, cond_true]; simp only [DenV] at h; exact h.1 trivial
    | false => simpa only [un1, cond_false] using h
  | _ => exact h
theorem unS_look {ts : List Nat} {t : Nat} {y : SV} : ∀ {l : List (Nat × SV)}, klook t (unS ts l) = some y → ∃ x, klook t l = some x ∧ (y = x ∨ y = un1 x)
  | [], h => by simp [unS, klook] at h
  | (t', sv) :: r, h => by
    simp only [unS, klook] at h ⊢
    by_cases htt : t = t'
    · rw [if_pos htt] at h ⊢
      refine ⟨sv, rfl, ?_⟩
      split at h <;> cases h
      · exact .inr rfl
      · exact .inl rfl
    · rw [if_neg htt] at h ⊢
      exact unS_look h
theorem Sat.un {C : Ctx} {s : Stt} (ts : List Nat) {a : Act} {w : World} (h : Sat C s.sy a w) : Sat C (Stt.mk s.N s.df (unS ts s.S) s.L s.O s.fz s.pin).sy a w := by
  obtain ⟨E, hE⟩ := h
  refine ⟨E, hE.sz, hE.df, fun t sv hs => ?_, hE.hp, hE.pins, hE.waits⟩
  obtain ⟨x, h1, h2⟩ := unS_look hs
  obtain ⟨v, h3, h4⟩ := hE.slots t x h1
  rcases h2 with rfl | rfl
  · exact ⟨v, h3, h4⟩
  · exact ⟨v, h3, un1_den h4⟩
theorem kun {P : Program} {C : Ctx} {te : TE} (hte : TEok P te) {ops : Array Oper} {i : Nat} {ds : List (Option Tmp)} {o : Oper} {r : List Oper} {st st' : Stt} {Q : Sy → Prop} (ts : List Nat) (hs : Stt.mk st.N st.df (unS ts st.S) st.L st.O st.fz st.pin = st')
    (h : runL P C te ops i ds (o :: r) st' Q) : WalkI P C ops i ds (o :: r) st.sy Q := fun hi hl => by
  subst hs
  obtain ⟨s', h1, h2⟩ := runL_walk hte h hi hl
  exact ⟨s', fun a w hs => h1 a w (hs.un ts), h2⟩
/-- a nil slice may be taken as one of the function's own -/
theorem Exec.ownNil {R : Rn} {k : List Item} {s : Stt} (t key : Nat) (e : TypeId) (kk : Nat) (ht : klook t s.S = some (.d (.v (.slice none 0 0)))) (hkey : klook key s.O = none)
    (h : Exec R k (Stt.mk s.N s.df ((t, .own key) :: delK t (mapS [key] [] s.S)) (mapL [key] [] s.L) ((key, ⟨e, kk, 0, 0, nilRow⟩) :: s.O) (mapF [key] [] s.fz) s.pin).sy) : Exec R k s.sy := by
  intro a w ⟨E, hE⟩
  refine h a w ⟨{ E with ω := fun x => if x = key then .slice none 0 0 else E.ω x }, ?_⟩
  have hω : ∀ x, [key].contains x = false → (fun x => if x = key then Value.slice none 0 0 else E.ω x) x = E.ω x := fun x hx => by
    have : x ≠ key := by intro e; subst e; simp at hx
    simp [this]
  have hk0 : Keeps w E.Z w E.Z := ⟨fun _ h => h, fun _ _ => rfl⟩
  have hOe : ∀ x y, klook x ((key, (⟨e, kk, 0, 0, nilRow⟩ : Ow)) :: s.O) = some y → (x = key ∧ y = ⟨e, kk, 0, 0, nilRow⟩) ∨ (x ≠ key ∧ klook x s.O = some y) := fun x y hx => by
    simp only [klook] at hx
    by_cases hxk : x = key
    · simp [hxk] at hx; exact .inl ⟨hxk, hx.symm⟩
    · rw [if_neg hxk] at hx; exact .inr ⟨hxk, hx⟩
  refine ⟨hE.sz, hE.df, fun t' sv hs => ?_, ⟨hE.hp.bel, hE.hp.z, fun key' T cs hk => ?_, fun key' e' hk => ?_, fun key1 key2 e1 e2 hk hk' heq => ?_, fun key' o hk => ?_, fun key' e' g hk hg => ?_, fun key1 key2 e1 e2 g hk hk' hg hg' => ?_⟩, fun b o hb => ?_, fun p hp t' sv ht' => ?_⟩
  · simp only [Stt.sy, klook, look_delK, look_mapS] at hs
    by_cases htt : t' = t
    · subst htt
      simp at hs; subst hs
      obtain ⟨v, h1, h2⟩ := hE.slots t' _ ht
      refine ⟨v, h1, ?_⟩
      simp only [DenV, RdV] at h2 ⊢
      simp [h2]
    · simp only [htt, if_false] at hs
      cases hx : klook t' s.S with
      | none => simp [hx] at hs
      | some x =>
        simp [hx] at hs; subst hs
        obtain ⟨v, h1, h2⟩ := hE.slots t' _ hx
        exact ⟨v, h1, DenV.kill (E' := { E with ω := fun x => if x = key then .slice none 0 0 else E.ω x }) hk0 (fun _ _ => rfl) hω h2⟩
  · simp only [Stt.sy, look_mapL] at hk
    cases hx : klook key' s.L with
    | none => simp [hx, killE] at hk
    | some x =>
      obtain ⟨T', cs'⟩ := x
      simp [hx, killE] at hk
      obtain ⟨rfl, rfl⟩ := hk
      obtain ⟨vs, h1, h2⟩ := hE.hp.loc key' _ _ hx
      exact ⟨vs, h1, DenL.kill (E' := { E with ω := fun x => if x = key then .slice none 0 0 else E.ω x }) hk0 (fun _ _ => rfl) hω h2⟩
  · simp only [Stt.sy, look_mapL] at hk
    cases hx : klook key' s.L with
    | none => simp [hx, killE] at hk
    | some x => exact hE.hp.locN key' _ hx
  · simp only [Stt.sy, look_mapL] at hk hk'
    cases hx : klook key1 s.L with
    | none => simp [hx, killE] at hk
    | some x =>
      cases hy : klook key2 s.L with
      | none => simp [hy, killE] at hk'
      | some y => exact hE.hp.locD key1 key2 _ _ hx hy heq
  · rcases hOe _ _ hk with ⟨rfl, h1⟩ | ⟨hne, h1⟩
    · cases h1; exact ⟨⟨by simp, by simp, by simp⟩, .inl ⟨by simp, rfl⟩⟩
    · have := hE.hp.own key' o h1
      unfold OwnE at this ⊢
      simpa [hne] using this
  · rcases hOe _ _ hk with ⟨rfl, h1⟩ | ⟨hne, h1⟩
    · simp [Value.ownBlock] at hg
    · simp only [hne, if_false] at hg
      have h2 := hE.hp.ownN key' e' g h1 hg
      refine ⟨h2.1, h2.2.1, fun key1 e1 hk1 => ?_⟩
      simp only [Stt.sy, look_mapL] at hk1
      cases hx : klook key1 s.L with
      | none => simp [hx, killE] at hk1
      | some x => exact h2.2.2 key1 _ hx
  · rcases hOe _ _ hk with ⟨rfl, h1⟩ | ⟨hne, h1⟩
    · simp [Value.ownBlock] at hg
    · rcases hOe _ _ hk' with ⟨rfl, h2⟩ | ⟨hne', h2⟩
      · simp [Value.ownBlock] at hg'
      · simp only [hne, if_false] at hg; simp only [hne', if_false] at hg'
        exact hE.hp.ownD key1 key2 _ _ g h1 h2 hg hg'
  · obtain ⟨p1, p2, p3, p4, p5⟩ := hE.pins b o hb
    refine ⟨p1, p2, p3, fun key1 e1 he => ?_, fun key1 e1 he => ?_⟩
    · simp only [Stt.sy, look_mapL] at he
      cases hx : klook key1 s.L with
      | none => simp [hx, killE] at he
      | some x => exact p4 key1 _ hx
    · rcases hOe _ _ he with ⟨rfl, _⟩ | ⟨hne, h1⟩
      · simp [Value.ownBlock]
      · simp only [hne, if_false]; exact p5 key1 e1 h1
  · obtain ⟨S, h1, h2⟩ := mem_mapF hp
    rw [h2, look_mapS] at ht'
    cases hx : klook t' S with
    | none => simp [hx] at ht'
    | some x =>
      simp [hx] at ht'; subst ht'
      obtain ⟨v, h3, h4⟩ := hE.waits _ h1 t' x hx
      exact ⟨v, h3, DenV.kill (E' := { E with ω := fun x => if x = key then .slice none 0 0 else E.ω x }) hk0 (fun _ _ => rfl) hω h4⟩
end Go.Kin
namespace Go.Kin
open Go.RowKit
/-! ### two states as one, by a truth that is not known -/
def mgV (b : Bool) : Value → Value → Option Value
  | .int k x, .int k' y => if k = k' then some (.int k (bif b then x else y)) else none
  | .bool x, .bool y => some (.bool (bif b then x else y))
  | .string x, .string y => some (.string (mkS (bif b then bytes x else bytes y)))
  | .slice none 0 0, .slice none 0 0 => some (.slice none 0 0)
  | .pointer none, .pointer none => some (.pointer none)
  | .nilIface, .nilIface => some .nilIface
  | .nilFunc, .nilFunc => some .nilFunc
  | .map none, .map none => some (.map none)
  | _, _ => none
theorem mgV_eq {b : Bool} {x y z : Value} (h : mgV b x y = some z) : z = bif b then x else y := by
  unfold mgV at h
  split at h
  · split at h
    · rename_i hk; subst hk; cases h; cases b <;> rfl
    · cases h
  · cases h; cases b <;> rfl
  · cases h; cases b <;> simp
  all_goals first | (cases h; cases b <;> rfl; done) | (cases h; done)
def isNilS : Value → Bool
  | .slice none 0 0 => true
  | _ => false
theorem isNilS_eq {x : Value} (h : isNilS x = true) : x = .slice none 0 0 := by
  unfold isNilS at h
  split at h
  · rfl
  · cases h
def mgVD (b : Bool) (x : Value) : D → Option D
  | .v y => match mgV b x y with | some z => some (.v z) | none => none
  | .sl k n ex row => if isNilS x = true then some (.sl k (bif b then 0 else n) (bif b then 0 else ex) row) else none
  | _ => none
mutual
def mgD (b : Bool) : D → D → Option D
  | .v x, d => mgVD b x d
  | .sl k n x row, d => match d with
    | .sl k' n' x' row' => if k = k' then some (.sl k (bif b then n else n') (bif b then x else x') fun i => bif b then row i else row' i) else none
    | .v y => if isNilS y = true then some (.sl k (bif b then n else 0) (bif b then x else 0) row) else none
    | _ => none
  | .fn f cs, d => match d with
    | .fn f' cs' => if f = f' then (match mgDs b cs cs' with | some ds => some (.fn f ds) | none => none) else none
    | _ => none
  | .ag cs, d => match d with
    | .ag cs' => (match mgDs b cs cs' with | some ds => some (.ag ds) | none => none)
    | _ => none
  | .tup cs, d => match d with
    | .tup cs' => (match mgDs b cs cs' with | some ds => some (.tup ds) | none => none)
    | _ => none
  | .ifc t x, d => match d with
    | .ifc t' x' => if t = t' then (match mgD b x x' with | some z => some (.ifc t z) | none => none) else none
    | _ => none
  | .ptr _, _ => none
def mgDs (b : Bool) : List D → List D → Option (List D)
  | [], [] => some []
  | x :: xs, y :: ys => match mgD b x y, mgDs b xs ys with | some z, some zs => some (z :: zs) | _, _ => none
  | _, _ => none
end
theorem RdV_nil {w : World} {Z : Nat → Prop} (k : Nat) (row : Nat → List D) : RdV w Z (.sl k 0 0 row) (.slice none 0 0) := LeD.nil k row w Z _ (by simp [RdV])
theorem mgVD_rd {b : Bool} {w : World} {Z : Nat → Prop} {x : Value} {d z : D} {v : Value} (h : mgVD b x d = some z) (hv : RdV w Z (bif b then .v x else d) v) : RdV w Z z v := by
  unfold mgVD at h
  split at h
  · rename_i y
    split at h
    · rename_i u hu
      cases h
      rw [mgV_eq hu]
      cases b <;> simpa [RdV] using hv
    · cases h
  · rename_i k n ex row
    split at h
    · rename_i hn
      cases h
      cases b
      · exact hv
      · simp only [cond_true, RdV] at hv; rw [hv, isNilS_eq hn]; exact RdV_nil k row
    · cases h
  · cases h
mutual
theorem mgD_rd {b : Bool} {w : World} {Z : Nat → Prop} : ∀ {x y z : D} {v : Value}, mgD b x y = some z → RdV w Z (bif b then x else y) v → RdV w Z z v
  | .v x, y, z, v, h, hv => mgVD_rd (by simpa only [mgD] using h) hv
  | .sl k n x row, y, z, v, h, hv => by
    simp only [mgD] at h
    split at h
    · rename_i k' n' x' row'
      split at h
      · rename_i hk; subst hk; cases h; cases b <;> exact hv
      · cases h
    · rename_i y
      split at h
      · rename_i hn
        cases h
        cases b
        · simp only [cond_false, RdV] at hv; rw [hv, isNilS_eq hn]; exact RdV_nil k row
        · exact hv
      · cases h
    · cases h
  | .fn f cs, y, z, v, h, hv => by
    simp only [mgD] at h
    split at h
    · rename_i f' cs'
      split at h
      · rename_i hf; subst hf
        split at h
        · rename_i ds hds
          cases h
          simp only [RdV]
          cases b <;> simp only [cond_false, cond_true, RdV] at hv <;> obtain ⟨vs, h1, h2⟩ := hv
          · exact ⟨vs, h1, mgDs_rd hds (by simpa only [cond_false] using h2)⟩
          · exact ⟨vs, h1, mgDs_rd hds (by simpa only [cond_true] using h2)⟩
        · cases h
      · cases h
    · cases h
  | .ag cs, y, z, v, h, hv => by
    simp only [mgD] at h
    split at h
    · rename_i cs'
      split at h
      · rename_i ds hds
        cases h
        simp only [RdV]
        cases b <;> simp only [cond_false, cond_true, RdV] at hv <;> obtain ⟨vs, h1, h2⟩ := hv
        · exact ⟨vs, h1, mgDs_rd hds (by simpa only [cond_false] using h2)⟩
        · exact ⟨vs, h1, mgDs_rd hds (by simpa only [cond_true] using h2)⟩
      · cases h
    · cases h
  | .tup cs, y, z, v, h, hv => by
    simp only [mgD] at h
    split at h
    · rename_i cs'
      split at h
      · rename_i ds hds
        cases h
        simp only [RdV]
        cases b <;> simp only [cond_false, cond_true, RdV] at hv <;> obtain ⟨vs, h1, h2⟩ := hv
        · exact ⟨vs, h1, mgDs_rd hds (by simpa only [cond_false] using h2)⟩
        · exact ⟨vs, h1, mgDs_rd hds (by simpa only [cond_true] using h2)⟩
      · cases h
    · cases h
  | .ifc t x, y, z, v, h, hv => by
    simp only [mgD] at h
    split at h
    · rename_i t' x'
      split at h
      · rename_i ht; subst ht
        split at h
        · rename_i u hu
          cases h
          simp only [RdV]
          cases b <;> simp only [cond_false, cond_true, RdV] at hv <;> obtain ⟨v', h1, h2⟩ := hv
          · exact ⟨v', h1, mgD_rd hu (by simpa only [cond_false] using h2)⟩
          · exact ⟨v', h1, mgD_rd hu (by simpa only [cond_true] using h2)⟩
        · cases h
      · cases h
    · cases h
  | .ptr _, y, z, v, h, hv => by simp [mgD] at h
theorem mgDs_rd {b : Bool} {w : World} {Z : Nat → Prop} : ∀ {xs ys zs : List D} {vs : List Value}, mgDs b xs ys = some zs → RdL w Z (bif b then xs else ys) vs → RdL w Z zs vs
  | [], ys, zs, vs, h, hv => by
    cases ys with
    | nil => simp [mgDs] at h; subst h; cases b <;> exact hv
    | cons y ys => simp [mgDs] at h
  | x :: xs, ys, zs, vs, h, hv => by
    cases ys with
    | nil => simp [mgDs] at h
    | cons y ys =>
      simp only [mgDs] at h
      split at h
      · rename_i z zs' h1 h2
        cases h
        cases b
        · simp only [cond_false, RdL] at hv ⊢
          obtain ⟨v, vs', e, h3, h4⟩ := hv
          exact ⟨v, vs', e, mgD_rd h1 (by simpa only [cond_false] using h3), mgDs_rd h2 (by simpa only [cond_false] using h4)⟩
        · simp only [cond_true, RdL] at hv ⊢
          obtain ⟨v, vs', e, h3, h4⟩ := hv
          exact ⟨v, vs', e, mgD_rd h1 (by simpa only [cond_true] using h3), mgDs_rd h2 (by simpa only [cond_true] using h4)⟩
      · cases h
end
mutual
def mgSV (b : Bool) : SV → SV → SV
  | .d x, s => match s with
    | .d y => (match mgD b x y with | some z => .d z | none => .junk)
    | _ => .junk
  | .mv f cs, s => match s with
    | .mv f' cs' => if f = f' ∧ cs.length = cs'.length then .mv f (mgSVs b cs cs') else .junk
    | _ => .junk
  | .lp k o, s => match s with
    | .lp k' o' => if k = k' ∧ o = o' then .lp k o else .junk
    | _ => .junk
  | .own k, s => match s with
    | .own k' => if k = k' then .own k else .junk
    | _ => .junk
  | .fn f cs, s => match s with
    | .fn f' cs' => if f = f' ∧ cs.length = cs'.length then .fn f (mgSVs b cs cs') else .junk
    | _ => .junk
  | _, _ => .junk
def mgSVs (b : Bool) : List SV → List SV → List SV
  | x :: xs, ys => match ys with | y :: ys => mgSV b x y :: mgSVs b xs ys | [] => []
  | [], _ => []
end
mutual
theorem mgSV_den {b : Bool} {E : Env} {w : World} : ∀ {x y : SV} {v : Value}, DenV E w (bif b then x else y) v → DenV E w (mgSV b x y) v
  | .d x, s, v, h => by
    cases s with
    | d y =>
      simp only [mgSV]
      split
      · rename_i z hz
        simp only [DenV]
        refine mgD_rd hz ?_
        cases b <;> simpa only [cond_true, cond_false, DenV] using h
      · simp [DenV]
    | _ => simp [mgSV, DenV]
  | .lp k o, s, v, h => by
    cases s with
    | lp k' o' =>
      simp only [mgSV]
      split
      · rename_i e; obtain ⟨rfl, rfl⟩ := e; cases b <;> exact h
      · simp [DenV]
    | _ => simp [mgSV, DenV]
  | .own k, s, v, h => by
    cases s with
    | own k' =>
      simp only [mgSV]
      split
      · rename_i e; subst e; cases b <;> exact h
      · simp [DenV]
    | _ => simp [mgSV, DenV]
  | .fn f cs, s, v, h => by
    cases s with
    | fn f' cs' =>
      simp only [mgSV]
      split
      · rename_i e; obtain ⟨rfl, hl⟩ := e
        simp only [DenV]
        cases b <;> simp only [cond_false, cond_true, DenV] at h <;> obtain ⟨vs, h1, h2⟩ := h
        · exact ⟨vs, h1, mgSVs_den hl (by simpa only [cond_false] using h2)⟩
        · exact ⟨vs, h1, mgSVs_den hl (by simpa only [cond_true] using h2)⟩
      · simp [DenV]
    | _ => simp [mgSV, DenV]
  | .oa _ _ _ _, s, v, h => by simp [mgSV, DenV]
  | .op _ _, s, v, h => by simp [mgSV, DenV]
  | .sg _, s, v, h => by simp [mgSV, DenV]
  | .mv f cs, s, v, h => by
    cases s with
    | mv f' cs' =>
      simp only [mgSV]
      split
      · rename_i e; obtain ⟨rfl, hl⟩ := e
        simp only [DenV]
        cases b <;> simp only [cond_false, cond_true, DenV] at h <;> obtain ⟨vs, h1, h2⟩ := h
        · exact ⟨vs, h1, mgSVs_den hl (by simpa only [cond_false] using h2)⟩
        · exact ⟨vs, h1, mgSVs_den hl (by simpa only [cond_true] using h2)⟩
      · simp [DenV]
    | _ => simp [mgSV, DenV]
  | .junk, s, v, h => by simp [mgSV, DenV]
theorem mgSVs_den {b : Bool} {E : Env} {w : World} : ∀ {xs ys : List SV} {vs : List Value}, xs.length = ys.length → DenL E w (bif b then xs else ys) vs → DenL E w (mgSVs b xs ys) vs
  | [], ys, vs, hl, h => by
    cases ys with
    | nil => cases b <;> simpa [mgSVs] using h
    | cons y ys => simp at hl
  | x :: xs, ys, vs, hl, h => by
    cases ys with
    | nil => simp at hl
    | cons y ys =>
      simp only [mgSVs, DenL]
      cases b
      · simp only [cond_false, DenL] at h
        obtain ⟨v, vs', e, h3, h4⟩ := h
        exact ⟨v, vs', e, mgSV_den (by simpa only [cond_false] using h3), mgSVs_den (by simpa using hl) (by simpa only [cond_false] using h4)⟩
      · simp only [cond_true, DenL] at h
        obtain ⟨v, vs', e, h3, h4⟩ := h
        exact ⟨v, vs', e, mgSV_den (by simpa only [cond_true] using h3), mgSVs_den (by simpa using hl) (by simpa only [cond_true] using h4)⟩
end
def mgS (b : Bool) (S1 S2 : List (Nat × SV)) : List Nat → List (Nat × SV)
  | [] => []
  | t :: r => match klook t S1, klook t S2 with
    | some x, some y => (t, mgSV b x y) :: mgS b S1 S2 r
    | _, _ => mgS b S1 S2 r
def mgL (b : Bool) (L1 L2 : List (Nat × TypeId × List SV)) : List Nat → List (Nat × TypeId × List SV)
  | [] => []
  | k :: r => match klook k L1, klook k L2 with
    | some (T, xs), some (T', ys) => if T = T' ∧ xs.length = ys.length then (k, T, mgSVs b xs ys) :: mgL b L1 L2 r else mgL b L1 L2 r
    | _, _ => mgL b L1 L2 r
def mgO (b : Bool) (O1 O2 : List (Nat × Ow)) : List Nat → List (Nat × Ow)
  | [] => []
  | k :: r => match klook k O1, klook k O2 with
    | some o, some o' => if o.e = o'.e ∧ o.k = o'.k then (k, ⟨o.e, o.k, bif b then o.n else o'.n, bif b then o.x else o'.x, fun i => bif b then o.row i else o'.row i⟩) :: mgO b O1 O2 r else mgO b O1 O2 r
    | _, _ => mgO b O1 O2 r
/-- ts: the slots that are read later -/
def mgF (b : Bool) : List (Act × List (Nat × SV)) → List (Act × List (Nat × SV)) → List (Act × List (Nat × SV))
  | (a, S) :: r, (_, S') :: r' => (a, mgS b S S' (keysOf S)) :: mgF b r r'
  | _, _ => []
/-- the same activations wait -/
def sameF : List (Act × List (Nat × SV)) → List (Act × List (Nat × SV)) → Prop
  | [], [] => True
  | (a, _) :: r, (a', _) :: r' => a = a' ∧ sameF r r'
  | _, _ => False
def mgSt (b : Bool) (ts : List Nat) (s1 s2 : Stt) : Stt := ⟨s1.N, s1.df, mgS b s1.S s2.S ts, mgL b s1.L s2.L (keysOf s1.L), mgO b s1.O s2.O (keysOf s1.O), mgF b s1.fz s2.fz, s1.pin⟩
theorem mgS_look {b : Bool} {S1 S2 : List (Nat × SV)} {t : Nat} {sv : SV} : ∀ {ts : List Nat}, klook t (mgS b S1 S2 ts) = some sv → ∃ x y, klook t S1 = some x ∧ klook t S2 = some y ∧ sv = mgSV b x y
  | [], h => by simp [mgS, klook] at h
  | t' :: r, h => by
    simp only [mgS] at h
    split at h
    · rename_i x y hx hy
      simp only [klook] at h
      by_cases ht : t = t'
      · subst ht; simp at h; exact ⟨x, y, hx, hy, h.symm⟩
      · rw [if_neg ht] at h; exact mgS_look h
    · exact mgS_look h
theorem mgL_look {b : Bool} {L1 L2 : List (Nat × TypeId × List SV)} {k : Nat} {T : TypeId} {cs : List SV} : ∀ {ks : List Nat}, klook k (mgL b L1 L2 ks) = some (T, cs) → ∃ xs ys, xs.length = ys.length ∧ klook k L1 = some (T, xs) ∧ klook k L2 = some (T, ys) ∧ cs = mgSVs b xs ys
  | [], h => by simp [mgL, klook] at h
  | k' :: r, h => by
    simp only [mgL] at h
    split at h
    · rename_i T1 xs T2 ys hx hy
      split at h
      · rename_i e
        simp only [klook] at h
        by_cases ht : k = k'
        · subst ht
          obtain ⟨rfl, hl⟩ := e
          simp at h
          obtain ⟨rfl, rfl⟩ := h
          exact ⟨xs, ys, hl, hx, hy, rfl⟩
        · rw [if_neg ht] at h; exact mgL_look h
      · exact mgL_look h
    · exact mgL_look h
theorem mgO_look {b : Bool} {O1 O2 : List (Nat × Ow)} {k : Nat} {o : Ow} : ∀ {ks : List Nat}, klook k (mgO b O1 O2 ks) = some o → ∃ o1 o2, o1.e = o2.e ∧ o1.k = o2.k ∧ klook k O1 = some o1 ∧ klook k O2 = some o2 ∧ o = ⟨o1.e, o1.k, bif b then o1.n else o2.n, bif b then o1.x else o2.x, fun i => bif b then o1.row i else o2.row i⟩
  | [], h => by simp [mgO, klook] at h
  | k' :: r, h => by
    simp only [mgO] at h
    split at h
    · rename_i o1 o2 h1 h2
      split at h
      · rename_i e
        simp only [klook] at h
        by_cases ht : k = k'
        · subst ht
          simp at h; subst h
          exact ⟨o1, o2, e.1, e.2, h1, h2, rfl⟩
        · rw [if_neg ht] at h; exact mgO_look h
      · exact mgO_look h
    · exact mgO_look h
theorem mgF_waits {b : Bool} {E : Env} {w : World} : ∀ {f f' : List (Act × List (Nat × SV))}, sameF f f' → Waits E (bif b then f else f') w → Waits E (mgF b f f') w
  | [], [], _, h => by simp [mgF]; intro p hp; cases hp
  | (a, S) :: r, (a', S') :: r', hs, h => by
    obtain ⟨rfl, hs⟩ := hs
    intro p hp t sv ht
    simp only [mgF, List.mem_cons] at hp
    rcases hp with rfl | hp
    · obtain ⟨x, y, h1, h2, rfl⟩ := mgS_look ht
      cases b
      · obtain ⟨v, h3, h4⟩ := h (a, S') (by simp) t y h2
        exact ⟨v, h3, mgSV_den (by simpa using h4)⟩
      · obtain ⟨v, h3, h4⟩ := h (a, S) (by simp) t x h1
        exact ⟨v, h3, mgSV_den (by simpa using h4)⟩
    · refine mgF_waits hs (fun p hp => ?_) p hp t sv ht
      cases b
      · exact h p (by simp at hp ⊢; exact .inr hp)
      · exact h p (by simp at hp ⊢; exact .inr hp)
  | [], _ :: _, hs, _ => hs.elim
  | _ :: _, [], hs, _ => hs.elim
theorem Sat.mg {C : Ctx} {b : Bool} {ts : List Nat} {s1 s2 : Stt} {a : Act} {w : World} (hN : s1.N = s2.N) (hdf : s1.df = s2.df) (hF : sameF s1.fz s2.fz) (hP : s1.pin = s2.pin) (h : Sat C (bif b then s1 else s2).sy a w) : Sat C (mgSt b ts s1 s2).sy a w := by
  obtain ⟨E, hE⟩ := h
  have kS : ∀ {t x y}, klook t s1.S = some x → klook t s2.S = some y → (bif b then s1 else s2).sy.S t = some (bif b then x else y) := fun h1 h2 => by cases b; exact h2; exact h1
  have kL : ∀ {t x y}, klook t s1.L = some x → klook t s2.L = some y → (bif b then s1 else s2).sy.L t = some (bif b then x else y) := fun h1 h2 => by cases b; exact h2; exact h1
  have kO : ∀ {t x y}, klook t s1.O = some x → klook t s2.O = some y → (bif b then s1 else s2).sy.O t = some (bif b then x else y) := fun h1 h2 => by cases b; exact h2; exact h1
  refine ⟨E, ?_, ?_, fun t sv hs => ?_, ⟨hE.hp.bel, hE.hp.z, fun key T cs hk => ?_, fun key e hk => ?_, fun key key' e e' hk hk' heq => ?_, fun key e hk => ?_, fun key e g hk hg => ?_, fun key key' e e' g hk hk' hg hg' => ?_⟩, fun b' o hb => ?_, mgF_waits hF (by have := hE.waits; cases b <;> exact this)⟩
  · have := hE.sz; cases b
    · exact this.trans hN.symm
    · exact this
  · have := hE.df; cases b
    · exact this.trans hdf.symm
    · exact this
  · obtain ⟨x, y, h1, h2, rfl⟩ := mgS_look hs
    obtain ⟨v, h3, h4⟩ := hE.slots t _ (kS h1 h2)
    exact ⟨v, h3, mgSV_den h4⟩
  · obtain ⟨xs, ys, hl, h1, h2, rfl⟩ := mgL_look hk
    obtain ⟨vs, h3, h4⟩ := hE.hp.loc key T (bif b then xs else ys) (by rw [kL h1 h2]; cases b <;> rfl)
    exact ⟨vs, h3, mgSVs_den hl h4⟩
  · obtain ⟨T, cs⟩ := e
    obtain ⟨xs, ys, hl, h1, h2, rfl⟩ := mgL_look hk
    exact hE.hp.locN key _ (kL h1 h2)
  · obtain ⟨T, cs⟩ := e
    obtain ⟨T', cs'⟩ := e'
    obtain ⟨xs, ys, hl, h1, h2, _⟩ := mgL_look hk
    obtain ⟨xs', ys', hl', h1', h2', _⟩ := mgL_look hk'
    exact hE.hp.locD key key' _ _ (kL h1 h2) (kL h1' h2') heq
  · obtain ⟨o1, o2, he, hkk, h1, h2, rfl⟩ := mgO_look hk
    have := hE.hp.own key _ (kO h1 h2)
    cases b
    · obtain ⟨e1, k1, n1, x1, r1⟩ := o1
      obtain ⟨e2, k2, n2, x2, r2⟩ := o2
      simp only at he hkk
      subst he; subst hkk
      exact this
    · exact this
  · obtain ⟨o1, o2, he, hkk, h1, h2, _⟩ := mgO_look hk
    have h3 := hE.hp.ownN key _ g (kO h1 h2) hg
    refine ⟨h3.1, h3.2.1, fun key' e' hk' => ?_⟩
    obtain ⟨T, cs⟩ := e'
    obtain ⟨xs, ys, hl, h4, h5, _⟩ := mgL_look hk'
    exact h3.2.2 key' _ (kL h4 h5)
  · obtain ⟨o1, o2, _, _, h1, h2, _⟩ := mgO_look hk
    obtain ⟨o1', o2', _, _, h1', h2', _⟩ := mgO_look hk'
    exact hE.hp.ownD key key' _ _ g (kO h1 h2) (kO h1' h2') hg hg'
  · have hpb : (b', o) ∈ (bif b then s1 else s2).sy.pin := by
      cases b
      · rw [show (bif false then s1 else s2).sy.pin = s1.pin from hP.symm]; exact hb
      · exact hb
    obtain ⟨p1, p2, p3, p4, p5⟩ := hE.pins b' o hpb
    refine ⟨p1, p2, p3, fun key e he => ?_, fun key e he => ?_⟩
    · obtain ⟨T, cs⟩ := e
      obtain ⟨xs, ys, hl, h4, h5, _⟩ := mgL_look he
      exact p4 key _ (kL h4 h5)
    · obtain ⟨o1, o2, _, _, h1, h2, _⟩ := mgO_look he
      have h3 := p5 key _ (kO h1 h2)
      cases b <;> exact h3
/-- both ways of an if come together again: ts are the slots that are read later -/
theorem Exec.join {R : Rn} {k : List Item} (ts : List Nat) {c : Operand} {x y : Code} {t : Bool} {s s1 s2 : Stt} (hc : evalO s.sy.S c = some (.d (.v (.bool t)))) (hN : s1.N = s2.N) (hdf : s1.df = s2.df) (hF : sameF s1.fz s2.fz) (hP : s1.pin = s2.pin)
    (hx : t = true → Exec R k s1.sy → Exec R (.code x :: k) s.sy) (hy : t = false → Exec R k s2.sy → Exec R (.code y :: k) s.sy) (h : Exec R k (mgSt t ts s1 s2).sy) : Exec R (.code (.cond c x y) :: k) s.sy := by
  refine Exec.cond_split hc (fun ht => hx ht fun a w hs => h a w (Sat.mg hN hdf hF hP ?_)) (fun ht => hy ht fun a w hs => h a w (Sat.mg hN hdf hF hP ?_))
  · subst ht; exact hs
  · subst ht; exact hs
end Go.Kin
