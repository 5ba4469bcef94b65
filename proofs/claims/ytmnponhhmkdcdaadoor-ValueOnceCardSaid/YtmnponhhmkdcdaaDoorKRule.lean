/- Calls inside a region, and states that say less. -/
import Derived.Test.YtmnponhhmkdcdaaDoorKDrawL
namespace Go.Kin
open Go.RowKit

/-! ### a state that says less -/
def LeXv (x : Value) : D → Prop
  | .v y => x = y
  | .sl _ n ex _ => x = .slice none 0 0 ∧ n = 0 ∧ ex = 0
  | _ => False
mutual
/-- one datum says what the other does: what is to be shown -/
def LeX : D → D → Prop
  | .v x, d => LeXv x d
  | .sl k n x row, .sl k' n' x' row' => n = n' ∧ (x = x' ∨ (n' ≤ x' ∧ x' ≤ x)) ∧ ((k = k' ∧ ∀ i, i < x' → row i = row' i) ∨ x' = 0)
  | .ptr cs, .ptr cs' => cs = cs'
  | .fn f cs, .fn f' cs' => f = f' ∧ LeXs cs cs'
  | .ag cs, .ag cs' => LeXs cs cs'
  | .tup cs, .tup cs' => LeXs cs cs'
  | .ifc t d, .ifc t' d' => t = t' ∧ LeX d d'
  | _, _ => False
def LeXs : List D → List D → Prop
  | [], [] => True
  | d :: ds, d' :: ds' => LeX d d' ∧ LeXs ds ds'
  | _, _ => False
end
mutual
theorem LeX.le : ∀ {d d' : D}, LeX d d' → LeD d d'
  | .v x, d', h => by
    simp only [LeX] at h
    cases d' with
    | v y => simp only [LeXv] at h; subst h; exact LeD.refl _
    | sl k n ex row => simp only [LeXv] at h; obtain ⟨rfl, rfl, rfl⟩ := h; exact LeD.nil _ _
    | ptr _ => simp [LeXv] at h
    | fn _ _ => simp [LeXv] at h
    | ag _ => simp [LeXv] at h
    | tup _ => simp [LeXv] at h
    | ifc _ _ => simp [LeXv] at h
  | .sl k n x row, .sl k' n' x' row', h => by
    simp only [LeX] at h
    obtain ⟨rfl, h1, h2⟩ := h
    intro w Z v hv
    have hv0 := hv
    simp only [RdV] at hv
    obtain ⟨a, c, e1, e2, e3, e4, e5⟩ := hv
    have hnx : n ≤ x' := by rcases h1 with h1 | h1 <;> omega
    have hxx : x' ≤ x := by rcases h1 with h1 | h1 <;> omega
    rcases h2 with ⟨rfl, h2⟩ | h2
    · exact LeD.slice hnx hxx h2 w Z v hv0
    · simp only [RdV]; exact ⟨a, c, e1, hnx, by omega, by omega, .inl h2⟩
  | .ptr cs, .ptr cs', h => by simp only [LeX] at h; subst h; exact LeD.refl _
  | .fn f cs, .fn f' cs', h => by
    simp only [LeX] at h
    obtain ⟨rfl, h⟩ := h
    intro w Z v hv
    simp only [RdV] at hv ⊢
    obtain ⟨vs, h1, h2⟩ := hv
    exact ⟨vs, h1, (LeXs.le h).rd h2⟩
  | .ag cs, .ag cs', h => by simp only [LeX] at h; exact LeD.ag (LeXs.le h)
  | .tup cs, .tup cs', h => by simp only [LeX] at h; exact LeD.tup (LeXs.le h)
  | .ifc t d, .ifc t' d', h => by
    simp only [LeX] at h
    obtain ⟨rfl, h⟩ := h
    intro w Z v hv
    simp only [RdV] at hv ⊢
    obtain ⟨v', h1, h2⟩ := hv
    exact ⟨v', h1, LeX.le h _ _ _ h2⟩
  | .sl _ _ _ _, .v _, h => by simp [LeX] at h
  | .sl _ _ _ _, .ptr _, h => by simp [LeX] at h
  | .sl _ _ _ _, .fn _ _, h => by simp [LeX] at h
  | .sl _ _ _ _, .ag _, h => by simp [LeX] at h
  | .sl _ _ _ _, .tup _, h => by simp [LeX] at h
  | .sl _ _ _ _, .ifc _ _, h => by simp [LeX] at h
  | .ptr _, .v _, h => by simp [LeX] at h
  | .ptr _, .sl _ _ _ _, h => by simp [LeX] at h
  | .ptr _, .fn _ _, h => by simp [LeX] at h
  | .ptr _, .ag _, h => by simp [LeX] at h
  | .ptr _, .tup _, h => by simp [LeX] at h
  | .ptr _, .ifc _ _, h => by simp [LeX] at h
  | .fn _ _, .v _, h => by simp [LeX] at h
  | .fn _ _, .sl _ _ _ _, h => by simp [LeX] at h
  | .fn _ _, .ptr _, h => by simp [LeX] at h
  | .fn _ _, .ag _, h => by simp [LeX] at h
  | .fn _ _, .tup _, h => by simp [LeX] at h
  | .fn _ _, .ifc _ _, h => by simp [LeX] at h
  | .ag _, .v _, h => by simp [LeX] at h
  | .ag _, .sl _ _ _ _, h => by simp [LeX] at h
  | .ag _, .ptr _, h => by simp [LeX] at h
  | .ag _, .fn _ _, h => by simp [LeX] at h
  | .ag _, .tup _, h => by simp [LeX] at h
  | .ag _, .ifc _ _, h => by simp [LeX] at h
  | .tup _, .v _, h => by simp [LeX] at h
  | .tup _, .sl _ _ _ _, h => by simp [LeX] at h
  | .tup _, .ptr _, h => by simp [LeX] at h
  | .tup _, .fn _ _, h => by simp [LeX] at h
  | .tup _, .ag _, h => by simp [LeX] at h
  | .tup _, .ifc _ _, h => by simp [LeX] at h
  | .ifc _ _, .v _, h => by simp [LeX] at h
  | .ifc _ _, .sl _ _ _ _, h => by simp [LeX] at h
  | .ifc _ _, .ptr _, h => by simp [LeX] at h
  | .ifc _ _, .fn _ _, h => by simp [LeX] at h
  | .ifc _ _, .ag _, h => by simp [LeX] at h
  | .ifc _ _, .tup _, h => by simp [LeX] at h
theorem LeXs.le : ∀ {ds ds' : List D}, LeXs ds ds' → LeDs ds ds'
  | [], [], _ => trivial
  | d :: ds, d' :: ds', h => by simp only [LeXs] at h; exact ⟨LeX.le h.1, LeXs.le h.2⟩
  | [], _ :: _, h => by simp [LeXs] at h
  | _ :: _, [], h => by simp [LeXs] at h
end

def LeSV : SV → SV → Prop
  | _, .junk => True
  | .d x, .d y => LeX x y
  | .lp k o, .lp k' o' => k = k' ∧ o = o'
  | .own k, .own k' => k = k'
  | .oa a b c d, .oa a' b' c' d' => a = a' ∧ b = b' ∧ c = c' ∧ d = d'
  | .fn f cs, .fn f' cs' => f = f' ∧ cs = cs'
  | _, _ => False
def LeSVs : List SV → List SV → Prop
  | [], [] => True
  | x :: xs, y :: ys => LeSV x y ∧ LeSVs xs ys
  | _, _ => False

theorem LeSV.den {E : Env} {w : World} {x y : SV} {v : Value} (h : LeSV x y) (hv : DenV E w x v) : DenV E w y v := by
  unfold LeSV at h
  split at h
  · simp only [DenV]
  · simp only [DenV] at hv ⊢; exact h.le _ _ _ hv
  · obtain ⟨rfl, rfl⟩ := h; exact hv
  · subst h; exact hv
  · obtain ⟨rfl, rfl, rfl, rfl⟩ := h; exact hv
  · obtain ⟨rfl, rfl⟩ := h; exact hv
  · exact h.elim
theorem LeSVs.den {E : Env} {w : World} : ∀ {xs ys : List SV} {vs : List Value}, LeSVs xs ys → DenL E w xs vs → DenL E w ys vs
  | [], [], _, _, h => by simpa [DenL] using h
  | x :: xs, y :: ys, vs, hle, h => by
    simp only [DenL] at h ⊢
    obtain ⟨v, vs', rfl, h1, h2⟩ := h
    exact ⟨v, vs', rfl, hle.1.den h1, hle.2.den h2⟩
  | [], _ :: _, _, hle, _ => hle.elim
  | _ :: _, [], _, hle, _ => hle.elim

def LeOw (o o' : Ow) : Prop := o.e = o'.e ∧ o.k = o'.k ∧ o.n = o'.n ∧ (o.x = o'.x ∨ (o'.n ≤ o'.x ∧ o'.x ≤ o.x)) ∧ ∀ i, i < o'.x → o.row i = o'.row i

def LeS (S : List (Nat × SV)) : List (Nat × SV) → Prop
  | [] => True
  | (t, y) :: r => (match klook t S with | some x => LeSV x y | none => False) ∧ LeS S r
def LeL (L : List (Nat × TypeId × List SV)) : List (Nat × TypeId × List SV) → Prop
  | [] => True
  | (k, T, ys) :: r => (match klook k L with | some (T', xs) => T' = T ∧ LeSVs xs ys | none => False) ∧ LeL L r
def LeO (O : List (Nat × Ow)) : List (Nat × Ow) → Prop
  | [] => True
  | (k, e) :: r => (match klook k O with | some e' => LeOw e' e | none => False) ∧ LeO O r

theorem LeS_look {S : List (Nat × SV)} : ∀ {l : List (Nat × SV)}, LeS S l → ∀ {t : Nat} {y : SV}, klook t l = some y → ∃ x, klook t S = some x ∧ LeSV x y
  | [], _, t, y, h => by simp [klook] at h
  | (t', y') :: r, hl, t, y, h => by
    simp only [klook] at h
    by_cases ht : t = t'
    · subst ht
      simp at h; subst h
      have := hl.1
      split at this
      · rename_i x hx; exact ⟨x, hx, this⟩
      · exact this.elim
    · rw [if_neg ht] at h; exact LeS_look hl.2 h
theorem LeL_look {L : List (Nat × TypeId × List SV)} : ∀ {l : List (Nat × TypeId × List SV)}, LeL L l → ∀ {k : Nat} {T : TypeId} {ys : List SV}, klook k l = some (T, ys) → ∃ xs, klook k L = some (T, xs) ∧ LeSVs xs ys
  | [], _, t, y, _, h => by simp [klook] at h
  | (t', T', y') :: r, hl, t, T, y, h => by
    simp only [klook] at h
    by_cases ht : t = t'
    · subst ht
      simp at h
      obtain ⟨rfl, rfl⟩ := h
      have := hl.1
      split at this
      · rename_i T'' xs hx; obtain ⟨rfl, h2⟩ := this; exact ⟨xs, hx, h2⟩
      · exact this.elim
    · rw [if_neg ht] at h; exact LeL_look hl.2 h
theorem LeO_look {O : List (Nat × Ow)} : ∀ {l : List (Nat × Ow)}, LeO O l → ∀ {k : Nat} {e : Ow}, klook k l = some e → ∃ e', klook k O = some e' ∧ LeOw e' e
  | [], _, t, y, h => by simp [klook] at h
  | (t', y') :: r, hl, t, y, h => by
    simp only [klook] at h
    by_cases ht : t = t'
    · subst ht
      simp at h; subst h
      have := hl.1
      split at this
      · rename_i x hx; exact ⟨x, hx, this⟩
      · exact this.elim
    · rw [if_neg ht] at h; exact LeO_look hl.2 h

theorem OwnE.le {E : Env} {w : World} {key : Nat} {o o' : Ow} (h : LeOw o o') (hw : OwnE E w key o) : OwnE E w key o' := by
  obtain ⟨he, hk, hn, hx, hr⟩ := h
  obtain ⟨⟨h1, h2, h3⟩, h4⟩ := hw
  have hxx : o'.x ≤ o.x := by rcases hx with hx | hx <;> omega
  have hnx : o'.n ≤ o'.x := by rcases hx with hx | hx <;> omega
  refine ⟨⟨fun i hi => by rw [← hr i hi, ← hk]; exact h1 i (by omega), hnx, by omega⟩, ?_⟩
  rcases h4 with ⟨h4, h5⟩ | ⟨g, cap, vs, h4, h5, h6, h7, h8, h9⟩
  · exact .inl ⟨h4, by omega⟩
  · exact .inr ⟨g, cap, vs, by rw [h4, hn], by omega, h6, by rw [← he]; exact h7, by rw [← hk]; exact h8, fun i hi => by rw [← hr i hi, ← hk]; exact h9 i (by omega)⟩

def LeF : List (Act × List (Nat × SV)) → List (Act × List (Nat × SV)) → Prop
  | [], [] => True
  | (a, S) :: r, (a', S') :: r' => a = a' ∧ LeS S S' ∧ LeF r r'
  | _, _ => False
theorem LeF.waits {E : Env} {w : World} : ∀ {f f' : List (Act × List (Nat × SV))}, LeF f f' → Waits E f w → Waits E f' w
  | [], [], _, h => h
  | (a, S) :: r, (a', S') :: r', hl, h => by
    obtain ⟨rfl, h1, h2⟩ := hl
    intro p hp t sv ht
    rcases List.mem_cons.1 hp with rfl | hp
    · obtain ⟨x, h3, h4⟩ := LeS_look h1 ht
      obtain ⟨v, h5, h6⟩ := h (a, S) (by simp) t x h3
      exact ⟨v, h5, h4.den h6⟩
    · exact LeF.waits h2 (fun p hp => h p (by simp [hp])) p hp t sv ht
  | [], _ :: _, hl, _ => hl.elim
  | _ :: _, [], hl, _ => hl.elim

theorem Sat.weak {C : Ctx} {s s' : Stt} {a : Act} {w : World} (hN : s.N = s'.N) (hdf : s.df = s'.df) (hS : LeS s.S s'.S) (hL : LeL s.L s'.L) (hO : LeO s.O s'.O) (hF : LeF s.fz s'.fz) (hP : s.pin = s'.pin) (h : Sat C s.sy a w) : Sat C s'.sy a w := by
  obtain ⟨E, hE⟩ := h
  refine ⟨E, hE.sz.trans hN, hE.df.trans hdf, fun t sv hs => ?_, ⟨hE.hp.bel, hE.hp.z, fun key T cs hk => ?_, fun key e hk => ?_, fun key key' e e' hk hk' heq => ?_, fun key e hk => ?_, fun key e g hk hg => ?_, fun key key' e e' g hk hk' hg hg' => ?_⟩, fun b o hb => ?_, hF.waits hE.waits⟩
  · obtain ⟨x, h1, h2⟩ := LeS_look hS hs
    obtain ⟨v, h3, h4⟩ := hE.slots t x h1
    exact ⟨v, h3, h2.den h4⟩
  · obtain ⟨xs, h1, h2⟩ := LeL_look hL hk
    obtain ⟨vs, h3, h4⟩ := hE.hp.loc key T xs h1
    exact ⟨vs, h3, h2.den h4⟩
  · obtain ⟨T, ys⟩ := e
    obtain ⟨xs, h1, h2⟩ := LeL_look hL hk
    exact hE.hp.locN key _ h1
  · obtain ⟨T, ys⟩ := e
    obtain ⟨T', ys'⟩ := e'
    obtain ⟨xs, h1, _⟩ := LeL_look hL hk
    obtain ⟨xs', h1', _⟩ := LeL_look hL hk'
    exact hE.hp.locD key key' _ _ h1 h1' heq
  · obtain ⟨e', h1, h2⟩ := LeO_look hO hk
    exact (hE.hp.own key e' h1).le h2
  · obtain ⟨e', h1, h2⟩ := LeO_look hO hk
    have h2 := hE.hp.ownN key e' g h1 hg
    refine ⟨h2.1, h2.2.1, fun key' e' hk' => ?_⟩
    obtain ⟨T, ys⟩ := e'
    obtain ⟨xs, h3, _⟩ := LeL_look hL hk'
    exact h2.2.2 key' _ h3
  · obtain ⟨e1, h1, _⟩ := LeO_look hO hk
    obtain ⟨e2, h2, _⟩ := LeO_look hO hk'
    exact hE.hp.ownD key key' e1 e2 g h1 h2 hg hg'
  · rw [show s'.sy.pin = s.sy.pin from hP.symm] at hb
    obtain ⟨p1, p2, p3, p4, p5⟩ := hE.pins b o hb
    refine ⟨p1, p2, p3, fun key e he => ?_, fun key e he => ?_⟩
    · obtain ⟨T, ys⟩ := e
      obtain ⟨xs, h3, _⟩ := LeL_look hL he
      exact p4 key _ h3
    · obtain ⟨e1, h1, _⟩ := LeO_look hO he
      exact p5 key e1 h1

/-- the second state says less than the first -/
theorem Exec.weak {R : Rn} {k : List Item} {s : Stt} (s' : Stt) (hN : s.N = s'.N) (hdf : s.df = s'.df) (hS : LeS s.S s'.S) (hL : LeL s.L s'.L) (hO : LeO s.O s'.O) (hF : LeF s.fz s'.fz) (hP : s.pin = s'.pin) (h : Exec R k s'.sy) : Exec R k s.sy :=
  fun a w hs => h a w (hs.weak hN hdf hS hL hO hF hP)

/-! ### a slice of the function's own is read alone from now on -/
mutual
def frzSV (key : Nat) (d : D) : SV → SV
  | .own k => if k = key then .d d else .own k
  | .oa k a b c => if k = key then .junk else .oa k a b c
  | .fn f caps => .fn f (frzL key d caps)
  | .op p sv => .op p (frzSV key d sv)
  | sv => sv
def frzL (key : Nat) (d : D) : List SV → List SV
  | [] => []
  | sv :: r => frzSV key d sv :: frzL key d r
end
def frzS (key : Nat) (d : D) : List (Nat × SV) → List (Nat × SV)
  | [] => []
  | (t, sv) :: r => (t, frzSV key d sv) :: frzS key d r
def frzLL (key : Nat) (d : D) : List (Nat × TypeId × List SV) → List (Nat × TypeId × List SV)
  | [] => []
  | (t, T, svs) :: r => (t, T, frzL key d svs) :: frzLL key d r
theorem frzS_look {key : Nat} {d : D} (t : Nat) : ∀ (l : List (Nat × SV)), klook t (frzS key d l) = (klook t l).map (frzSV key d)
  | [] => rfl
  | (t', sv) :: r => by simp only [frzS, klook]; by_cases h : t = t' <;> simp [h, frzS_look t r]
theorem frzLL_look {key : Nat} {d : D} (t : Nat) : ∀ (l : List (Nat × TypeId × List SV)), klook t (frzLL key d l) = (klook t l).map fun x => (x.1, frzL key d x.2)
  | [] => rfl
  | (t', T, sv) :: r => by simp only [frzLL, klook]; by_cases h : t = t' <;> simp [h, frzLL_look t r]
mutual
theorem frzSV_den {E E' : Env} {w : World} {key : Nat} {d : D} (hk : Keeps w E.Z w E'.Z) (hβ : E'.β = E.β) (hω : E'.ω = E.ω) (hd : RdV w E'.Z d (E.ω key)) : ∀ {sv : SV} {v : Value}, DenV E w sv v → DenV E' w (frzSV key d sv) v
  | .own k, v, h => by
    simp only [frzSV]
    split
    · rename_i e; subst e; simp only [DenV] at h ⊢; rw [h]; exact hd
    · simp only [DenV] at h ⊢; rw [hω]; exact h
  | .oa k a b c, v, h => by
    simp only [frzSV]
    split
    · simp [DenV]
    · simp only [DenV] at h ⊢; rw [hω]; exact h
  | .fn f caps, v, h => by
    simp only [frzSV, DenV] at h ⊢
    obtain ⟨vs, h1, h2⟩ := h
    exact ⟨vs, h1, frzL_den hk hβ hω hd h2⟩
  | .op p sv, v, h => by simp only [frzSV, DenV] at h ⊢; exact ⟨fun hp => frzSV_den hk hβ hω hd (h.1 hp), h.2⟩
  | .d x, v, h => by simp only [frzSV, DenV] at h ⊢; exact h.mono hk
  | .lp k o, v, h => by simp only [frzSV, DenV] at h ⊢; rw [hβ]; exact h
  | .junk, v, h => by simp [frzSV, DenV]
theorem frzL_den {E E' : Env} {w : World} {key : Nat} {d : D} (hk : Keeps w E.Z w E'.Z) (hβ : E'.β = E.β) (hω : E'.ω = E.ω) (hd : RdV w E'.Z d (E.ω key)) : ∀ {svs : List SV} {vs : List Value}, DenL E w svs vs → DenL E' w (frzL key d svs) vs
  | [], vs, h => by simpa [frzL, DenL] using h
  | sv :: r, vs, h => by
    simp only [frzL, DenL] at h ⊢
    obtain ⟨v, vs', e, h1, h2⟩ := h
    exact ⟨v, vs', e, frzSV_den hk hβ hω hd h1, frzL_den hk hβ hω hd h2⟩
end
def frzF (key : Nat) (d : D) : List (Act × List (Nat × SV)) → List (Act × List (Nat × SV))
  | [] => []
  | (a, S) :: r => (a, frzS key d S) :: frzF key d r
theorem mem_frzF {key : Nat} {d : D} {p : Act × List (Nat × SV)} : ∀ {fz : List (Act × List (Nat × SV))}, p ∈ frzF key d fz → ∃ S, (p.1, S) ∈ fz ∧ p.2 = frzS key d S
  | [], h => by simp [frzF] at h
  | (a, S) :: r, h => by
    simp only [frzF, List.mem_cons] at h
    rcases h with rfl | h
    · exact ⟨S, by simp, rfl⟩
    · obtain ⟨S', h1, h2⟩ := mem_frzF h; exact ⟨S', by simp [h1], h2⟩
def frzSt (key : Nat) (ow : Ow) (s : Stt) : Stt := ⟨s.N, s.df, frzS key (.sl ow.k ow.n ow.x ow.row) s.S, frzLL key (.sl ow.k ow.n ow.x ow.row) s.L, delK key s.O, frzF key (.sl ow.k ow.n ow.x ow.row) s.fz, s.pin⟩

theorem Sat.freeze {C : Ctx} {s : Stt} (key : Nat) {ow : Ow} (hO : klook key s.O = some ow) {a : Act} {w : World} (h : Sat C s.sy a w) : Sat C (frzSt key ow s).sy a w := by
  obtain ⟨E, hE⟩ := h
  refine ⟨{ E with Z := fun b => E.Z b ∨ (E.ω key).ownBlock = some b }, ?_⟩
  have hk0 : Keeps w E.Z w (fun b => E.Z b ∨ (E.ω key).ownBlock = some b) := ⟨fun _ h => .inl h, fun _ _ => rfl⟩
  have hd : RdV w (fun b => E.Z b ∨ (E.ω key).ownBlock = some b) (.sl ow.k ow.n ow.x ow.row) (E.ω key) := by
    obtain ⟨⟨h0, h0', h0''⟩, h1⟩ := hE.hp.own key ow hO
    simp only [RdV]
    rcases h1 with ⟨h1, h2⟩ | ⟨g, cap, vs, h1, h2, h3, h4, h5, h6⟩
    · exact ⟨none, 0, by rw [h1]; congr 1; omega, h0', by omega, h0'', .inl h2⟩
    · refine ⟨some ⟨g, 0, none⟩, cap, h1, h0', h2, h0'', .inr ⟨g, 0, rfl, .inr (by rw [h1]; rfl), fun i hi => ⟨(h0 i hi).1, (h0 i hi).2, ?_⟩⟩⟩
      refine RdC_of_vals ((h6 i hi).mono hk0) fun j hj => ?_
      have hjk : j < ow.k := by rw [← (h0 i hi).1]; exact hj
      rw [List.getElem?_take_of_lt hjk, List.getElem?_drop]
      simp [World.cell?, h4]
  have hOO : ∀ key' o, klook key' (delK key s.O) = some o → key' ≠ key ∧ klook key' s.O = some o := fun key' o hk => by
    rw [look_delK] at hk
    by_cases e : key' = key
    · simp [e] at hk
    · rw [if_neg e] at hk; exact ⟨e, hk⟩
  have hLL : ∀ key' T cs, klook key' (frzLL key (.sl ow.k ow.n ow.x ow.row) s.L) = some (T, cs) → ∃ cs0, klook key' s.L = some (T, cs0) ∧ cs = frzL key (.sl ow.k ow.n ow.x ow.row) cs0 := fun key' T cs hk => by
    rw [frzLL_look] at hk
    cases hx : klook key' s.L with
    | none => simp [hx] at hk
    | some x => obtain ⟨T', cs'⟩ := x; simp [hx] at hk; obtain ⟨rfl, rfl⟩ := hk; exact ⟨cs', rfl, rfl⟩
  refine ⟨hE.sz, hE.df, fun t sv hs => ?_, ⟨hE.hp.bel, fun b hb => ?_, fun key' T cs hk => ?_, fun key' e hk => ?_, fun key1 key2 e1 e2 hk hk' heq => ?_, fun key' o hk => ?_, fun key' e g hk hg => ?_, fun key1 key2 e1 e2 g hk hk' hg hg' => ?_⟩, fun b o hb => ?_, fun p hp t sv ht => ?_⟩
  · simp only [Stt.sy, frzSt, frzS_look] at hs
    cases hx : klook t s.S with
    | none => simp [hx] at hs
    | some sv0 =>
      simp [hx] at hs; subst hs
      obtain ⟨v, h1, h2⟩ := hE.slots t sv0 hx
      exact ⟨v, h1, frzSV_den (E' := { E with Z := fun b => E.Z b ∨ (E.ω key).ownBlock = some b }) hk0 rfl rfl hd h2⟩
  · rcases hb with hb | hb
    · exact hE.hp.z b hb
    · have h1 := hE.hp.ownN key ow b hO hb
      have h2 := hE.hp.ltO hO hb
      exact ⟨h2, fun hlt => by omega, .inr h1.1⟩
  · obtain ⟨cs0, h1, rfl⟩ := hLL _ _ _ hk
    obtain ⟨vs, h2, h3⟩ := hE.hp.loc key' T cs0 h1
    exact ⟨vs, h2, frzL_den (E' := { E with Z := fun b => E.Z b ∨ (E.ω key).ownBlock = some b }) hk0 rfl rfl hd h3⟩
  · obtain ⟨T, cs⟩ := e
    obtain ⟨cs0, h1, _⟩ := hLL _ _ _ hk
    have h2 := hE.hp.locN key' _ h1
    refine ⟨h2.1, fun hz => ?_⟩
    rcases hz with hz | hz
    · exact h2.2 hz
    · exact (hE.hp.ownN key ow _ hO hz).2.2 key' _ h1 rfl
  · obtain ⟨T, cs⟩ := e1
    obtain ⟨T', cs'⟩ := e2
    obtain ⟨c1, h1, _⟩ := hLL _ _ _ hk
    obtain ⟨c2, h2, _⟩ := hLL _ _ _ hk'
    exact hE.hp.locD key1 key2 _ _ h1 h2 heq
  · obtain ⟨hne, h1⟩ := hOO _ _ hk
    obtain ⟨h2, h3⟩ := hE.hp.own key' o h1
    refine ⟨h2, h3.imp id ?_⟩
    rintro ⟨g, cap, vs, q1, q2, q3, q4, q5, q6⟩
    exact ⟨g, cap, vs, q1, q2, q3, q4, q5, fun i hi => (q6 i hi).mono hk0⟩
  · obtain ⟨hne, h1⟩ := hOO _ _ hk
    have h2 := hE.hp.ownN key' e g h1 hg
    refine ⟨h2.1, fun hz => ?_, fun key1 e' hk' => ?_⟩
    · rcases hz with hz | hz
      · exact h2.2.1 hz
      · exact hne (hE.hp.ownD key' key _ _ g h1 hO hg hz)
    · obtain ⟨T, cs⟩ := e'
      obtain ⟨c1, h3, _⟩ := hLL _ _ _ hk'
      exact h2.2.2 key1 _ h3
  · obtain ⟨_, h1⟩ := hOO _ _ hk
    obtain ⟨_, h2⟩ := hOO _ _ hk'
    exact hE.hp.ownD key1 key2 _ _ g h1 h2 hg hg'
  · obtain ⟨p1, p2, p3, p4, p5⟩ := hE.pins b o hb
    refine ⟨p1, p2, fun hz => ?_, fun key1 e he => ?_, fun key1 e he => ?_⟩
    · rcases hz with hz | hz
      · exact p3 hz
      · exact p5 key ow hO hz
    · obtain ⟨T, cs⟩ := e
      obtain ⟨c1, h3, _⟩ := hLL _ _ _ he
      exact p4 key1 _ h3
    · exact p5 key1 e (hOO _ _ he).2
  · obtain ⟨S, h1, h2⟩ := mem_frzF hp
    rw [h2, frzS_look] at ht
    cases hx : klook t S with
    | none => simp [hx] at ht
    | some x =>
      simp [hx] at ht; subst ht
      obtain ⟨v, h3, h4⟩ := hE.waits _ h1 t x hx
      exact ⟨v, h3, frzSV_den (E' := { E with Z := fun b => E.Z b ∨ (E.ω key).ownBlock = some b }) hk0 rfl rfl hd h4⟩

theorem Exec.freeze {R : Rn} {k : List Item} {s : Stt} (key : Nat) {ow : Ow} (hO : klook key s.O = some ow) (h : Exec R k (frzSt key ow s).sy) : Exec R k s.sy := fun a w hs => h a w (hs.freeze key hO)
/-- in a region, ahead of an operation: a slice of the function's own is read alone from now on -/
theorem kfreeze {P : Program} {C : Ctx} {ops : Array Oper} {i : Nat} {ds : List (Option Tmp)} {o : Oper} {r : List Oper} {st st' : Stt} {Q : Sy → Prop} (key : Nat) {ow : Ow} (hO : klook key st.O = some ow) (hs : frzSt key ow st = st')
    (h : WalkI P C ops i ds (o :: r) st'.sy Q) : WalkI P C ops i ds (o :: r) st.sy Q := fun hi hl => by
  subst hs
  obtain ⟨s', h1, h2⟩ := h hi hl
  exact ⟨s', fun a w hs => h1 a w (hs.freeze key hO), h2⟩

/-- what is there for sure is there -/
def un1 : SV → SV
  | .op p sv => bif p then sv else .op p sv
  | sv => sv
def unS (ts : List Nat) : List (Nat × SV) → List (Nat × SV)
  | [] => []
  | (t, sv) :: r => (t, if ts.contains t = true then un1 sv else sv) :: unS ts r
theorem un1_den {E : Env} {w : World} {sv : SV} {v : Value} (h : DenV E w sv v) : DenV E w (un1 sv) v := by
  cases sv with
  | op p sv => cases p with
    | true => simp only [un1, cond_true]; simp only [DenV] at h; exact h.1 trivial
    | false => simpa only [un1, cond_false] using h
  | _ => exact h
theorem unS_look {ts : List Nat} {t : Nat} {y : SV} : ∀ {l : List (Nat × SV)}, klook t (unS ts l) = some y → ∃ x, klook t l = some x ∧ (y = x ∨ y = un1 x)
  | [], h => by simp [unS, klook] at h
  | (t', sv) :: r, h => by
    simp only [unS, klook] at h ⊢
    by_cases htt : t = t'
    · rw [if_pos htt] at h ⊢
      refine ⟨sv, rfl, ?_⟩
      split at h <;> cases h
      · exact .inr rfl
      · exact .inl rfl
    · rw [if_neg htt] at h ⊢
      exact unS_look h
theorem Sat.un {C : Ctx} {s : Stt} (ts : List Nat) {a : Act} {w : World} (h : Sat C s.sy a w) : Sat C (Stt.mk s.N s.df (unS ts s.S) s.L s.O s.fz s.pin).sy a w := by
  obtain ⟨E, hE⟩ := h
  refine ⟨E, hE.sz, hE.df, fun t sv hs => ?_, hE.hp, hE.pins, hE.waits⟩
  obtain ⟨x, h1, h2⟩ := unS_look hs
  obtain ⟨v, h3, h4⟩ := hE.slots t x h1
  rcases h2 with rfl | rfl
  · exact ⟨v, h3, h4⟩
  · exact ⟨v, h3, un1_den h4⟩
theorem kun {P : Program} {C : Ctx} {te : TE} (hte : TEok P te) {ops : Array Oper} {i : Nat} {ds : List (Option Tmp)} {o : Oper} {r : List Oper} {st st' : Stt} {Q : Sy → Prop} (ts : List Nat) (hs : Stt.mk st.N st.df (unS ts st.S) st.L st.O st.fz st.pin = st')
    (h : runL P C te ops i ds (o :: r) st' Q) : WalkI P C ops i ds (o :: r) st.sy Q := fun hi hl => by
  subst hs
  obtain ⟨s', h1, h2⟩ := runL_walk hte h hi hl
  exact ⟨s', fun a w hs => h1 a w (hs.un ts), h2⟩

/-- a nil slice may be taken as one of the function's own -/
theorem Exec.ownNil {R : Rn} {k : List Item} {s : Stt} (t key : Nat) (e : TypeId) (kk : Nat) (ht : klook t s.S = some (.d (.v (.slice none 0 0)))) (hkey : klook key s.O = none)
    (h : Exec R k (Stt.mk s.N s.df ((t, .own key) :: delK t (mapS [key] [] s.S)) (mapL [key] [] s.L) ((key, ⟨e, kk, 0, 0, nilRow⟩) :: s.O) (mapF [key] [] s.fz) s.pin).sy) : Exec R k s.sy := by
  intro a w ⟨E, hE⟩
  refine h a w ⟨{ E with ω := fun x => if x = key then .slice none 0 0 else E.ω x }, ?_⟩
  have hω : ∀ x, [key].contains x = false → (fun x => if x = key then Value.slice none 0 0 else E.ω x) x = E.ω x := fun x hx => by
    have : x ≠ key := by intro e; subst e; simp at hx
    simp [this]
  have hk0 : Keeps w E.Z w E.Z := ⟨fun _ h => h, fun _ _ => rfl⟩
  have hOe : ∀ x y, klook x ((key, (⟨e, kk, 0, 0, nilRow⟩ : Ow)) :: s.O) = some y → (x = key ∧ y = ⟨e, kk, 0, 0, nilRow⟩) ∨ (x ≠ key ∧ klook x s.O = some y) := fun x y hx => by
    simp only [klook] at hx
    by_cases hxk : x = key
    · simp [hxk] at hx; exact .inl ⟨hxk, hx.symm⟩
    · rw [if_neg hxk] at hx; exact .inr ⟨hxk, hx⟩
  refine ⟨hE.sz, hE.df, fun t' sv hs => ?_, ⟨hE.hp.bel, hE.hp.z, fun key' T cs hk => ?_, fun key' e' hk => ?_, fun key1 key2 e1 e2 hk hk' heq => ?_, fun key' o hk => ?_, fun key' e' g hk hg => ?_, fun key1 key2 e1 e2 g hk hk' hg hg' => ?_⟩, fun b o hb => ?_, fun p hp t' sv ht' => ?_⟩
  · simp only [Stt.sy, klook, look_delK, look_mapS] at hs
    by_cases htt : t' = t
    · subst htt
      simp at hs; subst hs
      obtain ⟨v, h1, h2⟩ := hE.slots t' _ ht
      refine ⟨v, h1, ?_⟩
      simp only [DenV, RdV] at h2 ⊢
      simp [h2]
    · simp only [htt, if_false] at hs
      cases hx : klook t' s.S with
      | none => simp [hx] at hs
      | some x =>
        simp [hx] at hs; subst hs
        obtain ⟨v, h1, h2⟩ := hE.slots t' _ hx
        exact ⟨v, h1, DenV.kill (E' := { E with ω := fun x => if x = key then .slice none 0 0 else E.ω x }) hk0 (fun _ _ => rfl) hω h2⟩
  · simp only [Stt.sy, look_mapL] at hk
    cases hx : klook key' s.L with
    | none => simp [hx, killE] at hk
    | some x =>
      obtain ⟨T', cs'⟩ := x
      simp [hx, killE] at hk
      obtain ⟨rfl, rfl⟩ := hk
      obtain ⟨vs, h1, h2⟩ := hE.hp.loc key' _ _ hx
      exact ⟨vs, h1, DenL.kill (E' := { E with ω := fun x => if x = key then .slice none 0 0 else E.ω x }) hk0 (fun _ _ => rfl) hω h2⟩
  · simp only [Stt.sy, look_mapL] at hk
    cases hx : klook key' s.L with
    | none => simp [hx, killE] at hk
    | some x => exact hE.hp.locN key' _ hx
  · simp only [Stt.sy, look_mapL] at hk hk'
    cases hx : klook key1 s.L with
    | none => simp [hx, killE] at hk
    | some x =>
      cases hy : klook key2 s.L with
      | none => simp [hy, killE] at hk'
      | some y => exact hE.hp.locD key1 key2 _ _ hx hy heq
  · rcases hOe _ _ hk with ⟨rfl, h1⟩ | ⟨hne, h1⟩
    · cases h1; exact ⟨⟨by simp, by simp, by simp⟩, .inl ⟨by simp, rfl⟩⟩
    · have := hE.hp.own key' o h1
      unfold OwnE at this ⊢
      simpa [hne] using this
  · rcases hOe _ _ hk with ⟨rfl, h1⟩ | ⟨hne, h1⟩
    · simp [Value.ownBlock] at hg
    · simp only [hne, if_false] at hg
      have h2 := hE.hp.ownN key' e' g h1 hg
      refine ⟨h2.1, h2.2.1, fun key1 e1 hk1 => ?_⟩
      simp only [Stt.sy, look_mapL] at hk1
      cases hx : klook key1 s.L with
      | none => simp [hx, killE] at hk1
      | some x => exact h2.2.2 key1 _ hx
  · rcases hOe _ _ hk with ⟨rfl, h1⟩ | ⟨hne, h1⟩
    · simp [Value.ownBlock] at hg
    · rcases hOe _ _ hk' with ⟨rfl, h2⟩ | ⟨hne', h2⟩
      · simp [Value.ownBlock] at hg'
      · simp only [hne, if_false] at hg; simp only [hne', if_false] at hg'
        exact hE.hp.ownD key1 key2 _ _ g h1 h2 hg hg'
  · obtain ⟨p1, p2, p3, p4, p5⟩ := hE.pins b o hb
    refine ⟨p1, p2, p3, fun key1 e1 he => ?_, fun key1 e1 he => ?_⟩
    · simp only [Stt.sy, look_mapL] at he
      cases hx : klook key1 s.L with
      | none => simp [hx, killE] at he
      | some x => exact p4 key1 _ hx
    · rcases hOe _ _ he with ⟨rfl, _⟩ | ⟨hne, h1⟩
      · simp [Value.ownBlock]
      · simp only [hne, if_false]; exact p5 key1 e1 h1
  · obtain ⟨S, h1, h2⟩ := mem_mapF hp
    rw [h2, look_mapS] at ht'
    cases hx : klook t' S with
    | none => simp [hx] at ht'
    | some x =>
      simp [hx] at ht'; subst ht'
      obtain ⟨v, h3, h4⟩ := hE.waits _ h1 t' x hx
      exact ⟨v, h3, DenV.kill (E' := { E with ω := fun x => if x = key then .slice none 0 0 else E.ω x }) hk0 (fun _ _ => rfl) hω h4⟩
end Go.Kin
