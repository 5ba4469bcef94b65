/- Two ways of an if, come together again. -/
import Derived.Test.YtmnponhhmkdcdaaDoorKRule
namespace Go.Kin
open Go.RowKit

/-! ### two states as one, by a truth that is not known -/
def mgV (b : Bool) : Value → Value → Option Value
  | .int k x, .int k' y => if k = k' then some (.int k (bif b then x else y)) else none
  | .bool x, .bool y => some (.bool (bif b then x else y))
  | .string x, .string y => some (.string (mkS (bif b then bytes x else bytes y)))
  | .slice none 0 0, .slice none 0 0 => some (.slice none 0 0)
  | .pointer none, .pointer none => some (.pointer none)
  | .nilIface, .nilIface => some .nilIface
  | .nilFunc, .nilFunc => some .nilFunc
  | .map none, .map none => some (.map none)
  | _, _ => none
theorem mgV_eq {b : Bool} {x y z : Value} (h : mgV b x y = some z) : z = bif b then x else y := by
  unfold mgV at h
  split at h
  · split at h
    · rename_i hk; subst hk; cases h; cases b <;> rfl
    · cases h
  · cases h; cases b <;> rfl
  · cases h; cases b <;> simp
  all_goals first | (cases h; cases b <;> rfl; done) | (cases h; done)

def isNilS : Value → Bool
  | .slice none 0 0 => true
  | _ => false
theorem isNilS_eq {x : Value} (h : isNilS x = true) : x = .slice none 0 0 := by
  unfold isNilS at h
  split at h
  · rfl
  · cases h
def mgVD (b : Bool) (x : Value) : D → Option D
  | .v y => match mgV b x y with | some z => some (.v z) | none => none
  | .sl k n ex row => if isNilS x = true then some (.sl k (bif b then 0 else n) (bif b then 0 else ex) row) else none
  | _ => none
mutual
def mgD (b : Bool) : D → D → Option D
  | .v x, d => mgVD b x d
  | .sl k n x row, d => match d with
    | .sl k' n' x' row' => if k = k' then some (.sl k (bif b then n else n') (bif b then x else x') fun i => bif b then row i else row' i) else none
    | .v y => if isNilS y = true then some (.sl k (bif b then n else 0) (bif b then x else 0) row) else none
    | _ => none
  | .fn f cs, d => match d with
    | .fn f' cs' => if f = f' then (match mgDs b cs cs' with | some ds => some (.fn f ds) | none => none) else none
    | _ => none
  | .ag cs, d => match d with
    | .ag cs' => (match mgDs b cs cs' with | some ds => some (.ag ds) | none => none)
    | _ => none
  | .tup cs, d => match d with
    | .tup cs' => (match mgDs b cs cs' with | some ds => some (.tup ds) | none => none)
    | _ => none
  | .ifc t x, d => match d with
    | .ifc t' x' => if t = t' then (match mgD b x x' with | some z => some (.ifc t z) | none => none) else none
    | _ => none
  | .ptr _, _ => none
def mgDs (b : Bool) : List D → List D → Option (List D)
  | [], [] => some []
  | x :: xs, y :: ys => match mgD b x y, mgDs b xs ys with | some z, some zs => some (z :: zs) | _, _ => none
  | _, _ => none
end

theorem RdV_nil {w : World} {Z : Nat → Prop} (k : Nat) (row : Nat → List D) : RdV w Z (.sl k 0 0 row) (.slice none 0 0) := LeD.nil k row w Z _ (by simp [RdV])
theorem mgVD_rd {b : Bool} {w : World} {Z : Nat → Prop} {x : Value} {d z : D} {v : Value} (h : mgVD b x d = some z) (hv : RdV w Z (bif b then .v x else d) v) : RdV w Z z v := by
  unfold mgVD at h
  split at h
  · rename_i y
    split at h
    · rename_i u hu
      cases h
      rw [mgV_eq hu]
      cases b <;> simpa [RdV] using hv
    · cases h
  · rename_i k n ex row
    split at h
    · rename_i hn
      cases h
      cases b
      · exact hv
      · simp only [cond_true, RdV] at hv; rw [hv, isNilS_eq hn]; exact RdV_nil k row
    · cases h
  · cases h
mutual
theorem mgD_rd {b : Bool} {w : World} {Z : Nat → Prop} : ∀ {x y z : D} {v : Value}, mgD b x y = some z → RdV w Z (bif b then x else y) v → RdV w Z z v
  | .v x, y, z, v, h, hv => mgVD_rd (by simpa only [mgD] using h) hv
  | .sl k n x row, y, z, v, h, hv => by
    simp only [mgD] at h
    split at h
    · rename_i k' n' x' row'
      split at h
      · rename_i hk; subst hk; cases h; cases b <;> exact hv
      · cases h
    · rename_i y
      split at h
      · rename_i hn
        cases h
        cases b
        · simp only [cond_false, RdV] at hv; rw [hv, isNilS_eq hn]; exact RdV_nil k row
        · exact hv
      · cases h
    · cases h
  | .fn f cs, y, z, v, h, hv => by
    simp only [mgD] at h
    split at h
    · rename_i f' cs'
      split at h
      · rename_i hf; subst hf
        split at h
        · rename_i ds hds
          cases h
          simp only [RdV]
          cases b <;> simp only [cond_false, cond_true, RdV] at hv <;> obtain ⟨vs, h1, h2⟩ := hv
          · exact ⟨vs, h1, mgDs_rd hds (by simpa only [cond_false] using h2)⟩
          · exact ⟨vs, h1, mgDs_rd hds (by simpa only [cond_true] using h2)⟩
        · cases h
      · cases h
    · cases h
  | .ag cs, y, z, v, h, hv => by
    simp only [mgD] at h
    split at h
    · rename_i cs'
      split at h
      · rename_i ds hds
        cases h
        simp only [RdV]
        cases b <;> simp only [cond_false, cond_true, RdV] at hv <;> obtain ⟨vs, h1, h2⟩ := hv
        · exact ⟨vs, h1, mgDs_rd hds (by simpa only [cond_false] using h2)⟩
        · exact ⟨vs, h1, mgDs_rd hds (by simpa only [cond_true] using h2)⟩
      · cases h
    · cases h
  | .tup cs, y, z, v, h, hv => by
    simp only [mgD] at h
    split at h
    · rename_i cs'
      split at h
      · rename_i ds hds
        cases h
        simp only [RdV]
        cases b <;> simp only [cond_false, cond_true, RdV] at hv <;> obtain ⟨vs, h1, h2⟩ := hv
        · exact ⟨vs, h1, mgDs_rd hds (by simpa only [cond_false] using h2)⟩
        · exact ⟨vs, h1, mgDs_rd hds (by simpa only [cond_true] using h2)⟩
      · cases h
    · cases h
  | .ifc t x, y, z, v, h, hv => by
    simp only [mgD] at h
    split at h
    · rename_i t' x'
      split at h
      · rename_i ht; subst ht
        split at h
        · rename_i u hu
          cases h
          simp only [RdV]
          cases b <;> simp only [cond_false, cond_true, RdV] at hv <;> obtain ⟨v', h1, h2⟩ := hv
          · exact ⟨v', h1, mgD_rd hu (by simpa only [cond_false] using h2)⟩
          · exact ⟨v', h1, mgD_rd hu (by simpa only [cond_true] using h2)⟩
        · cases h
      · cases h
    · cases h
  | .ptr _, y, z, v, h, hv => by simp [mgD] at h
theorem mgDs_rd {b : Bool} {w : World} {Z : Nat → Prop} : ∀ {xs ys zs : List D} {vs : List Value}, mgDs b xs ys = some zs → RdL w Z (bif b then xs else ys) vs → RdL w Z zs vs
  | [], ys, zs, vs, h, hv => by
    cases ys with
    | nil => simp [mgDs] at h; subst h; cases b <;> exact hv
    | cons y ys => simp [mgDs] at h
  | x :: xs, ys, zs, vs, h, hv => by
    cases ys with
    | nil => simp [mgDs] at h
    | cons y ys =>
      simp only [mgDs] at h
      split at h
      · rename_i z zs' h1 h2
        cases h
        cases b
        · simp only [cond_false, RdL] at hv ⊢
          obtain ⟨v, vs', e, h3, h4⟩ := hv
          exact ⟨v, vs', e, mgD_rd h1 (by simpa only [cond_false] using h3), mgDs_rd h2 (by simpa only [cond_false] using h4)⟩
        · simp only [cond_true, RdL] at hv ⊢
          obtain ⟨v, vs', e, h3, h4⟩ := hv
          exact ⟨v, vs', e, mgD_rd h1 (by simpa only [cond_true] using h3), mgDs_rd h2 (by simpa only [cond_true] using h4)⟩
      · cases h
end

mutual
def mgSV (b : Bool) : SV → SV → SV
  | .d x, s => match s with
    | .d y => (match mgD b x y with | some z => .d z | none => .junk)
    | _ => .junk
  | .lp k o, s => match s with
    | .lp k' o' => if k = k' ∧ o = o' then .lp k o else .junk
    | _ => .junk
  | .own k, s => match s with
    | .own k' => if k = k' then .own k else .junk
    | _ => .junk
  | .fn f cs, s => match s with
    | .fn f' cs' => if f = f' ∧ cs.length = cs'.length then .fn f (mgSVs b cs cs') else .junk
    | _ => .junk
  | _, _ => .junk
def mgSVs (b : Bool) : List SV → List SV → List SV
  | x :: xs, ys => match ys with | y :: ys => mgSV b x y :: mgSVs b xs ys | [] => []
  | [], _ => []
end
mutual
theorem mgSV_den {b : Bool} {E : Env} {w : World} : ∀ {x y : SV} {v : Value}, DenV E w (bif b then x else y) v → DenV E w (mgSV b x y) v
  | .d x, s, v, h => by
    cases s with
    | d y =>
      simp only [mgSV]
      split
      · rename_i z hz
        simp only [DenV]
        refine mgD_rd hz ?_
        cases b <;> simpa only [cond_true, cond_false, DenV] using h
      · simp [DenV]
    | _ => simp [mgSV, DenV]
  | .lp k o, s, v, h => by
    cases s with
    | lp k' o' =>
      simp only [mgSV]
      split
      · rename_i e; obtain ⟨rfl, rfl⟩ := e; cases b <;> exact h
      · simp [DenV]
    | _ => simp [mgSV, DenV]
  | .own k, s, v, h => by
    cases s with
    | own k' =>
      simp only [mgSV]
      split
      · rename_i e; subst e; cases b <;> exact h
      · simp [DenV]
    | _ => simp [mgSV, DenV]
  | .fn f cs, s, v, h => by
    cases s with
    | fn f' cs' =>
      simp only [mgSV]
      split
      · rename_i e; obtain ⟨rfl, hl⟩ := e
        simp only [DenV]
        cases b <;> simp only [cond_false, cond_true, DenV] at h <;> obtain ⟨vs, h1, h2⟩ := h
        · exact ⟨vs, h1, mgSVs_den hl (by simpa only [cond_false] using h2)⟩
        · exact ⟨vs, h1, mgSVs_den hl (by simpa only [cond_true] using h2)⟩
      · simp [DenV]
    | _ => simp [mgSV, DenV]
  | .oa _ _ _ _, s, v, h => by simp [mgSV, DenV]
  | .op _ _, s, v, h => by simp [mgSV, DenV]
  | .junk, s, v, h => by simp [mgSV, DenV]
theorem mgSVs_den {b : Bool} {E : Env} {w : World} : ∀ {xs ys : List SV} {vs : List Value}, xs.length = ys.length → DenL E w (bif b then xs else ys) vs → DenL E w (mgSVs b xs ys) vs
  | [], ys, vs, hl, h => by
    cases ys with
    | nil => cases b <;> simpa [mgSVs] using h
    | cons y ys => simp at hl
  | x :: xs, ys, vs, hl, h => by
    cases ys with
    | nil => simp at hl
    | cons y ys =>
      simp only [mgSVs, DenL]
      cases b
      · simp only [cond_false, DenL] at h
        obtain ⟨v, vs', e, h3, h4⟩ := h
        exact ⟨v, vs', e, mgSV_den (by simpa only [cond_false] using h3), mgSVs_den (by simpa using hl) (by simpa only [cond_false] using h4)⟩
      · simp only [cond_true, DenL] at h
        obtain ⟨v, vs', e, h3, h4⟩ := h
        exact ⟨v, vs', e, mgSV_den (by simpa only [cond_true] using h3), mgSVs_den (by simpa using hl) (by simpa only [cond_true] using h4)⟩
end

def mgS (b : Bool) (S1 S2 : List (Nat × SV)) : List Nat → List (Nat × SV)
  | [] => []
  | t :: r => match klook t S1, klook t S2 with
    | some x, some y => (t, mgSV b x y) :: mgS b S1 S2 r
    | _, _ => mgS b S1 S2 r
def mgL (b : Bool) (L1 L2 : List (Nat × TypeId × List SV)) : List Nat → List (Nat × TypeId × List SV)
  | [] => []
  | k :: r => match klook k L1, klook k L2 with
    | some (T, xs), some (T', ys) => if T = T' ∧ xs.length = ys.length then (k, T, mgSVs b xs ys) :: mgL b L1 L2 r else mgL b L1 L2 r
    | _, _ => mgL b L1 L2 r
def mgO (b : Bool) (O1 O2 : List (Nat × Ow)) : List Nat → List (Nat × Ow)
  | [] => []
  | k :: r => match klook k O1, klook k O2 with
    | some o, some o' => if o.e = o'.e ∧ o.k = o'.k then (k, ⟨o.e, o.k, bif b then o.n else o'.n, bif b then o.x else o'.x, fun i => bif b then o.row i else o'.row i⟩) :: mgO b O1 O2 r else mgO b O1 O2 r
    | _, _ => mgO b O1 O2 r
/-- ts: the slots that are read later -/
def mgF (b : Bool) : List (Act × List (Nat × SV)) → List (Act × List (Nat × SV)) → List (Act × List (Nat × SV))
  | (a, S) :: r, (_, S') :: r' => (a, mgS b S S' (keysOf S)) :: mgF b r r'
  | _, _ => []
/-- the same activations wait -/
def sameF : List (Act × List (Nat × SV)) → List (Act × List (Nat × SV)) → Prop
  | [], [] => True
  | (a, _) :: r, (a', _) :: r' => a = a' ∧ sameF r r'
  | _, _ => False
def mgSt (b : Bool) (ts : List Nat) (s1 s2 : Stt) : Stt := ⟨s1.N, s1.df, mgS b s1.S s2.S ts, mgL b s1.L s2.L (keysOf s1.L), mgO b s1.O s2.O (keysOf s1.O), mgF b s1.fz s2.fz, s1.pin⟩

theorem mgS_look {b : Bool} {S1 S2 : List (Nat × SV)} {t : Nat} {sv : SV} : ∀ {ts : List Nat}, klook t (mgS b S1 S2 ts) = some sv → ∃ x y, klook t S1 = some x ∧ klook t S2 = some y ∧ sv = mgSV b x y
  | [], h => by simp [mgS, klook] at h
  | t' :: r, h => by
    simp only [mgS] at h
    split at h
    · rename_i x y hx hy
      simp only [klook] at h
      by_cases ht : t = t'
      · subst ht; simp at h; exact ⟨x, y, hx, hy, h.symm⟩
      · rw [if_neg ht] at h; exact mgS_look h
    · exact mgS_look h
theorem mgL_look {b : Bool} {L1 L2 : List (Nat × TypeId × List SV)} {k : Nat} {T : TypeId} {cs : List SV} : ∀ {ks : List Nat}, klook k (mgL b L1 L2 ks) = some (T, cs) → ∃ xs ys, xs.length = ys.length ∧ klook k L1 = some (T, xs) ∧ klook k L2 = some (T, ys) ∧ cs = mgSVs b xs ys
  | [], h => by simp [mgL, klook] at h
  | k' :: r, h => by
    simp only [mgL] at h
    split at h
    · rename_i T1 xs T2 ys hx hy
      split at h
      · rename_i e
        simp only [klook] at h
        by_cases ht : k = k'
        · subst ht
          obtain ⟨rfl, hl⟩ := e
          simp at h
          obtain ⟨rfl, rfl⟩ := h
          exact ⟨xs, ys, hl, hx, hy, rfl⟩
        · rw [if_neg ht] at h; exact mgL_look h
      · exact mgL_look h
    · exact mgL_look h
theorem mgO_look {b : Bool} {O1 O2 : List (Nat × Ow)} {k : Nat} {o : Ow} : ∀ {ks : List Nat}, klook k (mgO b O1 O2 ks) = some o → ∃ o1 o2, o1.e = o2.e ∧ o1.k = o2.k ∧ klook k O1 = some o1 ∧ klook k O2 = some o2 ∧ o = ⟨o1.e, o1.k, bif b then o1.n else o2.n, bif b then o1.x else o2.x, fun i => bif b then o1.row i else o2.row i⟩
  | [], h => by simp [mgO, klook] at h
  | k' :: r, h => by
    simp only [mgO] at h
    split at h
    · rename_i o1 o2 h1 h2
      split at h
      · rename_i e
        simp only [klook] at h
        by_cases ht : k = k'
        · subst ht
          simp at h; subst h
          exact ⟨o1, o2, e.1, e.2, h1, h2, rfl⟩
        · rw [if_neg ht] at h; exact mgO_look h
      · exact mgO_look h
    · exact mgO_look h

theorem mgF_waits {b : Bool} {E : Env} {w : World} : ∀ {f f' : List (Act × List (Nat × SV))}, sameF f f' → Waits E (bif b then f else f') w → Waits E (mgF b f f') w
  | [], [], _, h => by simp [mgF]; intro p hp; cases hp
  | (a, S) :: r, (a', S') :: r', hs, h => by
    obtain ⟨rfl, hs⟩ := hs
    intro p hp t sv ht
    simp only [mgF, List.mem_cons] at hp
    rcases hp with rfl | hp
    · obtain ⟨x, y, h1, h2, rfl⟩ := mgS_look ht
      cases b
      · obtain ⟨v, h3, h4⟩ := h (a, S') (by simp) t y h2
        exact ⟨v, h3, mgSV_den (by simpa using h4)⟩
      · obtain ⟨v, h3, h4⟩ := h (a, S) (by simp) t x h1
        exact ⟨v, h3, mgSV_den (by simpa using h4)⟩
    · refine mgF_waits hs (fun p hp => ?_) p hp t sv ht
      cases b
      · exact h p (by simp at hp ⊢; exact .inr hp)
      · exact h p (by simp at hp ⊢; exact .inr hp)
  | [], _ :: _, hs, _ => hs.elim
  | _ :: _, [], hs, _ => hs.elim

theorem Sat.mg {C : Ctx} {b : Bool} {ts : List Nat} {s1 s2 : Stt} {a : Act} {w : World} (hN : s1.N = s2.N) (hdf : s1.df = s2.df) (hF : sameF s1.fz s2.fz) (hP : s1.pin = s2.pin) (h : Sat C (bif b then s1 else s2).sy a w) : Sat C (mgSt b ts s1 s2).sy a w := by
  obtain ⟨E, hE⟩ := h
  have kS : ∀ {t x y}, klook t s1.S = some x → klook t s2.S = some y → (bif b then s1 else s2).sy.S t = some (bif b then x else y) := fun h1 h2 => by cases b; exact h2; exact h1
  have kL : ∀ {t x y}, klook t s1.L = some x → klook t s2.L = some y → (bif b then s1 else s2).sy.L t = some (bif b then x else y) := fun h1 h2 => by cases b; exact h2; exact h1
  have kO : ∀ {t x y}, klook t s1.O = some x → klook t s2.O = some y → (bif b then s1 else s2).sy.O t = some (bif b then x else y) := fun h1 h2 => by cases b; exact h2; exact h1
  refine ⟨E, ?_, ?_, fun t sv hs => ?_, ⟨hE.hp.bel, hE.hp.z, fun key T cs hk => ?_, fun key e hk => ?_, fun key key' e e' hk hk' heq => ?_, fun key e hk => ?_, fun key e g hk hg => ?_, fun key key' e e' g hk hk' hg hg' => ?_⟩, fun b' o hb => ?_, mgF_waits hF (by have := hE.waits; cases b <;> exact this)⟩
  · have := hE.sz; cases b
    · exact this.trans hN.symm
    · exact this
  · have := hE.df; cases b
    · exact this.trans hdf.symm
    · exact this
  · obtain ⟨x, y, h1, h2, rfl⟩ := mgS_look hs
    obtain ⟨v, h3, h4⟩ := hE.slots t _ (kS h1 h2)
    exact ⟨v, h3, mgSV_den h4⟩
  · obtain ⟨xs, ys, hl, h1, h2, rfl⟩ := mgL_look hk
    obtain ⟨vs, h3, h4⟩ := hE.hp.loc key T (bif b then xs else ys) (by rw [kL h1 h2]; cases b <;> rfl)
    exact ⟨vs, h3, mgSVs_den hl h4⟩
  · obtain ⟨T, cs⟩ := e
    obtain ⟨xs, ys, hl, h1, h2, rfl⟩ := mgL_look hk
    exact hE.hp.locN key _ (kL h1 h2)
  · obtain ⟨T, cs⟩ := e
    obtain ⟨T', cs'⟩ := e'
    obtain ⟨xs, ys, hl, h1, h2, _⟩ := mgL_look hk
    obtain ⟨xs', ys', hl', h1', h2', _⟩ := mgL_look hk'
    exact hE.hp.locD key key' _ _ (kL h1 h2) (kL h1' h2') heq
  · obtain ⟨o1, o2, he, hkk, h1, h2, rfl⟩ := mgO_look hk
    have := hE.hp.own key _ (kO h1 h2)
    cases b
    · obtain ⟨e1, k1, n1, x1, r1⟩ := o1
      obtain ⟨e2, k2, n2, x2, r2⟩ := o2
      simp only at he hkk
      subst he; subst hkk
      exact this
    · exact this
  · obtain ⟨o1, o2, he, hkk, h1, h2, _⟩ := mgO_look hk
    have h3 := hE.hp.ownN key _ g (kO h1 h2) hg
    refine ⟨h3.1, h3.2.1, fun key' e' hk' => ?_⟩
    obtain ⟨T, cs⟩ := e'
    obtain ⟨xs, ys, hl, h4, h5, _⟩ := mgL_look hk'
    exact h3.2.2 key' _ (kL h4 h5)
  · obtain ⟨o1, o2, _, _, h1, h2, _⟩ := mgO_look hk
    obtain ⟨o1', o2', _, _, h1', h2', _⟩ := mgO_look hk'
    exact hE.hp.ownD key key' _ _ g (kO h1 h2) (kO h1' h2') hg hg'
  · have hpb : (b', o) ∈ (bif b then s1 else s2).sy.pin := by
      cases b
      · rw [show (bif false then s1 else s2).sy.pin = s1.pin from hP.symm]; exact hb
      · exact hb
    obtain ⟨p1, p2, p3, p4, p5⟩ := hE.pins b' o hpb
    refine ⟨p1, p2, p3, fun key e he => ?_, fun key e he => ?_⟩
    · obtain ⟨T, cs⟩ := e
      obtain ⟨xs, ys, hl, h4, h5, _⟩ := mgL_look he
      exact p4 key _ (kL h4 h5)
    · obtain ⟨o1, o2, _, _, h1, h2, _⟩ := mgO_look he
      have h3 := p5 key _ (kO h1 h2)
      cases b <;> exact h3

/-- both ways of an if come together again: ts are the slots that are read later -/
theorem Exec.join {R : Rn} {k : List Item} (ts : List Nat) {c : Operand} {x y : Code} {t : Bool} {s s1 s2 : Stt} (hc : evalO s.sy.S c = some (.d (.v (.bool t)))) (hN : s1.N = s2.N) (hdf : s1.df = s2.df) (hF : sameF s1.fz s2.fz) (hP : s1.pin = s2.pin)
    (hx : t = true → Exec R k s1.sy → Exec R (.code x :: k) s.sy) (hy : t = false → Exec R k s2.sy → Exec R (.code y :: k) s.sy) (h : Exec R k (mgSt t ts s1 s2).sy) : Exec R (.code (.cond c x y) :: k) s.sy := by
  refine Exec.cond_split hc (fun ht => hx ht fun a w hs => h a w (Sat.mg hN hdf hF hP ?_)) (fun ht => hy ht fun a w hs => h a w (Sat.mg hN hdf hF hP ?_))
  · subst ht; exact hs
  · subst ht; exact hs
end Go.Kin
