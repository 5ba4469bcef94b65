/- Steps of a function body on data, and contracts of the functions of the seat, walked. -/
import Derived.Test.YtgnhhjojiipmgaaGreatDoorKJoin
import Derived.RangeFuncRecord
set_option linter.unusedSimpArgs false
set_option linter.unusedVariables false
set_option linter.unusedSectionVars false
namespace Go.Kin
open Go.RowKit
/-- a loop, by a measure, from states of a family -/
theorem Exec.loopL {R : Rn} {k : List Item} {c : Code} {X : Type} (st : X → Stt) (μ : X → Nat) (I : X → Prop) (body : ∀ x, I x → (∀ y, I y → μ y < μ x → Exec R (.inLoop c :: k) (st y).sy) → Exec R (.code c :: .inLoop c :: k) (st x).sy) (x : X) (hx : I x) : Exec R (.code (.loop c) :: k) (st x).sy :=
  Exec.loop (X := { x : X // I x }) (fun x => (st x.1).sy) (fun x => μ x.1) (fun x ih => body x.1 x.2 fun y hy hlt => ih ⟨y, hy⟩ hlt) ⟨x, hx⟩
/-- the slots that are kept -/
def restS (S : List (Nat × SV)) : List Nat → List (Nat × SV)
  | [] => []
  | t :: r => match klook t S with
    | some x => (t, x) :: restS S r
    | none => restS S r
/-- a state, some of whose slots, boxes, slices are told anew -/
def famSt (s : Stt) (ts : List Nat) (mS : List (Nat × SV)) (mL : List (Nat × TypeId × List SV)) (mO : List (Nat × Ow)) : Stt :=
  ⟨s.N, s.df, mS ++ restS s.S ts, mL ++ delKs (keysOf mL) s.L, mO ++ delKs (keysOf mO) s.O, s.fz, s.pin⟩
/-- a loop: of the state ahead of it what the rounds change is told by x; ts: the slots that stay and are read later -/
theorem Exec.loopU {R : Rn} {k : List Item} {c : Code} {X : Type} {s : Stt} (ts : List Nat) (mS : X → List (Nat × SV)) (mL : X → List (Nat × TypeId × List SV)) (mO : X → List (Nat × Ow)) (μ : X → Nat) (I : X → Prop) (x0 : X)
    (h0 : I x0) (hw : LeS s.S (mS x0 ++ restS s.S ts) ∧ LeL s.L (mL x0 ++ delKs (keysOf (mL x0)) s.L) ∧ LeO s.O (mO x0 ++ delKs (keysOf (mO x0)) s.O) ∧ LeF s.fz s.fz)
    (body : ∀ x, I x → (∀ y, I y → μ y < μ x → Exec R (.inLoop c :: k) (famSt s ts (mS y) (mL y) (mO y)).sy) → Exec R (.code c :: .inLoop c :: k) (famSt s ts (mS x) (mL x) (mO x)).sy) : Exec R (.code (.loop c) :: k) s.sy :=
  Exec.weak (famSt s ts (mS x0) (mL x0) (mO x0)) rfl rfl hw.1 hw.2.1 hw.2.2.1 hw.2.2.2 rfl (Exec.loopL (fun x => famSt s ts (mS x) (mL x) (mO x)) μ I body x0 h0)
/-- the same state, written otherwise -/
theorem Exec.norm {R : Rn} {k : List Item} {s s' : Stt} (h : s = s') (hk : Exec R k s'.sy) : Exec R k s.sy := h ▸ hk
/-- back at the head of a loop -/
theorem Exec.back {R : Rn} {k : List Item} {s s0 : Stt} {ts : List Nat} {mS : List (Nat × SV)} {mL : List (Nat × TypeId × List SV)} {mO : List (Nat × Ow)} (hk : Exec R k (famSt s0 ts mS mL mO).sy) (hN : s.N = s0.N) (hdf : s.df = s0.df)
    (hS : LeS s.S (mS ++ restS s0.S ts)) (hL : LeL s.L (mL ++ delKs (keysOf mL) s0.L)) (hO : LeO s.O (mO ++ delKs (keysOf mO) s0.O)) (hF : LeF s.fz s0.fz) (hP : s.pin = s0.pin) : Exec R k s.sy :=
  Exec.weak (famSt s0 ts mS mL mO) hN hdf hS hL hO hF hP hk
end Go.Kin
namespace Go.Kin
open Go.RowKit
variable {I : World → Prop}
/-! ### other names for the blocks of the function's own -/
def swp (j k : Nat) : Nat := if k < 1000 then k + 1000 * j else if 1000 * j ≤ k ∧ k < 1000 * j + 1000 then k - 1000 * j else k
theorem swp_swp (j k : Nat) : swp j (swp j k) = k := by unfold swp; split <;> split <;> (try split) <;> (try split) <;> omega
/-- names change places -/
structure Swp where
  f : Nat → Nat
  inv : ∀ k, f (f k) = k
  lent : ∀ k, lentK (f k) = lentK k
theorem Swp.inj (π : Swp) {k k' : Nat} (h : π.f k = π.f k') : k = k' := by have := congrArg π.f h; rwa [π.inv, π.inv] at this
theorem swp_lent (j k : Nat) : lentK (swp j k) = lentK k := by unfold lentK swp; split <;> (try split) <;> congr 2 <;> omega
def swJ (j : Nat) : Swp := ⟨swp j, swp_swp j, swp_lent j⟩
mutual
def renV (π : Swp) : SV → SV
  | .lp key off => .lp (π.f key) off
  | .own key => .own (π.f key)
  | .oa key k i f => .oa (π.f key) k i f
  | .fn f caps => .fn f (renL π caps)
  | .op p sv => .op p (renV π sv)
  | .mv f caps => .mv f (renL π caps)
  | .sg caps => .sg (renL π caps)
  | .d x => .d x
  | .junk => .junk
def renL (π : Swp) : List SV → List SV
  | [] => []
  | sv :: r => renV π sv :: renL π r
end
def renS (π : Swp) : List (Nat × SV) → List (Nat × SV)
  | [] => []
  | (t, sv) :: r => (t, renV π sv) :: renS π r
def renLL (π : Swp) : List (Nat × TypeId × List SV) → List (Nat × TypeId × List SV)
  | [] => []
  | (k, T, cs) :: r => (π.f k, T, renL π cs) :: renLL π r
def renO (π : Swp) : List (Nat × Ow) → List (Nat × Ow)
  | [] => []
  | (k, o) :: r => (π.f k, o) :: renO π r
def renF (π : Swp) : List (Act × List (Nat × SV)) → List (Act × List (Nat × SV))
  | [] => []
  | (a, S) :: r => (a, renS π S) :: renF π r
def renSt (π : Swp) (s : Stt) : Stt := ⟨s.N, s.df, renS π s.S, renLL π s.L, renO π s.O, renF π s.fz, s.pin⟩
def renE (π : Swp) (E : Env) : Env := ⟨fun k => E.β (π.f k), fun k => E.ω (π.f k), E.Z⟩
section
variable {E : Env} {w : World} {π : Swp}
mutual
theorem renV_den : ∀ {sv : SV} {v : Value}, DenV E w sv v → DenV (renE π E) w (renV π sv) v
  | .lp key off, v, h => by simp only [renV, DenV, renE, π.inv] at h ⊢; exact h
  | .own key, v, h => by simp only [renV, DenV, renE, π.inv] at h ⊢; exact h
  | .oa key k i f, v, h => by simp only [renV, DenV, renE, π.inv] at h ⊢; exact h
  | .fn f caps, v, h => by
    simp only [renV, DenV] at h ⊢
    obtain ⟨vs, h1, h2⟩ := h
    exact ⟨vs, h1, renL_den h2⟩
  | .op p sv, v, h => by simp only [renV, DenV] at h ⊢; exact ⟨fun hp => renV_den (h.1 hp), h.2⟩
  | .d x, v, h => by simp only [renV, DenV, renE] at h ⊢; exact h
  | .mv f caps, v, h => by
    simp only [renV, DenV] at h ⊢
    obtain ⟨vs, h1, h2⟩ := h
    exact ⟨vs, h1, renL_den h2⟩
  | .sg caps, v, h => by
    simp only [renV, DenV] at h ⊢
    obtain ⟨vs, h1, h2⟩ := h
    exact ⟨vs, h1, renL_den h2⟩
  | .junk, v, h => by simp only [renV, DenV]
theorem renL_den : ∀ {svs : List SV} {vs : List Value}, DenL E w svs vs → DenL (renE π E) w (renL π svs) vs
  | [], vs, h => by simpa [renL, DenL] using h
  | sv :: r, vs, h => by
    simp only [renL, DenL] at h ⊢
    obtain ⟨v, vs', e, h1, h2⟩ := h
    exact ⟨v, vs', e, renV_den h1, renL_den h2⟩
end
theorem renS_look (t : Nat) : ∀ (l : List (Nat × SV)), klook t (renS π l) = (klook t l).map (renV π)
  | [] => rfl
  | (t', sv) :: r => by simp only [renS, klook]; by_cases h : t = t' <;> simp [h, renS_look t r]
theorem renLL_look (k : Nat) : ∀ (l : List (Nat × TypeId × List SV)), klook k (renLL π l) = (klook (π.f k) l).map fun x => (x.1, renL π x.2)
  | [] => rfl
  | (k', T, cs) :: r => by
    simp only [renLL, klook]
    by_cases h : k = π.f k'
    · subst h; simp [π.inv]
    · have : ¬ π.f k = k' := fun e => h (by rw [← e, π.inv])
      simp [h, this, renLL_look k r]
theorem renO_look (k : Nat) : ∀ (l : List (Nat × Ow)), klook k (renO π l) = klook (π.f k) l
  | [] => rfl
  | (k', o) :: r => by
    simp only [renO, klook]
    by_cases h : k = π.f k'
    · subst h; simp [π.inv]
    · have : ¬ π.f k = k' := fun e => h (by rw [← e, π.inv])
      simp [h, this, renO_look k r]
theorem mem_renF {p : Act × List (Nat × SV)} : ∀ {fz : List (Act × List (Nat × SV))}, p ∈ renF π fz → ∃ S, (p.1, S) ∈ fz ∧ p.2 = renS π S
  | [], h => by simp [renF] at h
  | (a, S) :: r, h => by
    simp only [renF, List.mem_cons] at h
    rcases h with rfl | h
    · exact ⟨S, by simp, rfl⟩
    · obtain ⟨S', h1, h2⟩ := mem_renF h; exact ⟨S', by simp [h1], h2⟩
theorem SatE.ren {C : Ctx} {s : Stt} {a : Act} (π : Swp) (h : SatE C E s.sy a w) : SatE C (renE π E) (renSt π s).sy a w := by
  refine ⟨h.sz, h.df, fun t sv ht => ?_, ⟨h.hp.bel, h.hp.z, fun key T cs hk => ?_, fun key e hk => ?_, fun key key' e e' hk hk' heq => ?_, fun key o hk => ?_, fun key e g hk hg => ?_, fun key key' e e' g hk hk' hg hg' => ?_⟩, fun b o hb => ?_, fun p hp t sv ht => ?_⟩
  · simp only [Stt.sy, renSt, renS_look] at ht
    cases hx : klook t s.S with
    | none => simp [hx] at ht
    | some x =>
      simp [hx] at ht; subst ht
      obtain ⟨v, h1, h2⟩ := h.slots t x hx
      exact ⟨v, h1, renV_den h2⟩
  · simp only [Stt.sy, renSt, renLL_look] at hk
    cases hx : klook (π.f key) s.L with
    | none => simp [hx] at hk
    | some x =>
      obtain ⟨T', cs'⟩ := x
      simp [hx] at hk
      obtain ⟨rfl, rfl⟩ := hk
      obtain ⟨vs, h1, h2⟩ := h.hp.loc _ _ _ hx
      exact ⟨vs, h1, renL_den h2⟩
  · simp only [Stt.sy, renSt, renLL_look] at hk
    cases hx : klook (π.f key) s.L with
    | none => simp [hx] at hk
    | some x => have h9 := h.hp.locN _ x hx; rw [π.lent] at h9; exact h9
  · simp only [Stt.sy, renSt, renLL_look] at hk hk'
    cases hx : klook (π.f key) s.L with
    | none => simp [hx] at hk
    | some x =>
      cases hx' : klook (π.f key') s.L with
      | none => simp [hx'] at hk'
      | some x' => exact π.inj (h.hp.locD _ _ x x' hx hx' heq)
  · simp only [Stt.sy, renSt, renO_look] at hk
    exact h.hp.own _ o hk
  · simp only [Stt.sy, renSt, renO_look] at hk
    obtain ⟨h1, h2, h3⟩ := h.hp.ownN _ e g hk hg
    refine ⟨h1, h2, fun key' e' he' => ?_⟩
    simp only [Stt.sy, renSt, renLL_look] at he'
    cases hx : klook (π.f key') s.L with
    | none => simp [hx] at he'
    | some x => exact h3 _ x hx
  · simp only [Stt.sy, renSt, renO_look] at hk hk'
    exact π.inj (h.hp.ownD _ _ e e' g hk hk' hg hg')
  · obtain ⟨p1, p2, p3, p4, p5⟩ := h.pins b o hb
    refine ⟨p1, p2, p3, fun key e he => ?_, fun key e he => ?_⟩
    · simp only [Stt.sy, renSt, renLL_look] at he
      cases hx : klook (π.f key) s.L with
      | none => simp [hx] at he
      | some x => exact p4 _ x hx
    · simp only [Stt.sy, renSt, renO_look] at he
      exact p5 _ e he
  · obtain ⟨S, h1, h2⟩ := mem_renF hp
    rw [h2, renS_look] at ht
    cases hx : klook t S with
    | none => simp [hx] at ht
    | some x =>
      simp [hx] at ht; subst ht
      obtain ⟨v, h3, h4⟩ := h.waits _ h1 t x hx
      exact ⟨v, h3, renV_den h4⟩
end
theorem Sat.ren {C : Ctx} {s : Stt} {a : Act} {w : World} (π : Swp) (h : Sat C s.sy a w) : Sat C (renSt π s).sy a w := let ⟨_, hE⟩ := h; ⟨_, hE.ren π⟩
theorem Exec.ren {R : Rn} {k : List Item} {s : Stt} (π : Swp) (h : Exec R k (renSt π s).sy) : Exec R k s.sy := fun a w hs => h a w (hs.ren π)
/-! ### blocks that are known whole -/
def Fresh (b : Nat) (pin : List (Nat × Obj)) : Prop := ∀ p, p ∈ pin → p.1 ≠ b
/-- a block that is none of cells is laid -/
theorem SatE.pinNew {C : Ctx} {E : Env} {s : Stt} {a : Act} {w : World} (h : SatE C E s.sy a w) (o : Obj) :
    ∃ E', SatE C E' (Stt.mk s.N s.df s.S s.L s.O s.fz ((w.heap.size, o) :: s.pin)).sy a (w.alloc o) ∧ Fresh w.heap.size s.pin := by
  have hb : Below w.heap.size w (w.alloc o) := (Below.refl _ w).alloc (Nat.le_refl _) _
  have hg := h.grow hb (fun _ => False) (fun b hb => hb.elim)
  refine ⟨_, ⟨hg.sz, hg.df, hg.slots, hg.hp, fun b o' hb' => ?_, hg.waits⟩, fun p hp => ?_⟩
  · rcases List.mem_cons.1 hb' with hb' | hb'
    · cases hb'
      refine ⟨by rw [alloc_heap, if_pos rfl], h.hp.bel.size, fun hz => ?_, fun key e he => ?_, fun key e he hk => ?_⟩
      · rcases hz with hz | hz
        · have := (h.hp.z _ hz).1; omega
        · exact hz
      · have := h.hp.lt he; exact Nat.ne_of_lt this
      · have := h.hp.ltO he hk; omega
    · exact hg.pins b o' hb'
  · have := (Array.getElem?_eq_some_iff.1 (h.pins p.1 p.2 hp).1).1
    exact Nat.ne_of_lt this
theorem putObj_heap {w : World} {b : Nat} {o : Obj} (k : Nat) (h : k ≠ b) : (w.putObj b o).heap[k]? = w.heap[k]? := World.putObj_heap_other h
/-- such a block turns -/
theorem SatE.pinSet {C : Ctx} {E : Env} {s : Stt} {a : Act} {w : World} {b : Nat} {o o' : Obj} {pin : List (Nat × Obj)} (h : SatE C E s.sy a w) (hp : s.pin = (b, o) :: pin) (hf : Fresh b pin) :
    SatE C E (Stt.mk s.N s.df s.S s.L s.O s.fz ((b, o') :: pin)).sy a (w.putObj b o') := by
  obtain ⟨p1, p2, p3, p4, p5⟩ := h.pins b o (by simp [Stt.sy, hp])
  have hlt : b < w.heap.size := (Array.getElem?_eq_some_iff.1 p1).1
  have hk : Keeps w E.Z (w.putObj b o') E.Z := ⟨fun _ h => h, fun x hx => putObj_heap x (fun e => p3 (e ▸ hx))⟩
  have hsz : (w.putObj b o').heap.size = w.heap.size := World.putObj_size
  refine ⟨h.sz, h.df, fun t sv ht => let ⟨v, h1, h2⟩ := h.slots t sv ht; ⟨v, h1, h2.mono hk rfl rfl⟩, ⟨⟨h.hp.bel.os, h.hp.bel.tape, h.hp.bel.output, by rw [hsz]; exact h.hp.bel.size, fun x hx1 hx2 => (putObj_heap x (by intro e; have := p2; omega)).trans (h.hp.bel.block x hx1 hx2)⟩,
    fun x hx => by rw [hsz]; exact h.hp.z x hx, fun key T cs hL => ?_, h.hp.locN, h.hp.locD, fun key ow hO => ?_, h.hp.ownN, h.hp.ownD⟩, fun b' o1 hb' => ?_, h.waits.mono fun sv v hv => hv.mono hk rfl rfl⟩
  · obtain ⟨vs, h1, h2⟩ := h.hp.loc key T cs hL
    exact ⟨vs, (putObj_heap _ (p4 key _ hL)).trans h1, h2.mono hk rfl rfl⟩
  · obtain ⟨h0, h1⟩ := h.hp.own key ow hO
    refine ⟨h0, h1.imp id ?_⟩
    rintro ⟨g, cap, vs, h2, h3, h4, h5, h6, h7⟩
    exact ⟨g, cap, vs, h2, h3, h4, (putObj_heap g (fun e => p5 key _ hO (by rw [h2, e]; rfl))).trans h5, h6, fun i hi => (h7 i hi).mono hk⟩
  · rcases List.mem_cons.1 hb' with hb' | hb'
    · cases hb'
      exact ⟨World.putObj_heap_same hlt, p2, p3, p4, p5⟩
    · obtain ⟨q1, q2⟩ := h.pins b' o1 (by simp only [Stt.sy, hp]; exact List.mem_cons_of_mem _ hb')
      exact ⟨(putObj_heap b' (hf _ hb')).trans q1, q2⟩
/-- what is known of a block is given up -/
theorem SatE.pinDrop {C : Ctx} {E : Env} {s : Stt} {a : Act} {w : World} {p : Nat × Obj} {pin : List (Nat × Obj)} (h : SatE C E s.sy a w) (hp : s.pin = p :: pin) :
    SatE C E (Stt.mk s.N s.df s.S s.L s.O s.fz pin).sy a w :=
  ⟨h.sz, h.df, h.slots, h.hp, fun b o hb => h.pins b o (by simp only [Stt.sy, hp]; exact List.mem_cons_of_mem _ hb), h.waits⟩
theorem Exec.scope {R : Rn} {k : List Item} {s : Sy} {c : Code} (h : Exec R (.code c :: .inScope c :: k) s) : Exec R (.code (.scope c) :: k) s := h.one fun _ _ => step_lone_go (by simp [stepG, stepG.exec, Frame.atR])
theorem Exec.inScope {R : Rn} {k : List Item} {s : Sy} {c : Code} (h : Exec R k s) : Exec R (.inScope c :: k) s := h.one fun _ _ => step_lone_go (by simp [stepG, stepG.exec, Frame.atR])
/-! ### a range over a function -/
def rndB (fn l : Nat) : Frame := { (default : Frame) with fn := fn, kind := .normal, roundOf := some l }
def callB (fn : Nat) : Frame := { (default : Frame) with fn := fn, kind := .normal, roundOf := none }
/-- the function of a value, and what it has captured -/
def fnCaps : SV → Option (Nat × List SV)
  | .fn f caps => some (f, caps)
  | .d (.fn f ds) => some (f, ds.map SV.d)
  | _ => none
theorem fnCaps_den {E : Env} {w : World} {sv : SV} {v : Value} {f : Nat} {caps : List SV} (h : fnCaps sv = some (f, caps)) (hv : DenV E w sv v) : ∃ vs, v = .func (.func f) #[] (List.toArray vs) ∧ DenL E w caps vs := by
  cases sv with
  | fn f' caps' => simp [fnCaps] at h; obtain ⟨rfl, rfl⟩ := h; simpa only [DenV] using hv
  | d x =>
    cases x with
    | fn f' ds =>
      simp [fnCaps] at h; obtain ⟨rfl, rfl⟩ := h
      simp only [DenV, RdV] at hv
      obtain ⟨vs, h1, h2⟩ := hv
      exact ⟨vs, h1, DenL_of_RdL h2⟩
    | _ => simp [fnCaps] at h
  | _ => simp [fnCaps] at h
def slotsV : Nat → List SV → List (Nat × SV)
  | _, [] => []
  | i, d :: r => (i, d) :: slotsV (i + 1) r
theorem look_slotsV (i : Nat) : ∀ (ds : List SV) (j : Nat), klook j (slotsV i ds) = if i ≤ j then ds[j - i]? else none
  | [], j => by simp [slotsV, klook]
  | d :: ds, j => by
    simp only [slotsV, klook]
    by_cases h : j = i
    · subst h; simp
    · rw [if_neg h, look_slotsV (i + 1) ds j]
      by_cases hij : i ≤ j
      · have h1 : i + 1 ≤ j := by omega
        have h2 : j - i = (j - (i + 1)) + 1 := by omega
        simp [hij, h1, h2]
      · have h1 : ¬ (i + 1 ≤ j) := by omega
        simp [hij, h1]
def loopR (fn : Nat) (tmps : Array Value) (ps : Array Tmp) (assign body : Code) (r : Nat) (st : LoopState) (pd : Option Code) : Obj := .loop { state := st, pending := pd, fn := fn, tmps := tmps, params := ps, assign := assign, body := body, defers := r }
def markD (r : Nat) : Deferred := { target := .collected r, args := #[] }
theorem Exec.range {P : Program} {b : Frame} {cs : List Frame} {T : Machine → Prop} {C : Ctx} {k : List Item} {s : Stt} (j : Nat) {g : Operand} {ps : Array Tmp} {assign body : Code} {sv : SV} {f : Nat} {fn : Func} {c : Code} {caps : List SV} {N bfn : Nat}
    (hro : b.roundOf = none) (hbf : b.fn = bfn) (hg : evalL s.S g = some sv) (hc : fnCaps sv = some (f, caps)) (hf : P.funcs[f]? = some fn) (hN : fn.ntmps = N) (hb : fn.body = some c) (hn : (fn.name == "runtime.NumGoroutine") = false) (hl : 1 + caps.length ≤ N)
    (h : ∀ (a : Act) (l r : Nat) (lo : LoopState → Option Code → Obj), lo = loopR bfn a.tmps ps assign body r → a.tmps.size = s.N → a.defers = s.df → Fresh r s.pin → Fresh l ((r, .deferred (some [])) :: s.pin) →
      Exec ⟨P, callB f, b.atR { a with defers := markD r :: a.defers } (.inRangeFunc l :: k) :: cs, T, C⟩ [.code c]
        (renSt (swJ j) ⟨N, [], (0, .d (.v (.func (.yield l) #[] #[]))) :: slotsV 1 caps, s.L, s.O, (a, s.S) :: s.fz, (l, lo .ready none) :: (r, .deferred (some [])) :: s.pin⟩).sy) :
    Exec ⟨P, b, cs, T, C⟩ (.code (.rangeFunc g ps assign body) :: k) s.sy := by
  subst hN hbf
  intro a w ⟨E, hE⟩
  have hgv : DenV E w sv (a.eval g) := evalO_den (s := s.sy) hE ((evalL_eq _ _).symm.trans hg)
  obtain ⟨vs, e1, hvs⟩ := fnCaps_den hc hgv
  obtain ⟨E1, h1, hf1⟩ := hE.pinNew (.deferred (some []))
  obtain ⟨E2, h2, hf2⟩ := h1.pinNew (loopR b.fn a.tmps ps assign body w.heap.size .ready none)
  have hlen := DenL_length hvs
  -- what was captured, still
  have hvs2 : DenL E2 ((w.alloc (.deferred (some []))).alloc (loopR b.fn a.tmps ps assign body w.heap.size .ready none)) caps vs := by
    obtain ⟨t, ht⟩ : ∃ t, g = Operand.tmp t ∨ (∀ t, g ≠ Operand.tmp t) := by
      cases g with
      | tmp t => exact ⟨t, .inl rfl⟩
      | _ => exact ⟨0, .inr (by simp)⟩
    rcases ht with rfl | ht
    · obtain ⟨v, h3, h4⟩ := h2.slots t sv hg
      obtain ⟨us, e2, hus⟩ := fnCaps_den hc h4
      have : a.eval (.tmp t) = v := by simp [Act.eval, h3]
      rw [e1] at this
      rw [← this] at e2
      simp at e2
      rw [e2]; exact hus
    · cases g with
      | tmp t => exact absurd rfl (ht t)
      | const v => simp [evalL] at hg; subst hg; simp [fnCaps] at hc
      | global v => simp [evalL] at hg; subst hg; simp [fnCaps] at hc
      | func f' =>
        simp [evalL] at hg; subst hg
        simp [fnCaps] at hc
        obtain ⟨rfl, rfl⟩ := hc
        simp only [DenL] at hvs ⊢
        exact hvs
  have hent : ∀ args w, (callFunc f args).run P w = .ok (.enter f args) w := fun args w => Enters.run ⟨fn, hf, by simp [hb], hn⟩ args w
  have henter : Frame.enter P f (#[Value.func (.yield (w.heap.size + 1)) #[] #[]] ++ vs.toArray) .normal =
      (callB f).atR { tmps := (#[Value.func (.yield (w.heap.size + 1)) #[] #[]] ++ vs.toArray) ++ Array.replicate (fn.ntmps - (#[Value.func (.yield (w.heap.size + 1)) #[] #[]] ++ vs.toArray).size) undef, defers := [] } [.code c] := by
    simp [Frame.enter, Frame.atR, hf, hb, callB]
  have hst := stepR_rangeFunc (P := P) (b := b) (a := a) (k := k) (cs := cs) (w := w) (g := g) (ps := ps) (assign := assign) (body := body) (l := w.heap.size + 1) (mark := [markD w.heap.size])
    (d := { target := .fn (.func f) vs.toArray, args := #[.func (.yield (w.heap.size + 1)) #[] #[]] }) (f := f) (args := #[Value.func (.yield (w.heap.size + 1)) #[] #[]] ++ vs.toArray)
    (w₁ := (w.alloc (.deferred (some []))).alloc (loopR b.fn a.tmps ps assign body w.heap.size .ready none)) (w₁' := (w.alloc (.deferred (some []))).alloc (loopR b.fn a.tmps ps assign body w.heap.size .ready none)) (w₂ := (w.alloc (.deferred (some []))).alloc (loopR b.fn a.tmps ps assign body w.heap.size .ready none))
    (by rw [hro]; exact run_enterLoop_outer _ _ _ _ _) (by simp only [resolve, e1]; simp [go_sem]) (by simp [invoke, go_sem, hent])
  have hsz1 : (w.alloc (.deferred (some []))).heap.size = w.heap.size + 1 := by simp
  rw [hsz1] at h2 hf2
  refine (?_ : ∃ m', T m' ∧ Steps P _ m').imp fun m' hm => ⟨hm.1, .head hst hm.2⟩
  rw [henter]
  refine h a (w.heap.size + 1) w.heap.size _ rfl hE.sz hE.df hf1 hf2 _ _ (Sat.ren (swJ j) ⟨E2, ?_⟩)
  refine ⟨?_, rfl, fun t sv' ht => ?_, h2.hp, h2.pins, fun p hp => ?_⟩
  · simp [Stt.sy]; omega
  · simp only [Stt.sy, klook] at ht
    by_cases h0 : t = 0
    · subst h0
      simp at ht; subst ht
      refine ⟨.func (.yield (w.heap.size + 1)) #[] #[], ?_, by simp [DenV, RdV]⟩
      rw [Array.getElem?_append_left (by simp)]
      simp
    · rw [if_neg h0, look_slotsV] at ht
      have h1t : 1 ≤ t := by omega
      rw [if_pos h1t] at ht
      obtain ⟨v, h3, h4⟩ := DenL_get hvs2 ht
      refine ⟨v, ?_, h4⟩
      have hlt : t - 1 < vs.length := (List.getElem?_eq_some_iff.1 h3).1
      rw [Array.getElem?_append_left (by simp; omega), Array.getElem?_append_right (by simpa using h1t)]
      simpa using h3
  · rcases List.mem_cons.1 hp with rfl | hp
    · exact h2.slots
    · exact h2.waits p hp
/-- parameters that are written -/
def setPs : List Nat → List SV → List (Nat × SV) → List (Nat × SV)
  | t :: ts, sv :: svs, S => setPs ts svs ((t, sv) :: S)
  | _, _, S => S
def argsV (S : List (Nat × SV)) : List Operand → Option (List SV)
  | [] => some []
  | x :: r => match evalL S x, argsV S r with
    | some sv, some svs => some (sv :: svs)
    | _, _ => none
theorem argsV_den {C : Ctx} {E : Env} {s : Stt} {a : Act} {w : World} (hE : SatE C E s.sy a w) : ∀ {l : List Operand} {svs : List SV}, argsV s.S l = some svs → DenL E w svs (l.map a.eval)
  | [], svs, h => by simp [argsV] at h; subst h; simp [DenL]
  | x :: r, svs, h => by
    simp only [argsV] at h
    split at h
    · rename_i sv svs' h1 h2
      cases h
      simp only [List.map_cons, DenL]
      exact ⟨_, _, rfl, evalO_den (s := s.sy) hE ((evalL_eq _ _).symm.trans h1), argsV_den hE h2⟩
    · cases h
theorem setPs_den {E : Env} {w : World} : ∀ {ps : List Nat} {svs : List SV} {vs : List Value} {S : List (Nat × SV)} {tm : Array Value}, DenL E w svs vs → (∀ t ∈ ps, t < tm.size) →
    (∀ t sv, klook t S = some sv → ∃ v, tm[t]? = some v ∧ DenV E w sv v) → ∀ t sv, klook t (setPs ps svs S) = some sv → ∃ v, ((ps.zip vs).foldl (fun tmps (t, a) => tmps.setIfInBounds t a) tm)[t]? = some v ∧ DenV E w sv v
  | [], svs, vs, S, tm, hd, hlt, hS => by simpa [setPs] using hS
  | p :: ps, [], vs, S, tm, hd, hlt, hS => by
    simp only [DenL] at hd; subst hd
    simpa [setPs] using hS
  | p :: ps, x :: svs, vs, S, tm, hd, hlt, hS => by
    simp only [DenL] at hd
    obtain ⟨v, vs', rfl, h1, h2⟩ := hd
    simp only [setPs, List.zip_cons_cons, List.foldl_cons]
    refine setPs_den h2 (fun t ht => by simp; exact hlt t (by simp [ht])) (fun t sv ht => ?_)
    simp only [klook] at ht
    by_cases htp : t = p
    · subst htp
      simp at ht; subst ht
      exact ⟨v, by simp [hlt t (by simp)], h1⟩
    · rw [if_neg htp] at ht
      obtain ⟨v', h3, h4⟩ := hS t sv ht
      exact ⟨v', by rw [Array.getElem?_setIfInBounds_ne (Ne.symm htp)]; exact h3, h4⟩
theorem foldl_size : ∀ (l : List (Nat × Value)) (tm : Array Value), (l.foldl (fun tmps (t, a) => tmps.setIfInBounds t a) tm).size = tm.size
  | [], tm => rfl
  | (t, v) :: l, tm => by simp [foldl_size l]
/-- the call of yield: a round -/
theorem Exec.yield {P : Program} {b : Frame} {cs : List Frame} {T : Machine → Prop} {C : Ctx} {k : List Item} {s : Stt} (j : Nat) {ops : Array Oper} {i m : Nat} {o : Oper} {y : Operand} {args : Array Operand} {ts : Array TypeId} {l bfn r No : Nat} {ps : Array Tmp} {assign body : Code}
    {pin : List (Nat × Obj)} {ao : Act} {So : List (Nat × SV)} {fz : List (Act × List (Nat × SV))} {svs : List SV} {pd : Option Code} {lo : LoopState → Option Code → Obj}
    (ho : ops[i]? = some o) (hop : o.op = .call { callee := .value y, args := args, argTypes := ts }) (hgd : o.guard = none) (hy : evalL s.S y = some (.d (.v (.func (.yield l) #[] #[])))) (hargs : argsV s.S args.toList = some svs)
    (hpin : s.pin = (l, lo .ready pd) :: pin) (hlo : lo = loopR bfn ao.tmps ps assign body r) (hfz : s.fz = (ao, So) :: fz) (hao : ao.tmps.size = No) (hps : (decide (ps.size = args.size) && ps.toList.all fun t => decide (t < No)) = true)
    (h : ∀ ag : Act, ag.tmps.size = s.N → ag.defers = s.df →
      Exec ⟨P, rndB bfn l, b.atR ag (.inRegion ops (i :: List.range' (i + 1) m) :: k) :: cs, T, C⟩ [.code assign, .beginRound, .code body]
        (renSt (swJ j) ⟨No, [], setPs ps.toList svs So, s.L, s.O, (ag, s.S) :: s.fz, s.pin⟩).sy) :
    Exec ⟨P, b, cs, T, C⟩ (.inRegion ops (List.range' i (m + 1)) :: k) s.sy := by
  subst hlo
  rw [Bool.and_eq_true, decide_eq_true_eq, List.all_eq_true] at hps
  obtain ⟨hps1, hps2⟩ := hps
  rw [List.range'_succ]
  intro a w ⟨E, hE⟩
  have hyv : a.eval y = .func (.yield l) #[] #[] := by
    have := evalO_den (s := s.sy) hE ((evalL_eq _ _).symm.trans hy)
    simpa [DenV, RdV] using this
  have hav := argsV_den hE hargs
  have hw : Region.wanted o (yielded ops a.tmps) = true := by unfold Region.wanted; rw [hgd]
  have hl : w.heap[l]? = some (loopR bfn ao.tmps ps assign body r .ready pd) := (hE.pins l _ (by simp [Stt.sy, hpin])).1
  have hg := stepGR_op (P := P) (b := b) (k := k) (cs := cs) (w := w) (a := a) (rest := List.range' (i + 1) m) ho hw
  rw [Oper.semAt_eq _ _ _ (by simp [hop])] at hg
  have hry := run_yield (P := P) (args := args.map a.eval) hl (by simpa using hps1.symm)
  have hr : (execOp a.eval o).run P w = .ok (.round l bfn ((ps.toList.zip (args.toList.map a.eval)).foldl (fun tmps (t, a) => tmps.setIfInBounds t a) ao.tmps) assign body) w := by
    have e1 : ((ps.zip (args.map a.eval)).foldl (fun tmps (t, a) => tmps.setIfInBounds t a) ao.tmps) = ((ps.toList.zip (args.toList.map a.eval)).foldl (fun tmps (t, a) => tmps.setIfInBounds t a) ao.tmps) := by
      rw [← Array.foldl_toList]; simp
    rw [← e1]
    simp [execOp, hop, resolve, hyv, Deferred.ofValue, invoke]
    simpa [loopR] using hry
  have hst : step P (lone (b.atR a (.inRegion ops (i :: List.range' (i + 1) m) :: k)) cs w) = .next (lone ((rndB bfn l).atR { tmps := (ps.toList.zip (args.toList.map a.eval)).foldl (fun tmps (t, a) => tmps.setIfInBounds t a) ao.tmps, defers := [] } [.code assign, .beginRound, .code body]) (b.atR a (.inRegion ops (i :: List.range' (i + 1) m) :: k) :: cs) w) :=
    step_lone_go (by rw [hg]; simp [stepG.apply, hr, Frame.atR, Frame.round, rndB])
  refine (?_ : ∃ m', T m' ∧ Steps P _ m').imp fun m' hm => ⟨hm.1, .head hst hm.2⟩
  refine h a hE.sz hE.df _ _ (Sat.ren (swJ j) ⟨E, ⟨?_, rfl, ?_, hE.hp, hE.pins, fun p hp => ?_⟩⟩)
  · simp only [Stt.sy, foldl_size, hao]
  · simp only [Stt.sy]
    exact setPs_den hav (fun t ht => by rw [hao]; simpa using hps2 t ht) (hE.waits (ao, So) (by simp [Stt.sy, hfz]))
  · rcases List.mem_cons.1 hp with rfl | hp
    · exact hE.slots
    · exact hE.waits p hp
/-- a round begins -/
theorem Exec.begin {P : Program} {bfn l : Nat} {cs : List Frame} {T : Machine → Prop} {C : Ctx} {k : List Item} {s : Stt} {fn r : Nat} {tm : Array Value} {ps : Array Tmp} {assign body : Code} {pin : List (Nat × Obj)} {pd : Option Code} {lo : LoopState → Option Code → Obj}
    (hpin : s.pin = (l, lo .ready pd) :: pin) (hlo : lo = loopR fn tm ps assign body r) (hf : Fresh l pin)
    (h : Exec ⟨P, rndB bfn l, cs, T, C⟩ k (Stt.mk s.N s.df s.S s.L s.O s.fz ((l, lo .busy pd) :: pin)).sy) : Exec ⟨P, rndB bfn l, cs, T, C⟩ (.beginRound :: k) s.sy := by
  subst hlo
  intro a w ⟨E, hE⟩
  have hl : w.heap[l]? = some (loopR fn tm ps assign body r .ready pd) := (hE.pins l _ (by simp [Stt.sy, hpin])).1
  obtain ⟨m', h1, h2⟩ := h a _ ⟨E, hE.pinSet (o' := loopR fn tm ps assign body r .busy pd) hpin hf⟩
  exact ⟨m', h1, .head (stepR_beginRound rfl (run_beginRound hl rfl)) h2⟩
/-- where a round ends: off its end, or by a jump -/
inductive RoundOut : List Item → Option Code → Prop
  | fall : RoundOut [] none
  | ret {k : List Item} : RoundOut (.code .ret :: k) (some .ret)
  | exit {k : List Item} {id : Nat} : exitTo id k = none → RoundOut (.code (.exit id) :: k) (some (.exit id))
def dstLt : Option Tmp → Nat → Bool
  | some t, N => decide (t < N)
  | none, _ => true
def putD : Option Tmp → SV → List (Nat × SV) → List (Nat × SV)
  | some t, sv, S => (t, sv) :: S
  | none, _, S => S
theorem Exec.roundEnd {P : Program} {b : Frame} {bfn l : Nat} {cs : List Frame} {T : Machine → Prop} {C : Ctx} {k k' : List Item} {s : Stt} (j : Nat) {fn r : Nat} {tm : Array Value} {ps : Array Tmp} {assign body : Code} {pin : List (Nat × Obj)} {pd jump : Option Code} {ag : Act} {Sg : List (Nat × SV)} {fz : List (Act × List (Nat × SV))}
    {ops : Array Oper} {i m Ng : Nat} {d : Option Tmp} {st : LoopState} {lo : LoopState → Option Code → Obj} (hk : RoundOut k jump)
    (hpin : s.pin = (l, lo .busy pd) :: pin) (hlo : lo = loopR fn tm ps assign body r) (hf : Fresh l pin) (hfz : s.fz = (ag, Sg) :: fz) (hag : ag.tmps.size = Ng) (hdf : ag.defers = []) (hd : (ops[i]?).bind (·.dst) = d) (hdN : dstLt d Ng = true)
    (hst : (if jump.isNone then LoopState.ready else .done) = st)
    (h : Exec ⟨P, b, cs, T, C⟩ (.inRegion ops (List.range' (i + 1) m) :: k') (renSt (swJ j) ⟨Ng, [], putD d (.d (.v (.bool jump.isNone))) Sg, s.L, s.O, fz, (l, lo st jump) :: pin⟩).sy) :
    Exec ⟨P, rndB bfn l, b.atR ag (.inRegion ops (i :: List.range' (i + 1) m) :: k') :: cs, T, C⟩ k s.sy := by
  subst hst hlo
  intro a w ⟨E, hE⟩
  have hl : w.heap[l]? = some (loopR fn tm ps assign body r .busy pd) := (hE.pins l _ (by simp [Stt.sy, hpin])).1
  have hend := run_endRound (P := P) jump hl
  have hfin : (b.atR ag (.inRegion ops (i :: List.range' (i + 1) m) :: k')).finish (.bool jump.isNone) = b.atR (ag.put d (.bool jump.isNone)) (.inRegion ops (List.range' (i + 1) m) :: k') := by
    rw [Frame.finish_atR, hd]
  have hstep : step P (lone ((rndB bfn l).atR a k) (b.atR ag (.inRegion ops (i :: List.range' (i + 1) m) :: k') :: cs) w) = .next (lone (b.atR (ag.put d (.bool jump.isNone)) (.inRegion ops (List.range' (i + 1) m) :: k')) cs (w.putObj l (loopR fn tm ps assign body r (if jump.isNone then .ready else .done) jump))) := by
    rw [← hfin]
    cases hk with
    | fall => exact stepR_round_end rfl rfl hend
    | ret => exact stepR_round_ret rfl rfl hend
    | exit hx => exact stepR_round_exit rfl rfl hx hend
  refine (?_ : ∃ m', T m' ∧ Steps P _ m').imp fun m' hm => ⟨hm.1, .head hstep hm.2⟩
  have h1 := hE.pinSet (o' := loopR fn tm ps assign body r (if jump.isNone then .ready else .done) jump) hpin hf
  refine h _ _ (Sat.ren (swJ j) ⟨E, ⟨?_, ?_, fun t sv ht => ?_, h1.hp, h1.pins, fun p hp => ?_⟩⟩)
  · rw [show (ag.put d (.bool jump.isNone)).tmps.size = ag.tmps.size from by cases d <;> simp [Act.put]]; exact hag
  · rw [show (ag.put d (.bool jump.isNone)).defers = ag.defers from by cases d <;> rfl]; exact hdf
  · rw [put_tmps (fun t ht => by subst ht; simp [dstLt] at hdN; rw [hag]; exact hdN)]
    simp only [Stt.sy] at ht
    cases d with
    | none =>
      simp only [putD] at ht
      rw [if_neg (by simp)]
      exact h1.waits (ag, Sg) (by simp only [Stt.sy, hfz]; exact List.mem_cons_self) t sv ht
    | some t' =>
      simp only [putD, klook] at ht
      by_cases htt : t = t'
      · subst htt
        simp at ht; subst ht
        exact ⟨.bool jump.isNone, by rw [if_pos rfl], by simp [DenV, RdV]⟩
      · rw [if_neg htt] at ht
        rw [if_neg (by simp; exact fun e => htt e.symm)]
        exact h1.waits (ag, Sg) (by simp [Stt.sy, hfz]) t sv ht
  · exact h1.waits p (by simp only [Stt.sy, hfz]; exact List.mem_cons_of_mem _ hp)
/-- the function has ended: the jump that waits, or on behind the loop -/
theorem Exec.rangeEnd {P : Program} {b : Frame} {f l : Nat} {cs : List Frame} {T : Machine → Prop} {C : Ctx} {k k' : List Item} {s : Stt} (j : Nat) {fn r No : Nat} {tm : Array Value} {ps : Array Tmp} {assign body : Code} {pin : List (Nat × Obj)} {pd : Option Code} {st : LoopState} {ao : Act} {So : List (Nat × SV)} {fz : List (Act × List (Nat × SV))} {fu : Func} {df : List Deferred} {lo : LoopState → Option Code → Obj}
    (hf : P.funcs[f]? = some fu) (hr : fu.results.toList = []) (hk : k = [] ∨ ∃ k1, k = .code .ret :: k1) (hdf : s.df = []) (hpin : s.pin = (l, lo st pd) :: pin) (hlo : lo = loopR fn tm ps assign body r) (hfr : Fresh l pin) (hst : (st == .busy) = false) (hfz : s.fz = (ao, So) :: fz) (hao : ao.tmps.size = No) (haod : ao.defers = df)
    (h : Exec ⟨P, b, cs, T, C⟩ ((pd.map Item.code).toList ++ k') (renSt (swJ j) ⟨No, markD r :: df, So, s.L, s.O, fz, pin⟩).sy) :
    Exec ⟨P, callB f, b.atR { ao with defers := markD r :: ao.defers } (.inRangeFunc l :: k') :: cs, T, C⟩ k s.sy := by
  subst hlo
  intro a w ⟨E, hE⟩
  have hl : w.heap[l]? = some (loopR fn tm ps assign body r st pd) := (hE.pins l _ (by simp [Stt.sy, hpin])).1
  have hend := run_endLoop (P := P) hl (by simp; intro e; subst e; simp at hst)
  have hd' : a.defers = [] := hE.df.trans hdf
  have s1 : step P (lone ((callB f).atR a k) (b.atR { ao with defers := markD r :: ao.defers } (.inRangeFunc l :: k') :: cs) w) = .next (lone { (callB f).atR a k with mode := .returning } (b.atR { ao with defers := markD r :: ao.defers } (.inRangeFunc l :: k') :: cs) w) := by
    rcases hk with rfl | ⟨k1, rfl⟩
    · exact stepR_end rfl
    · exact stepR_ret rfl
  have hre : fu.results = #[] := by cases hfr : fu.results with | mk l => simp [hfr] at hr; simp [hr]
  have hleave : Frame.leaving P { (callB f).atR a k with mode := .returning } w (.returned (.tuple #[])) := by
    refine ⟨rfl, hd', rfl, fu, hf, ?_⟩
    have hm : (fu.results.mapM (rvSem a.tmps)).run P w = .ok #[] w := by rw [hre, Array.mapM_eq_mapM_toList]; simp
    rw [results_eq]
    simp only [Sem.run_bind]
    show Result.andThen ((fu.results.mapM (rvSem a.tmps)).run P w) _ = _
    rw [hm, Result.andThen_ok]; rfl
  have s2 := step_leave_returned (c := b.atR { ao with defers := markD r :: ao.defers } (.inRangeFunc l :: k')) (cs := cs) hleave
  rw [finish_atR_inRangeFunc] at s2
  have s3 := stepR_endRangeFunc (P := P) (b := b) (a := { ao with defers := markD r :: ao.defers }) (k := k') (cs := cs) hend
  refine (?_ : ∃ m', T m' ∧ Steps P _ m').imp fun m' hm => ⟨hm.1, .head s1 (.head s2 (.head s3 hm.2))⟩
  have h1 := (hE.pinSet (o' := loopR fn tm ps assign body r .exhausted pd) hpin hfr).pinDrop rfl
  refine h _ _ (Sat.ren (swJ j) ⟨E, ⟨hao, by simp only [Stt.sy, haod], ?_, h1.hp, h1.pins, fun p hp => ?_⟩⟩)
  · exact h1.waits (ao, So) (by simp [Stt.sy, hfz])
  · exact h1.waits p (by simp only [Stt.sy, hfz]; exact List.mem_cons_of_mem _ hp)
theorem resV_same {te : TE} {s s' : Stt} (hS : s.S = s'.S) (hL : s.L = s'.L) (hO : s.O = s'.O) : ∀ {l : List ResultVar}, resV te s l = resV te s' l
  | [] => rfl
  | .tmp t :: r => by simp only [resV, hS, hL, hO, resV_same hS hL hO (l := r)]
  | .cell t ty :: r => by simp only [resV, hS, hL, hO, resV_same hS hL hO (l := r)]
/-- the marks of the loops of a function, the last first -/
inductive Marks : List Deferred → List (Nat × Obj) → Prop
  | nil {pin : List (Nat × Obj)} : Marks [] pin
  | cons {r : Nat} {df : List Deferred} {pin : List (Nat × Obj)} : Fresh r pin → Marks df pin → Marks (markD r :: df) ((r, .deferred (some [])) :: pin)
theorem Marks.run {P : Program} {b : Frame} {cs : List Frame} {C : Ctx} {k : List Item} {N : Nat} {S : List (Nat × SV)} {L : List (Nat × TypeId × List SV)} {O : List (Nat × Ow)} {fz : List (Act × List (Nat × SV))} {df : List Deferred} {pin : List (Nat × Obj)} (h : Marks df pin) :
    ∀ {E : Env} {a : Act} {w : World}, SatE C E (Stt.mk N df S L O fz pin).sy a w → ∃ a' w' pin', SatE C E (Stt.mk N [] S L O fz pin').sy a' w' ∧ Steps P (lone { b.atR a k with mode := .returning } cs w) (lone { b.atR a' k with mode := .returning } cs w') := by
  induction h with
  | nil => exact fun {E a w} hE => ⟨a, w, _, hE, Steps.refl _ _⟩
  | @cons r df pin hf _ ih =>
    intro E a w hE
    have hr : w.heap[r]? = some (.deferred (some [])) := (hE.pins r _ (by simp [Stt.sy])).1
    have h1 := (hE.pinSet (o' := .deferred none) rfl hf).pinDrop rfl
    have h2 : SatE C E (Stt.mk N df S L O fz pin).sy { a with defers := df } (w.putObj r (.deferred none)) := ⟨h1.sz, rfl, h1.slots, h1.hp, h1.pins, h1.waits⟩
    obtain ⟨a', w', pin', h3, h4⟩ := ih h2
    refine ⟨a', w', pin', h3, .head (step_collected (fr := { b.atR a k with mode := .returning }) (d := markD r) (ds := df) (r := r) (calls := []) (by simp) ?_ rfl (run_takeDeferred hr)) h4⟩
    exact hE.df
/-- a return from a function that holds such loops -/
theorem Exec.retM {te : TE} {R : Rn} {P : Program} {f : FuncId} {fn : Func} {res : D} (hR : FnRun R I P f fn res) (hte : TEok P te) {s : Stt} (hdf : Marks s.df s.pin) {k : List Item} {ds : List D} (hr : resV te s fn.results.toList = some ds) (he : LeD (resD ds) res) (hk : k = [] ∨ ∃ k', k = .code .ret :: k') :
    Exec R k s.sy := by
  intro a w ⟨E, hE⟩
  obtain ⟨a', w', pin', h1, h2⟩ := hdf.run (P := R.P) (b := R.b) (cs := R.cs) (k := k) hE
  have hr' : resV te (Stt.mk s.N [] s.S s.L s.O s.fz pin') fn.results.toList = some ds := by
    rw [← hr]; exact resV_same (s := Stt.mk s.N [] s.S s.L s.O s.fz pin') (s' := s) rfl rfl rfl
  refine ⟨_, ret_T hR hte (s := Stt.mk s.N [] s.S s.L s.O s.fz pin') rfl hr' he (k := k) ⟨E, h1⟩, ?_⟩
  rcases hk with rfl | ⟨k', rfl⟩
  · exact .head (stepR_end hR.round) h2
  · exact .head (stepR_ret hR.round) h2
theorem Exec.retsM {te : TE} {P : Program} {b : Frame} {cs : List Frame} {T : Machine → Prop} {C : Ctx} {f : FuncId} {fn : Func} {res : D} (hR : FnRun ⟨P, b, cs, T, C⟩ I P f fn res) (hte : TEok P te) {s : Stt} {rv : List ResultVar} (hrv : fn.results.toList = rv) (hdf : Marks s.df s.pin) {k : List Item} {ds : List D} (hr : resV te s rv = some ds) (he : LeD (resD ds) res) (hk : k = [] ∨ ∃ k', k = .code .ret :: k') :
    Exec ⟨P, b, cs, T, C⟩ k s.sy := by subst hrv; exact Exec.retM hR hte hdf hr he hk
end Go.Kin
namespace Go.Kin
open Go.RowKit
attribute [go_sem] runL_nil runL_cons runX_none runX_nil runX_cons runD_nil runD_cons runDX_stop runDX_nil_box runDX_nil_val runDX_cons_box runDX_cons_val runT_nil runT_cons runTX_none runTX_nil runTX_cons pureR pendD List.getElem?_toArray Op.operands Call.operands List.append_toArray
attribute [go_sem] Int.toNat_natCast
attribute [go_sem] Value.int.injEq Value.bool.injEq Value.string.injEq Int.natCast_zero
attribute [go_sem] repD chunk bndO srcSV sliceElem lfR lfD catR_zero offR_zero frzSt frzS frzLL frzSV frzL Int.toNat_zero Int.sub_zero Int.toNat_natCast
attribute [go_sem] killF mapF LeF frzF mgF sameF
attribute [go_sem] Option.isNone_none Option.isNone_some
attribute [go_sem] restS famSt nilStep nilEq
attribute [go_sem] keepL nlOk bsD un1 unS swp swJ renV renL renS renLL renO renF renSt setPs argsV slotsV fnCaps putD dsts
attribute [go_sem] isVCall step2 plainStep pickStep gstep gfall pickG opS pickS cndsS opTmps evalL unop cndOf wantR stepO stepB stepA stepW setDs lentK fnCaps dstOk klook evalO applyL delK delKs killS mapS mapL killLs keysOf kill killL cellsSV aggD ownsOk fieldOf sliceElem isStr isSl isBoolT one1 mkSV allD mkD setCs leafSV partsD partD placesOf fillS setMany pickSV binV unV slotsFrom eqV eqFs preL baseL isAlloc putS cleanSV cleanL argsD undef resV toD toDs toD1 toD1s toD2 toD2s resD LeX LeXs LeXv LeSV LeSVs LeS LeL LeO LeOw mgSt mgS mgL mgO mgSV mgSVs mgD mgDs mgVD mgV isNilS
attribute [go_sem] List.drop_zero List.drop_succ_cons List.drop_nil List.take_zero List.take_succ_cons List.take_nil List.length_cons List.length_nil List.head?_cons List.headD_cons List.map_cons List.map_nil List.getElem?_cons_zero List.getElem?_cons_succ List.getElem?_nil List.mapM_nil List.mapM_cons List.set_cons_zero List.set_cons_succ List.set_nil List.cons_append List.nil_append List.append_nil List.all_cons List.all_nil List.contains_cons List.contains_nil Option.isSome_some Option.isSome_none Option.bind_eq_bind Option.bind_some Option.map_some Option.map_none Option.pure_def
attribute [go_sem] Bool.or_true Bool.true_or Bool.or_false Bool.false_or Bool.and_true Bool.true_and Bool.and_false Bool.false_and Bool.not_true Bool.not_false Bool.false_eq_true Bool.true_eq_false Bool.not_not beq_self_eq_true decide_true decide_false decide_eq_true_eq and_self and_true true_and false_and and_false or_true true_or or_false false_or reduceIte reduceCtorEq reduceDIte Nat.reduceLT Nat.reduceMod Nat.reduceLeDiff Nat.reduceEqDiff Nat.reduceAdd Nat.reduceSub Nat.reduceMul Nat.reduceBEq Nat.add_zero Nat.zero_add Nat.le_refl Nat.succ_ne_self Nat.one_ne_zero ne_eq not_false_eq_true not_true_eq_false Int.reduceNeg List.getD_cons_zero List.getD_cons_succ List.isEmpty_nil List.isEmpty_cons Int.reduceBEq Int.reduceBNe Int.reduceLT Int.reduceLE Int.reduceEq Int.reduceNe bne_self_eq_false beq_true beq_false BEq.rfl cond_true cond_false Bool.cond_self Bool.cond_true_left Bool.cond_false_right imp_self forall_const implies_true forall_eq' and_assoc false_imp_iff true_imp_iff and_imp
end Go.Kin
