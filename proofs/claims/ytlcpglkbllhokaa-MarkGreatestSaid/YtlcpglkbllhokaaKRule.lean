/- Calls inside a region, and states that say less. -/
import Derived.Test.YtlcpglkbllhokaaKFn
namespace Go.Kin
open Go.RowKit

section
variable {P : Program} {C : Ctx} {ops : Array Oper} {o : Oper} {r rev : List Oper} {i : Nat} {st : Stt} {Q : Sy → Prop} {te : TE}

/-- one operation by a word of its own -/
theorem walk_by {res : Res} (hte : TEok P te) (hw : wantR i rev st.S o = some true) (h : Ok1 P C o st.sy res) (hr : runL P C te ops (i + 1) (o :: rev) r (applyL o.dst res st) Q) : WalkI P C ops i rev (o :: r) st.sy Q := fun hi hl => by
  obtain ⟨ho, hr'⟩ := drop_cons hl
  exact .inl ⟨wantR_spec hi hw, res, h, by rw [← applyL_sy]; exact runL_walk hte hr (hi.cons ho) hr'⟩

theorem kcall (hte : TEok P te) (hw : wantR i rev st.S o = some true) (hd : dstOk o st.N = true) {f : Operand} {args : Array Operand} {ts : Array TypeId} {g : FuncId} {caps ds all : List D} {res : D}
    (ho : o.op = .call { callee := .value f, args := args, argTypes := ts }) (hf : evalO (fun t => klook t st.S) f = some (.d (.fn g caps))) (hargs : argsD (fun t => klook t st.S) args.toList = some ds) (hall : ds ++ caps = all)
    (h : FnOK P g all res) (hr : runL P C te ops (i + 1) (o :: rev) r (applyL o.dst ⟨.d res, [], [], [], []⟩ st) Q) : WalkI P C ops i rev (o :: r) st.sy Q := by
  subst hall
  exact walk_by hte hw (ok_call ho (dstOk_spec hd) hf hargs h) hr
end

/-! ### a state that says less -/
inductive LeSV (ρ : Nat → Nat) : SV → SV → Prop
  | d {x y : D} (h : LeD x y) : LeSV ρ (.d x) (.d y)
  | lp (k o : Nat) : LeSV ρ (.lp k o) (.lp k o)
  | own (k : Nat) : LeSV ρ (.own (ρ k)) (.own k)
  | junk (sv : SV) : LeSV ρ sv .junk
theorem LeSV.refl_d (ρ : Nat → Nat) (x : D) : LeSV ρ (.d x) (.d x) := .d (LeD.refl x)

def LeSVs (ρ : Nat → Nat) : List SV → List SV → Prop
  | [], [] => True
  | x :: xs, y :: ys => LeSV ρ x y ∧ LeSVs ρ xs ys
  | _, _ => False

theorem LeSV.den {ρ : Nat → Nat} {E : Env} {w : World} {x y : SV} {v : Value} (h : LeSV ρ x y) (hv : DenV E w x v) : DenV { E with ω := fun k => E.ω (ρ k) } w y v := by
  cases h with
  | d h => simp only [DenV] at hv ⊢; exact h _ _ _ hv
  | lp k o => simp only [DenV] at hv ⊢; exact hv
  | own k => simp only [DenV] at hv ⊢; exact hv
  | junk => simp only [DenV]
theorem LeSVs.den {ρ : Nat → Nat} {E : Env} {w : World} : ∀ {xs ys : List SV} {vs : List Value}, LeSVs ρ xs ys → DenL E w xs vs → DenL { E with ω := fun k => E.ω (ρ k) } w ys vs
  | [], [], _, _, h => by simpa [DenL] using h
  | x :: xs, y :: ys, vs, hle, h => by
    simp only [DenL] at h ⊢
    obtain ⟨v, vs', rfl, h1, h2⟩ := h
    exact ⟨v, vs', rfl, hle.1.den h1, hle.2.den h2⟩
  | [], _ :: _, _, hle, _ => hle.elim
  | _ :: _, [], _, hle, _ => hle.elim

def LeS (ρ : Nat → Nat) (S : List (Nat × SV)) : List (Nat × SV) → Prop
  | [] => True
  | (t, y) :: r => (∃ x, klook t S = some x ∧ LeSV ρ x y) ∧ LeS ρ S r
def LeL (ρ : Nat → Nat) (L : List (Nat × TypeId × List SV)) : List (Nat × TypeId × List SV) → Prop
  | [] => True
  | (k, T, ys) :: r => (∃ xs, klook k L = some (T, xs) ∧ LeSVs ρ xs ys) ∧ LeL ρ L r
def LeO (ρ : Nat → Nat) (O : List (Nat × TypeId × Nat × List (List D))) : List (Nat × TypeId × Nat × List (List D)) → Prop
  | [] => True
  | (k, e) :: r => klook (ρ k) O = some e ∧ LeO ρ O r
def injOn (ρ : Nat → Nat) : List Nat → Prop
  | [] => True
  | k :: r => (∀ j ∈ r, ρ k = ρ j → k = j) ∧ injOn ρ r

theorem LeS_look {ρ : Nat → Nat} {S : List (Nat × SV)} : ∀ {l : List (Nat × SV)}, LeS ρ S l → ∀ {t : Nat} {y : SV}, klook t l = some y → ∃ x, klook t S = some x ∧ LeSV ρ x y
  | [], _, t, y, h => by simp [klook] at h
  | (t', y') :: r, hl, t, y, h => by
    simp only [klook] at h
    by_cases ht : t = t'
    · subst ht; simp at h; subst h; exact hl.1
    · rw [if_neg ht] at h; exact LeS_look hl.2 h
theorem LeL_look {ρ : Nat → Nat} {L : List (Nat × TypeId × List SV)} : ∀ {l : List (Nat × TypeId × List SV)}, LeL ρ L l → ∀ {k : Nat} {T : TypeId} {ys : List SV}, klook k l = some (T, ys) → ∃ xs, klook k L = some (T, xs) ∧ LeSVs ρ xs ys
  | [], _, t, y, _, h => by simp [klook] at h
  | (t', T', y') :: r, hl, t, T, y, h => by
    simp only [klook] at h
    by_cases ht : t = t'
    · subst ht; simp at h; obtain ⟨rfl, rfl⟩ := h; exact hl.1
    · rw [if_neg ht] at h; exact LeL_look hl.2 h
theorem LeO_look {ρ : Nat → Nat} {O : List (Nat × TypeId × Nat × List (List D))} : ∀ {l : List (Nat × TypeId × Nat × List (List D))}, LeO ρ O l → ∀ {k : Nat} {e : TypeId × Nat × List (List D)}, klook k l = some e → klook (ρ k) O = some e
  | [], _, t, y, h => by simp [klook] at h
  | (t', y') :: r, hl, t, y, h => by
    simp only [klook] at h
    by_cases ht : t = t'
    · subst ht; simp at h; subst h; exact hl.1
    · rw [if_neg ht] at h; exact LeO_look hl.2 h
theorem injOn_look {α : Type} {ρ : Nat → Nat} : ∀ {l : List (Nat × α)}, injOn ρ (keysOf l) → ∀ {k j : Nat} {x y : α}, klook k l = some x → klook j l = some y → ρ k = ρ j → k = j
  | [], _, k, j, x, y, h, _, _ => by simp [klook] at h
  | (k', x') :: r, hi, k, j, x, y, hk, hj, he => by
    simp only [klook] at hk hj
    simp only [keysOf, injOn] at hi
    have hmem : ∀ {i : Nat} {z : α}, klook i r = some z → i ∈ keysOf r := fun {i z} hz => by
      have := look_keys i r
      rw [hz] at this
      simpa using this
    by_cases h1 : k = k' <;> by_cases h2 : j = k'
    · rw [h1, h2]
    · subst h1
      rw [if_neg h2] at hj
      exact hi.1 j (hmem hj) he
    · subst h2
      rw [if_neg h1] at hk
      exact (hi.1 k (hmem hk) he.symm).symm
    · rw [if_neg h1] at hk; rw [if_neg h2] at hj
      exact injOn_look hi.2 hk hj he

/-- the second state says less than the first; keys of own slices are called otherwise -/
theorem Exec.weak {R : Rn} {k : List Item} {s s' : Stt} (ρ : Nat → Nat) (hN : s.N = s'.N) (hdf : s.df = s'.df) (hS : LeS ρ s.S s'.S) (hL : LeL ρ s.L s'.L) (hO : LeO ρ s.O s'.O) (hi : injOn ρ (keysOf s'.O)) (h : Exec R k s'.sy) : Exec R k s.sy := by
  intro a w ⟨E, hE⟩
  refine h a w ⟨{ E with ω := fun k => E.ω (ρ k) }, ?_⟩
  refine ⟨hE.sz.trans hN, hE.df.trans hdf, fun t sv hs => ?_, ⟨hE.hp.bel, hE.hp.z, fun key T cs hk => ?_, fun key e hk => ?_, fun key key' e e' hk hk' heq => ?_, fun key e kk rows hk => ?_, fun key e g hk hg => ?_, fun key key' e e' g hk hk' hg hg' => ?_⟩⟩
  · obtain ⟨x, h1, h2⟩ := LeS_look hS hs
    obtain ⟨v, h3, h4⟩ := hE.slots t x h1
    exact ⟨v, h3, h2.den h4⟩
  · obtain ⟨xs, h1, h2⟩ := LeL_look hL hk
    obtain ⟨vs, h3, h4⟩ := hE.hp.loc key T xs h1
    exact ⟨vs, h3, h2.den h4⟩
  · obtain ⟨T, ys⟩ := e
    obtain ⟨xs, h1, h2⟩ := LeL_look hL hk
    exact hE.hp.locN key _ h1
  · obtain ⟨T, ys⟩ := e
    obtain ⟨T', ys'⟩ := e'
    obtain ⟨xs, h1, _⟩ := LeL_look hL hk
    obtain ⟨xs', h1', _⟩ := LeL_look hL hk'
    exact hE.hp.locD key key' _ _ h1 h1' heq
  · have h1 := LeO_look hO hk
    exact hE.hp.own (ρ key) e kk rows h1
  · have h1 := LeO_look hO hk
    have h2 := hE.hp.ownN (ρ key) e g h1 hg
    refine ⟨h2.1, h2.2.1, fun key' e' hk' => ?_⟩
    obtain ⟨T, ys⟩ := e'
    obtain ⟨xs, h3, _⟩ := LeL_look hL hk'
    exact h2.2.2 key' _ h3
  · exact injOn_look hi hk hk' (hE.hp.ownD (ρ key) (ρ key') e e' g (LeO_look hO hk) (LeO_look hO hk') hg hg')

/-- a nil slice may be taken as one of the function's own -/
theorem Exec.ownNil {R : Rn} {k : List Item} {s : Stt} (t key : Nat) (e : TypeId) (kk : Nat) (ht : klook t s.S = some (.d (.v (.slice none 0 0)))) (hkey : klook key s.O = none)
    (h : Exec R k (Stt.mk s.N s.df ((t, .own key) :: delK t (mapS [key] [] s.S)) (mapL [key] [] s.L) ((key, e, kk, []) :: s.O)).sy) : Exec R k s.sy := by
  intro a w ⟨E, hE⟩
  refine h a w ⟨{ E with ω := fun x => if x = key then .slice none 0 0 else E.ω x }, ?_⟩
  have hω : ∀ x, [key].contains x = false → (fun x => if x = key then Value.slice none 0 0 else E.ω x) x = E.ω x := fun x hx => by
    have : x ≠ key := by intro e; subst e; simp at hx
    simp [this]
  have hk0 : Keeps w E.Z w E.Z := ⟨fun _ h => h, fun _ _ => rfl⟩
  have hOe : ∀ x y, klook x ((key, e, kk, ([] : List (List D))) :: s.O) = some y → (x = key ∧ y = (e, kk, [])) ∨ (x ≠ key ∧ klook x s.O = some y) := fun x y hx => by
    simp only [klook] at hx
    by_cases hxk : x = key
    · simp [hxk] at hx; exact .inl ⟨hxk, hx.symm⟩
    · rw [if_neg hxk] at hx; exact .inr ⟨hxk, hx⟩
  refine ⟨hE.sz, hE.df, fun t' sv hs => ?_, ⟨hE.hp.bel, hE.hp.z, fun key' T cs hk => ?_, fun key' e' hk => ?_, fun key1 key2 e1 e2 hk hk' heq => ?_, fun key' e' kk' rows hk => ?_, fun key' e' g hk hg => ?_, fun key1 key2 e1 e2 g hk hk' hg hg' => ?_⟩⟩
  · simp only [Stt.sy, klook, look_delK, look_mapS] at hs
    by_cases htt : t' = t
    · subst htt
      simp at hs; subst hs
      obtain ⟨v, h1, h2⟩ := hE.slots t' _ ht
      refine ⟨v, h1, ?_⟩
      simp only [DenV, RdV] at h2 ⊢
      simp [h2]
    · simp only [htt, if_false] at hs
      cases hx : klook t' s.S with
      | none => simp [hx] at hs
      | some x =>
        simp [hx] at hs; subst hs
        obtain ⟨v, h1, h2⟩ := hE.slots t' _ hx
        exact ⟨v, h1, DenV.kill (E' := { E with ω := fun x => if x = key then .slice none 0 0 else E.ω x }) hk0 (fun _ _ => rfl) hω h2⟩
  · simp only [Stt.sy, look_mapL] at hk
    cases hx : klook key' s.L with
    | none => simp [hx, killE] at hk
    | some x =>
      obtain ⟨T', cs'⟩ := x
      simp [hx, killE] at hk
      obtain ⟨rfl, rfl⟩ := hk
      obtain ⟨vs, h1, h2⟩ := hE.hp.loc key' _ _ hx
      exact ⟨vs, h1, DenL.kill (E' := { E with ω := fun x => if x = key then .slice none 0 0 else E.ω x }) hk0 (fun _ _ => rfl) hω h2⟩
  · simp only [Stt.sy, look_mapL] at hk
    cases hx : klook key' s.L with
    | none => simp [hx, killE] at hk
    | some x => exact hE.hp.locN key' _ hx
  · simp only [Stt.sy, look_mapL] at hk hk'
    cases hx : klook key1 s.L with
    | none => simp [hx, killE] at hk
    | some x =>
      cases hy : klook key2 s.L with
      | none => simp [hy, killE] at hk'
      | some y => exact hE.hp.locD key1 key2 _ _ hx hy heq
  · rcases hOe _ _ hk with ⟨rfl, h1⟩ | ⟨hne, h1⟩
    · cases h1; exact ⟨⟨by simp, by simp⟩, .inl ⟨by simp, rfl⟩⟩
    · have := hE.hp.own key' e' kk' rows h1
      unfold OwnE at this ⊢
      simpa [hne] using this
  · rcases hOe _ _ hk with ⟨rfl, h1⟩ | ⟨hne, h1⟩
    · simp [Value.ownBlock] at hg
    · simp only [hne, if_false] at hg
      have h2 := hE.hp.ownN key' e' g h1 hg
      refine ⟨h2.1, h2.2.1, fun key1 e1 hk1 => ?_⟩
      simp only [Stt.sy, look_mapL] at hk1
      cases hx : klook key1 s.L with
      | none => simp [hx, killE] at hk1
      | some x => exact h2.2.2 key1 _ hx
  · rcases hOe _ _ hk with ⟨rfl, h1⟩ | ⟨hne, h1⟩
    · simp [Value.ownBlock] at hg
    · rcases hOe _ _ hk' with ⟨rfl, h2⟩ | ⟨hne', h2⟩
      · simp [Value.ownBlock] at hg'
      · simp only [hne, if_false] at hg; simp only [hne', if_false] at hg'
        exact hE.hp.ownD key1 key2 _ _ g h1 h2 hg hg'
end Go.Kin
