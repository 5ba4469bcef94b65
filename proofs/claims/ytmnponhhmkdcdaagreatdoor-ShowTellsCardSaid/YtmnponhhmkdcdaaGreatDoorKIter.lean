/- Ranges over texts, and loops whose iterator is pinned. -/
import Derived.Test.YtmnponhhmkdcdaaGreatDoorKRange
import Derived.Laws.RangeAny
namespace Go.Kin
open Go.RowKit

/-! ### a range over a text: its iterator is a block that is known whole -/
theorem run_next_more {P : Program} {w : World} {l pos : Nat} {str : ByteArray} {ty : TypeId} (hl : w.heap[l]? = some (.stringIter str pos)) (h : pos < str.size) :
    (Instr.next (.pointer (some ⟨l, 0, none⟩)) true ty).run P w = .ok (.tuple #[.bool true, .int .i64 pos, .int .i32 (Utf8.decode str pos).1]) (w.putObj l (.stringIter str (pos + (Utf8.decode str pos).2))) := by
  simp only [Instr.next, getObj, setObj, Sem.run_bind, Sem.run, hl, Result.andThen, h, if_true, World.putObj]
  simp [goInt]
theorem run_next_none {P : Program} {w : World} {l pos : Nat} {str : ByteArray} {ty : TypeId} (hl : w.heap[l]? = some (.stringIter str pos)) (h : ¬ pos < str.size) :
    (Instr.next (.pointer (some ⟨l, 0, none⟩)) true ty).run P w = .ok (.tuple #[.bool false]) w := by
  simp [Instr.next, getObj, Sem.run, hl, h]
def putSl (d : Nat) (sv : SV) (s : Stt) : Stt := ⟨s.N, s.df, (d, sv) :: s.S, s.L, s.O, s.fz, s.pin⟩
theorem SatE.putSl {C : Ctx} {E : Env} {s : Stt} {a : Act} {w : World} (h : SatE C E s.sy a w) {d : Nat} (hd : d < s.N) {sv : SV} {u : Value} (hu : DenV E w sv u) : SatE C E (putSl d sv s).sy (a.put (some d) u) w := by
  have := h.slot (d := some d) (fun t ht => by cases ht; exact hd) hu
  have e := applyL_sy (some d) ⟨sv, [], [], [], []⟩ s
  rw [← e] at this
  exact this
theorem Exec.rangeStr {P : Program} {b : Frame} {cs : List Frame} {T : Machine → Prop} {C : Ctx} {k : List Item} {te : TE} (hte : TEok P te) {ops : Array Oper} {i m : Nat} {o : Oper} {x : Operand} {t d : Nat} {str : ByteArray} {s : Stt}
    (ho : ops[i]? = some o) (hop : o.op = .range t x) (hg : o.guard = none) (hd : o.dst = some d) (hdN : decide (d < s.N) = true) (hx : evalL s.S x = some (.d (.v (.string str)))) (ht : isStr te t = true)
    (h : ∀ l, Fresh l s.pin → Exec ⟨P, b, cs, T, C⟩ (.inRegion ops (List.range' (i + 1) m) :: k) (Stt.mk s.N s.df ((d, .d (.v (.pointer (some ⟨l, 0, none⟩)))) :: s.S) s.L s.O s.fz ((l, .stringIter str 0) :: s.pin)).sy) :
    Exec ⟨P, b, cs, T, C⟩ (.inRegion ops (List.range' i (m + 1)) :: k) s.sy := by
  intro a w ⟨E, hE⟩
  obtain ⟨ti, hti, hu⟩ := isStr_spec hte ht
  have hv : a.eval x = .string str := by
    have := evalO_den hE (x := x) (sv := .d (.v (.string str))) ((evalL_eq _ _).symm.trans hx)
    simpa only [DenV, RdV] using this
  have hr : gives P o a.eval w fun u w' => u = .pointer (some ⟨w.heap.size, 0, none⟩) ∧ w' = w.alloc (.stringIter str 0) := by
    unfold gives execOp
    simp only [hop]
    rw [hv, Sem.run_bind, run_range_string w t str (by rw [hti.1, hu])]
    exact ⟨rfl, rfl⟩
  obtain ⟨u, w', ⟨rfl, rfl⟩, hs⟩ := gives_step (b := b) (cs := cs) (k := k) (rest := List.range' (i + 1) m) ho (by unfold Region.wanted; rw [hg]) (by rw [hop]; intro c hc; cases hc) hr
  obtain ⟨E', h1, h2⟩ := hE.pinNew (.stringIter str 0)
  have h3 := h1.putSl (d := d) (by simpa using hdN) (sv := .d (.v (.pointer (some ⟨w.heap.size, 0, none⟩)))) (u := .pointer (some ⟨w.heap.size, 0, none⟩)) (by simp only [DenV, RdV])
  obtain ⟨m', hm, hst⟩ := h w.heap.size h2 _ _ ⟨E', h3⟩
  rw [← hd] at hst
  refine ⟨m', hm, ?_⟩
  have e : List.range' i (m + 1) = i :: List.range' (i + 1) m := rfl
  rw [e]
  exact hs.trans hst
theorem Exec.nextStr {P : Program} {b : Frame} {cs : List Frame} {T : Machine → Prop} {C : Ctx} {k : List Item} {ops : Array Oper} {i m : Nat} {o : Oper} {x : Operand} {d l pos : Nat} {str : ByteArray} {s : Stt} {pin : List (Nat × Obj)}
    (ho : ops[i]? = some o) (hop : o.op = .next x true) (hg : o.guard = none) (hd : o.dst = some d) (hdN : decide (d < s.N) = true) (hx : evalL s.S x = some (.d (.v (.pointer (some ⟨l, 0, none⟩))))) (hpin : s.pin = (l, .stringIter str pos) :: pin) (hf : Fresh l pin)
    (h1 : pos < str.size → Exec ⟨P, b, cs, T, C⟩ (.inRegion ops (List.range' (i + 1) m) :: k) (Stt.mk s.N s.df ((d, .d (.tup [.v (.bool true), .v (.int .i64 pos), .v (.int .i32 (Utf8.decode str pos).1)])) :: s.S) s.L s.O s.fz ((l, .stringIter str (pos + (Utf8.decode str pos).2)) :: pin)).sy)
    (h2 : ¬ pos < str.size → Exec ⟨P, b, cs, T, C⟩ (.inRegion ops (List.range' (i + 1) m) :: k) (Stt.mk s.N s.df ((d, .d (.tup [.v (.bool false)])) :: s.S) s.L s.O s.fz s.pin).sy) :
    Exec ⟨P, b, cs, T, C⟩ (.inRegion ops (List.range' i (m + 1)) :: k) s.sy := by
  intro a w ⟨E, hE⟩
  have hl : w.heap[l]? = some (.stringIter str pos) := (hE.pins l _ (by simp [Stt.sy, hpin])).1
  have hv : a.eval x = .pointer (some ⟨l, 0, none⟩) := by
    have := evalO_den hE (x := x) (sv := .d (.v (.pointer (some ⟨l, 0, none⟩)))) ((evalL_eq _ _).symm.trans hx)
    simpa only [DenV, RdV] using this
  have e : List.range' i (m + 1) = i :: List.range' (i + 1) m := rfl
  rw [e]
  by_cases hp : pos < str.size
  · have hr : gives P o a.eval w fun u w' => u = .tuple #[.bool true, .int .i64 pos, .int .i32 (Utf8.decode str pos).1] ∧ w' = w.putObj l (.stringIter str (pos + (Utf8.decode str pos).2)) := by
      unfold gives execOp
      simp only [hop]
      rw [hv, Sem.run_bind, run_next_more hl hp]
      exact ⟨rfl, rfl⟩
    obtain ⟨u, w', ⟨rfl, rfl⟩, hs⟩ := gives_step (b := b) (cs := cs) (k := k) (rest := List.range' (i + 1) m) ho (by unfold Region.wanted; rw [hg]) (by rw [hop]; intro c hc; cases hc) hr
    have h3 := (hE.pinSet (o' := .stringIter str (pos + (Utf8.decode str pos).2)) hpin hf).putSl (d := d) (by simpa using hdN) (sv := .d (.tup [.v (.bool true), .v (.int .i64 pos), .v (.int .i32 (Utf8.decode str pos).1)])) (u := .tuple #[.bool true, .int .i64 pos, .int .i32 (Utf8.decode str pos).1])
      (by simp only [DenV, RdV, RdL]; exact ⟨_, rfl, _, _, rfl, rfl, _, _, rfl, rfl, _, _, rfl, rfl, rfl⟩)
    obtain ⟨m', hm, hst⟩ := h1 hp _ _ ⟨E, h3⟩
    rw [← hd] at hst
    exact ⟨m', hm, hs.trans hst⟩
  · have hr : gives P o a.eval w fun u w' => u = .tuple #[.bool false] ∧ w' = w := by
      unfold gives execOp
      simp only [hop]
      rw [hv, Sem.run_bind, run_next_none hl hp]
      exact ⟨rfl, rfl⟩
    obtain ⟨u, w', ⟨rfl, rfl⟩, hs⟩ := gives_step (b := b) (cs := cs) (k := k) (rest := List.range' (i + 1) m) ho (by unfold Region.wanted; rw [hg]) (by rw [hop]; intro c hc; cases hc) hr
    have h3 := hE.putSl (d := d) (by simpa using hdN) (sv := .d (.tup [.v (.bool false)])) (u := .tuple #[.bool false]) (by simp only [DenV, RdV, RdL]; exact ⟨_, rfl, _, _, rfl, rfl, rfl⟩)
    obtain ⟨m', hm, hst⟩ := h2 hp _ _ ⟨E, h3⟩
    rw [← hd] at hst
    exact ⟨m', hm, hs.trans hst⟩

/-! ### loops in which such blocks turn -/
def famStP (s : Stt) (ts : List Nat) (mS : List (Nat × SV)) (mL : List (Nat × TypeId × List SV)) (mO : List (Nat × Ow)) (mP : List (Nat × Obj)) : Stt :=
  ⟨s.N, s.df, mS ++ restS s.S ts, mL ++ delKs (keysOf mL) s.L, mO ++ delKs (keysOf mO) s.O, s.fz, mP⟩
theorem Exec.loopUP {R : Rn} {k : List Item} {c : Code} {X : Type} {s : Stt} (ts : List Nat) (mS : X → List (Nat × SV)) (mL : X → List (Nat × TypeId × List SV)) (mO : X → List (Nat × Ow)) (mP : X → List (Nat × Obj)) (μ : X → Nat) (I : X → Prop) (x0 : X)
    (h0 : I x0) (hP : s.pin = mP x0) (hw : LeS s.S (mS x0 ++ restS s.S ts) ∧ LeL s.L (mL x0 ++ delKs (keysOf (mL x0)) s.L) ∧ LeO s.O (mO x0 ++ delKs (keysOf (mO x0)) s.O) ∧ LeF s.fz s.fz)
    (body : ∀ x, I x → (∀ y, I y → μ y < μ x → Exec R (.inLoop c :: k) (famStP s ts (mS y) (mL y) (mO y) (mP y)).sy) → Exec R (.code c :: .inLoop c :: k) (famStP s ts (mS x) (mL x) (mO x) (mP x)).sy) : Exec R (.code (.loop c) :: k) s.sy :=
  Exec.weak (famStP s ts (mS x0) (mL x0) (mO x0) (mP x0)) rfl rfl hw.1 hw.2.1 hw.2.2.1 hw.2.2.2 hP (Exec.loopL (fun x => famStP s ts (mS x) (mL x) (mO x) (mP x)) μ I body x0 h0)
theorem Exec.backP {R : Rn} {k : List Item} {s s0 : Stt} {ts : List Nat} {mS : List (Nat × SV)} {mL : List (Nat × TypeId × List SV)} {mO : List (Nat × Ow)} {mP : List (Nat × Obj)} (hk : Exec R k (famStP s0 ts mS mL mO mP).sy) (hN : s.N = s0.N) (hdf : s.df = s0.df)
    (hS : LeS s.S (mS ++ restS s0.S ts)) (hL : LeL s.L (mL ++ delKs (keysOf mL) s0.L)) (hO : LeO s.O (mO ++ delKs (keysOf mO) s0.O)) (hF : LeF s.fz s0.fz) (hP : s.pin = mP) : Exec R k s.sy :=
  Exec.weak (famStP s0 ts mS mL mO mP) hN hdf hS hL hO hF hP hk
theorem DenL_setAt {E : Env} {w : World} {sv : SV} {v : Value} : ∀ {svs : List SV} {vs : List Value} {i : Nat}, DenL E w svs vs → vs[i]? = some v → DenV E w sv v → DenL E w (svs.set i sv) vs
  | [], vs, i, h, _, _ => by simpa using h
  | x :: r, vs, 0, h, hv, hd => by
    simp only [DenL] at h
    obtain ⟨u, us, rfl, _, h2⟩ := h
    simp at hv; subst hv
    simp only [List.set_cons_zero, DenL]
    exact ⟨u, us, rfl, hd, h2⟩
  | x :: r, vs, i + 1, h, hv, hd => by
    simp only [DenL] at h
    obtain ⟨u, us, rfl, h1, h2⟩ := h
    simp only [List.set_cons_succ, DenL]
    exact ⟨u, us, rfl, h1, DenL_setAt h2 (by simpa using hv) hd⟩
/-- a nil slice in a box may be taken as one of the function's own -/
theorem Exec.ownNilL {R : Rn} {k : List Item} {s : Stt} (b0 off key : Nat) (e : TypeId) (kk : Nat) {T0 : TypeId} {cs0 : List SV} (hb0 : klook b0 s.L = some (T0, cs0)) (hc0 : cs0[off]? = some (.d (.v (.slice none 0 0)))) (hkey : klook key s.O = none)
    (h : Exec R k (Stt.mk s.N s.df (mapS [key] [] s.S) ((b0, T0, (killL [key] [] cs0).set off (.own key)) :: delK b0 (mapL [key] [] s.L)) ((key, ⟨e, kk, 0, 0, nilRow⟩) :: s.O) (mapF [key] [] s.fz) s.pin).sy) : Exec R k s.sy := by
  intro a w ⟨E, hE⟩
  refine h a w ⟨{ E with ω := fun x => if x = key then .slice none 0 0 else E.ω x }, ?_⟩
  have hω : ∀ x, [key].contains x = false → (fun x => if x = key then Value.slice none 0 0 else E.ω x) x = E.ω x := fun x hx => by
    have : x ≠ key := by intro e; subst e; simp at hx
    simp [this]
  have hk0 : Keeps w E.Z w E.Z := ⟨fun _ h => h, fun _ _ => rfl⟩
  have hOe : ∀ x y, klook x ((key, (⟨e, kk, 0, 0, nilRow⟩ : Ow)) :: s.O) = some y → (x = key ∧ y = ⟨e, kk, 0, 0, nilRow⟩) ∨ (x ≠ key ∧ klook x s.O = some y) := fun x y hx => by
    simp only [klook] at hx
    by_cases hxk : x = key
    · simp [hxk] at hx; exact .inl ⟨hxk, hx.symm⟩
    · rw [if_neg hxk] at hx; exact .inr ⟨hxk, hx⟩
  have hLe : ∀ x y, klook x ((b0, T0, (killL [key] [] cs0).set off (.own key)) :: delK b0 (mapL [key] [] s.L)) = some y → (x = b0 ∧ y = (T0, (killL [key] [] cs0).set off (.own key))) ∨ (x ≠ b0 ∧ ∃ T' cs', klook x s.L = some (T', cs') ∧ y = (T', killL [key] [] cs')) := fun x y hx => by
    simp only [klook, look_delK, look_mapL] at hx
    by_cases hxb : x = b0
    · simp [hxb] at hx; exact .inl ⟨hxb, hx.symm⟩
    · simp only [hxb, if_false] at hx
      cases hy : klook x s.L with
      | none => simp [hy, killE] at hx
      | some y' =>
        obtain ⟨T', cs'⟩ := y'
        simp [hy, killE] at hx
        exact .inr ⟨hxb, T', cs', rfl, hx.symm⟩
  have hLs : ∀ x y, klook x ((b0, T0, (killL [key] [] cs0).set off (.own key)) :: delK b0 (mapL [key] [] s.L)) = some y → ∃ y', klook x s.L = some y' := fun x y hx => by
    rcases hLe x y hx with ⟨rfl, _⟩ | ⟨_, T', cs', h1, _⟩
    · exact ⟨_, hb0⟩
    · exact ⟨_, h1⟩
  refine ⟨hE.sz, hE.df, fun t' sv hs => ?_, ⟨hE.hp.bel, hE.hp.z, fun key' T cs hk => ?_, fun key' e' hk => ?_, fun key1 key2 e1 e2 hk hk' heq => ?_, fun key' o hk => ?_, fun key' e' g hk hg => ?_, fun key1 key2 e1 e2 g hk hk' hg hg' => ?_⟩, fun b o hb => ?_, fun p hp t' sv ht' => ?_⟩
  · simp only [Stt.sy, look_mapS] at hs
    cases hx : klook t' s.S with
    | none => simp [hx] at hs
    | some x =>
      simp [hx] at hs; subst hs
      obtain ⟨v, h1, h2⟩ := hE.slots t' _ hx
      exact ⟨v, h1, DenV.kill (E' := { E with ω := fun x => if x = key then .slice none 0 0 else E.ω x }) hk0 (fun _ _ => rfl) hω h2⟩
  · rcases hLe _ _ hk with ⟨rfl, h1⟩ | ⟨hne, T', cs', h1, h2⟩
    · cases h1
      obtain ⟨vs, h1, h2⟩ := hE.hp.loc key' _ _ hb0
      refine ⟨vs, h1, ?_⟩
      obtain ⟨v, hv1, hv2⟩ := DenL_get h2 hc0
      refine DenL_setAt (DenL.kill (E' := { E with ω := fun x => if x = key then .slice none 0 0 else E.ω x }) hk0 (fun _ _ => rfl) hω h2) hv1 ?_
      simp only [DenV, RdV] at hv2 ⊢
      simp [hv2]
    · cases h2
      obtain ⟨vs, h1, h2⟩ := hE.hp.loc key' _ _ h1
      exact ⟨vs, h1, DenL.kill (E' := { E with ω := fun x => if x = key then .slice none 0 0 else E.ω x }) hk0 (fun _ _ => rfl) hω h2⟩
  · obtain ⟨e1, h1⟩ := hLs _ _ hk
    exact hE.hp.locN key' _ h1
  · obtain ⟨q1, h1⟩ := hLs _ _ hk
    obtain ⟨q2, h2⟩ := hLs _ _ hk'
    exact hE.hp.locD key1 key2 _ _ h1 h2 heq
  · rcases hOe _ _ hk with ⟨rfl, h1⟩ | ⟨hne, h1⟩
    · cases h1; exact ⟨⟨by simp, by simp, by simp⟩, .inl ⟨by simp, rfl⟩⟩
    · have := hE.hp.own key' o h1
      unfold OwnE at this ⊢
      simpa [hne] using this
  · rcases hOe _ _ hk with ⟨rfl, h1⟩ | ⟨hne, h1⟩
    · simp [Value.ownBlock] at hg
    · simp only [hne, if_false] at hg
      have h2 := hE.hp.ownN key' e' g h1 hg
      refine ⟨h2.1, h2.2.1, fun key1 e1 hk1 => ?_⟩
      obtain ⟨q1, hx⟩ := hLs _ _ hk1
      exact h2.2.2 key1 _ hx
  · rcases hOe _ _ hk with ⟨rfl, h1⟩ | ⟨hne, h1⟩
    · simp [Value.ownBlock] at hg
    · rcases hOe _ _ hk' with ⟨rfl, h2⟩ | ⟨hne', h2⟩
      · simp [Value.ownBlock] at hg'
      · simp only [hne, if_false] at hg; simp only [hne', if_false] at hg'
        exact hE.hp.ownD key1 key2 _ _ g h1 h2 hg hg'
  · obtain ⟨p1, p2, p3, p4, p5⟩ := hE.pins b o hb
    refine ⟨p1, p2, p3, fun key1 e1 he => ?_, fun key1 e1 he => ?_⟩
    · obtain ⟨q1, hx⟩ := hLs _ _ he
      exact p4 key1 _ hx
    · rcases hOe _ _ he with ⟨rfl, _⟩ | ⟨hne, h1⟩
      · simp [Value.ownBlock]
      · simp only [hne, if_false]; exact p5 key1 e1 h1
  · obtain ⟨S, h1, h2⟩ := mem_mapF hp
    rw [h2, look_mapS] at ht'
    cases hx : klook t' S with
    | none => simp [hx] at ht'
    | some x =>
      simp [hx] at ht'; subst ht'
      obtain ⟨v, h3, h4⟩ := hE.waits _ h1 t' x hx
      exact ⟨v, h3, DenV.kill (E' := { E with ω := fun x => if x = key then .slice none 0 0 else E.ω x }) hk0 (fun _ _ => rfl) hω h4⟩
end Go.Kin
