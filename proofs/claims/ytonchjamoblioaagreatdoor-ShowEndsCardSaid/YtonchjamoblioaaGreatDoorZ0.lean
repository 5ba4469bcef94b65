/- Steps of a function body on data, and contracts of the functions of the seat, walked. -/
import Derived.Test.YtonchjamoblioaaGreatDoorKFrz
import Derived.Laws.RangeAny
import Derived.Test.YtonchjamoblioaaGreatDoorZTe
import Derived.Test.YtonchjamoblioaaGreatDoorVDef
import Derived.Test.YtonchjamoblioaaGreatDoorKPan
import Derived.Test.YtonchjamoblioaaGreatDoorKChain
import Derived.Lib.AppendIntMem
import Derived.Lib.Bytealg
import Derived.Lib.Fields
import Derived.Test.YtonchjamoblioaaGreatDoorKOb
set_option linter.unusedSimpArgs false
set_option linter.unusedVariables false
set_option linter.unusedSectionVars false
namespace Go.Kin
open Go.RowKit
/-! ### a range over a text: its iterator is a block that is known whole -/
theorem run_next_more {P : Program} {w : World} {l pos : Nat} {str : ByteArray} {ty : TypeId} (hl : w.heap[l]? = some (.stringIter str pos)) (h : pos < str.size) :
    (Instr.next (.pointer (some ⟨l, 0, none⟩)) true ty).run P w = .ok (.tuple #[.bool true, .int .i64 pos, .int .i32 (Utf8.decode str pos).1]) (w.putObj l (.stringIter str (pos + (Utf8.decode str pos).2))) := by
  simp only [Instr.next, getObj, setObj, Sem.run_bind, Sem.run, hl, Result.andThen, h, if_true, World.putObj]
  simp [goInt]
theorem run_next_none {P : Program} {w : World} {l pos : Nat} {str : ByteArray} {ty : TypeId} (hl : w.heap[l]? = some (.stringIter str pos)) (h : ¬ pos < str.size) :
    (Instr.next (.pointer (some ⟨l, 0, none⟩)) true ty).run P w = .ok (.tuple #[.bool false]) w := by
  simp [Instr.next, getObj, Sem.run, hl, h]
def putSl (d : Nat) (sv : SV) (s : Stt) : Stt := ⟨s.N, s.df, (d, sv) :: s.S, s.L, s.O, s.fz, s.pin⟩
theorem SatE.putSl {C : Ctx} {E : Env} {s : Stt} {a : Act} {w : World} (h : SatE C E s.sy a w) {d : Nat} (hd : d < s.N) {sv : SV} {u : Value} (hu : DenV E w sv u) : SatE C E (putSl d sv s).sy (a.put (some d) u) w := by
  have := h.slot (d := some d) (fun t ht => by cases ht; exact hd) hu
  have e := applyL_sy (some d) ⟨sv, [], [], [], []⟩ s
  rw [← e] at this
  exact this
theorem Exec.rangeStr {P : Program} {b : Frame} {cs : List Frame} {T : Machine → Prop} {C : Ctx} {k : List Item} {te : TE} (hte : TEok P te) {ops : Array Oper} {i m : Nat} {o : Oper} {x : Operand} {t d : Nat} {str : ByteArray} {s : Stt}
    (ho : ops[i]? = some o) (hop : o.op = .range t x) (hg : o.guard = none) (hd : o.dst = some d) (hdN : decide (d < s.N) = true) (hx : evalL s.S x = some (.d (.v (.string str)))) (ht : isStr te t = true)
    (h : ∀ l, Fresh l s.pin → Exec ⟨P, b, cs, T, C⟩ (.inRegion ops (List.range' (i + 1) m) :: k) (Stt.mk s.N s.df ((d, .d (.v (.pointer (some ⟨l, 0, none⟩)))) :: s.S) s.L s.O s.fz ((l, .stringIter str 0) :: s.pin)).sy) :
    Exec ⟨P, b, cs, T, C⟩ (.inRegion ops (List.range' i (m + 1)) :: k) s.sy := by
  intro a w ⟨E, hE⟩
  obtain ⟨ti, hti, hu⟩ := isStr_spec hte ht
  have hv : a.eval x = .string str := by
    have := evalO_den hE (x := x) (sv := .d (.v (.string str))) ((evalL_eq _ _).symm.trans hx)
    simpa only [DenV, RdV] using this
  have hr : gives P o a.eval w fun u w' => u = .pointer (some ⟨w.heap.size, 0, none⟩) ∧ w' = w.alloc (.stringIter str 0) := by
    unfold gives execOp
    simp only [hop]
    rw [hv, Sem.run_bind, run_range_string w t str (by rw [hti.1, hu])]
    exact ⟨rfl, rfl⟩
  obtain ⟨u, w', ⟨rfl, rfl⟩, hs⟩ := gives_step (b := b) (cs := cs) (k := k) (rest := List.range' (i + 1) m) ho (by unfold Region.wanted; rw [hg]) (by rw [hop]; intro c hc; cases hc) hr
  obtain ⟨E', h1, h2⟩ := hE.pinNew (.stringIter str 0)
  have h3 := h1.putSl (d := d) (by simpa using hdN) (sv := .d (.v (.pointer (some ⟨w.heap.size, 0, none⟩)))) (u := .pointer (some ⟨w.heap.size, 0, none⟩)) (by simp only [DenV, RdV])
  obtain ⟨m', hm, hst⟩ := h w.heap.size h2 _ _ ⟨E', h3⟩
  rw [← hd] at hst
  refine ⟨m', hm, ?_⟩
  have e : List.range' i (m + 1) = i :: List.range' (i + 1) m := rfl
  rw [e]
  exact hs.trans hst
theorem Exec.nextStr {P : Program} {b : Frame} {cs : List Frame} {T : Machine → Prop} {C : Ctx} {k : List Item} {ops : Array Oper} {i m : Nat} {o : Oper} {x : Operand} {d l pos : Nat} {str : ByteArray} {s : Stt} {pin : List (Nat × Obj)}
    (ho : ops[i]? = some o) (hop : o.op = .next x true) (hg : o.guard = none) (hd : o.dst = some d) (hdN : decide (d < s.N) = true) (hx : evalL s.S x = some (.d (.v (.pointer (some ⟨l, 0, none⟩))))) (hpin : s.pin = (l, .stringIter str pos) :: pin) (hf : Fresh l pin)
    (h1 : pos < str.size → Exec ⟨P, b, cs, T, C⟩ (.inRegion ops (List.range' (i + 1) m) :: k) (Stt.mk s.N s.df ((d, .d (.tup [.v (.bool true), .v (.int .i64 pos), .v (.int .i32 (Utf8.decode str pos).1)])) :: s.S) s.L s.O s.fz ((l, .stringIter str (pos + (Utf8.decode str pos).2)) :: pin)).sy)
    (h2 : ¬ pos < str.size → Exec ⟨P, b, cs, T, C⟩ (.inRegion ops (List.range' (i + 1) m) :: k) (Stt.mk s.N s.df ((d, .d (.tup [.v (.bool false)])) :: s.S) s.L s.O s.fz s.pin).sy) :
    Exec ⟨P, b, cs, T, C⟩ (.inRegion ops (List.range' i (m + 1)) :: k) s.sy := by
  intro a w ⟨E, hE⟩
  have hl : w.heap[l]? = some (.stringIter str pos) := (hE.pins l _ (by simp [Stt.sy, hpin])).1
  have hv : a.eval x = .pointer (some ⟨l, 0, none⟩) := by
    have := evalO_den hE (x := x) (sv := .d (.v (.pointer (some ⟨l, 0, none⟩)))) ((evalL_eq _ _).symm.trans hx)
    simpa only [DenV, RdV] using this
  have e : List.range' i (m + 1) = i :: List.range' (i + 1) m := rfl
  rw [e]
  by_cases hp : pos < str.size
  · have hr : gives P o a.eval w fun u w' => u = .tuple #[.bool true, .int .i64 pos, .int .i32 (Utf8.decode str pos).1] ∧ w' = w.putObj l (.stringIter str (pos + (Utf8.decode str pos).2)) := by
      unfold gives execOp
      simp only [hop]
      rw [hv, Sem.run_bind, run_next_more hl hp]
      exact ⟨rfl, rfl⟩
    obtain ⟨u, w', ⟨rfl, rfl⟩, hs⟩ := gives_step (b := b) (cs := cs) (k := k) (rest := List.range' (i + 1) m) ho (by unfold Region.wanted; rw [hg]) (by rw [hop]; intro c hc; cases hc) hr
    have h3 := (hE.pinSet (o' := .stringIter str (pos + (Utf8.decode str pos).2)) hpin hf).putSl (d := d) (by simpa using hdN) (sv := .d (.tup [.v (.bool true), .v (.int .i64 pos), .v (.int .i32 (Utf8.decode str pos).1)])) (u := .tuple #[.bool true, .int .i64 pos, .int .i32 (Utf8.decode str pos).1])
      (by simp only [DenV, RdV, RdL]; exact ⟨_, rfl, _, _, rfl, rfl, _, _, rfl, rfl, _, _, rfl, rfl, rfl⟩)
    obtain ⟨m', hm, hst⟩ := h1 hp _ _ ⟨E, h3⟩
    rw [← hd] at hst
    exact ⟨m', hm, hs.trans hst⟩
  · have hr : gives P o a.eval w fun u w' => u = .tuple #[.bool false] ∧ w' = w := by
      unfold gives execOp
      simp only [hop]
      rw [hv, Sem.run_bind, run_next_none hl hp]
      exact ⟨rfl, rfl⟩
    obtain ⟨u, w', ⟨rfl, rfl⟩, hs⟩ := gives_step (b := b) (cs := cs) (k := k) (rest := List.range' (i + 1) m) ho (by unfold Region.wanted; rw [hg]) (by rw [hop]; intro c hc; cases hc) hr
    have h3 := hE.putSl (d := d) (by simpa using hdN) (sv := .d (.tup [.v (.bool false)])) (u := .tuple #[.bool false]) (by simp only [DenV, RdV, RdL]; exact ⟨_, rfl, _, _, rfl, rfl, rfl⟩)
    obtain ⟨m', hm, hst⟩ := h2 hp _ _ ⟨E, h3⟩
    rw [← hd] at hst
    exact ⟨m', hm, hs.trans hst⟩
/-! ### loops in which such blocks turn -/
def famStP (s : Stt) (ts : List Nat) (mS : List (Nat × SV)) (mL : List (Nat × TypeId × List SV)) (mO : List (Nat × Ow)) (mP : List (Nat × Obj)) : Stt :=
  ⟨s.N, s.df, mS ++ restS s.S ts, mL ++ delKs (keysOf mL) s.L, mO ++ delKs (keysOf mO) s.O, s.fz, mP⟩
theorem Exec.loopUP {R : Rn} {k : List Item} {c : Code} {X : Type} {s : Stt} (ts : List Nat) (mS : X → List (Nat × SV)) (mL : X → List (Nat × TypeId × List SV)) (mO : X → List (Nat × Ow)) (mP : X → List (Nat × Obj)) (μ : X → Nat) (I : X → Prop) (x0 : X)
    (h0 : I x0) (hP : s.pin = mP x0) (hw : LeS s.S (mS x0 ++ restS s.S ts) ∧ LeL s.L (mL x0 ++ delKs (keysOf (mL x0)) s.L) ∧ LeO s.O (mO x0 ++ delKs (keysOf (mO x0)) s.O) ∧ LeF s.fz s.fz)
    (body : ∀ x, I x → (∀ y, I y → μ y < μ x → Exec R (.inLoop c :: k) (famStP s ts (mS y) (mL y) (mO y) (mP y)).sy) → Exec R (.code c :: .inLoop c :: k) (famStP s ts (mS x) (mL x) (mO x) (mP x)).sy) : Exec R (.code (.loop c) :: k) s.sy :=
  Exec.weak (famStP s ts (mS x0) (mL x0) (mO x0) (mP x0)) rfl rfl hw.1 hw.2.1 hw.2.2.1 hw.2.2.2 hP (Exec.loopL (fun x => famStP s ts (mS x) (mL x) (mO x) (mP x)) μ I body x0 h0)
theorem Exec.backP {R : Rn} {k : List Item} {s s0 : Stt} {ts : List Nat} {mS : List (Nat × SV)} {mL : List (Nat × TypeId × List SV)} {mO : List (Nat × Ow)} {mP : List (Nat × Obj)} (hk : Exec R k (famStP s0 ts mS mL mO mP).sy) (hN : s.N = s0.N) (hdf : s.df = s0.df)
    (hS : LeS s.S (mS ++ restS s0.S ts)) (hL : LeL s.L (mL ++ delKs (keysOf mL) s0.L)) (hO : LeO s.O (mO ++ delKs (keysOf mO) s0.O)) (hF : LeF s.fz s0.fz) (hP : s.pin = mP) : Exec R k s.sy :=
  Exec.weak (famStP s0 ts mS mL mO mP) hN hdf hS hL hO hF hP hk
theorem DenL_setAt {E : Env} {w : World} {sv : SV} {v : Value} : ∀ {svs : List SV} {vs : List Value} {i : Nat}, DenL E w svs vs → vs[i]? = some v → DenV E w sv v → DenL E w (svs.set i sv) vs
  | [], vs, i, h, _, _ => by simpa using h
  | x :: r, vs, 0, h, hv, hd => by
    simp only [DenL] at h
    obtain ⟨u, us, rfl, _, h2⟩ := h
    simp at hv; subst hv
    simp only [List.set_cons_zero, DenL]
    exact ⟨u, us, rfl, hd, h2⟩
  | x :: r, vs, i + 1, h, hv, hd => by
    simp only [DenL] at h
    obtain ⟨u, us, rfl, h1, h2⟩ := h
    simp only [List.set_cons_succ, DenL]
    exact ⟨u, us, rfl, h1, DenL_setAt h2 (by simpa using hv) hd⟩
/-- a nil slice in a box may be taken as one of the function's own -/
theorem Exec.ownNilL {R : Rn} {k : List Item} {s : Stt} (b0 off key : Nat) (e : TypeId) (kk : Nat) {T0 : TypeId} {cs0 : List SV} (hb0 : klook b0 s.L = some (T0, cs0)) (hc0 : cs0[off]? = some (.d (.v (.slice none 0 0)))) (hkey : klook key s.O = none)
    (h : Exec R k (Stt.mk s.N s.df (mapS [key] [] s.S) ((b0, T0, (killL [key] [] cs0).set off (.own key)) :: delK b0 (mapL [key] [] s.L)) ((key, ⟨e, kk, 0, 0, nilRow⟩) :: s.O) (mapF [key] [] s.fz) s.pin).sy) : Exec R k s.sy := by
  intro a w ⟨E, hE⟩
  refine h a w ⟨{ E with ω := fun x => if x = key then .slice none 0 0 else E.ω x }, ?_⟩
  have hω : ∀ x, [key].contains x = false → (fun x => if x = key then Value.slice none 0 0 else E.ω x) x = E.ω x := fun x hx => by
    have : x ≠ key := by intro e; subst e; simp at hx
    simp [this]
  have hk0 : Keeps w E.Z w E.Z := ⟨fun _ h => h, fun _ _ => rfl⟩
  have hOe : ∀ x y, klook x ((key, (⟨e, kk, 0, 0, nilRow⟩ : Ow)) :: s.O) = some y → (x = key ∧ y = ⟨e, kk, 0, 0, nilRow⟩) ∨ (x ≠ key ∧ klook x s.O = some y) := fun x y hx => by
    simp only [klook] at hx
    by_cases hxk : x = key
    · simp [hxk] at hx; exact .inl ⟨hxk, hx.symm⟩
    · rw [if_neg hxk] at hx; exact .inr ⟨hxk, hx⟩
  have hLe : ∀ x y, klook x ((b0, T0, (killL [key] [] cs0).set off (.own key)) :: delK b0 (mapL [key] [] s.L)) = some y → (x = b0 ∧ y = (T0, (killL [key] [] cs0).set off (.own key))) ∨ (x ≠ b0 ∧ ∃ T' cs', klook x s.L = some (T', cs') ∧ y = (T', killL [key] [] cs')) := fun x y hx => by
    simp only [klook, look_delK, look_mapL] at hx
    by_cases hxb : x = b0
    · simp [hxb] at hx; exact .inl ⟨hxb, hx.symm⟩
    · simp only [hxb, if_false] at hx
      cases hy : klook x s.L with
      | none => simp [hy, killE] at hx
      | some y' =>
        obtain ⟨T', cs'⟩ := y'
        simp [hy, killE] at hx
        exact .inr ⟨hxb, T', cs', rfl, hx.symm⟩
  have hLs : ∀ x y, klook x ((b0, T0, (killL [key] [] cs0).set off (.own key)) :: delK b0 (mapL [key] [] s.L)) = some y → ∃ y', klook x s.L = some y' := fun x y hx => by
    rcases hLe x y hx with ⟨rfl, _⟩ | ⟨_, T', cs', h1, _⟩
    · exact ⟨_, hb0⟩
    · exact ⟨_, h1⟩
  refine ⟨hE.sz, hE.df, fun t' sv hs => ?_, ⟨hE.hp.bel, hE.hp.z, fun key' T cs hk => ?_, fun key' e' hk => ?_, fun key1 key2 e1 e2 hk hk' heq => ?_, fun key' o hk => ?_, fun key' e' g hk hg => ?_, fun key1 key2 e1 e2 g hk hk' hg hg' => ?_⟩, fun b o hb => ?_, fun p hp t' sv ht' => ?_⟩
  · simp only [Stt.sy, look_mapS] at hs
    cases hx : klook t' s.S with
    | none => simp [hx] at hs
    | some x =>
      simp [hx] at hs; subst hs
      obtain ⟨v, h1, h2⟩ := hE.slots t' _ hx
      exact ⟨v, h1, DenV.kill (E' := { E with ω := fun x => if x = key then .slice none 0 0 else E.ω x }) hk0 (fun _ _ => rfl) hω h2⟩
  · rcases hLe _ _ hk with ⟨rfl, h1⟩ | ⟨hne, T', cs', h1, h2⟩
    · cases h1
      obtain ⟨vs, h1, h2⟩ := hE.hp.loc key' _ _ hb0
      refine ⟨vs, h1, ?_⟩
      obtain ⟨v, hv1, hv2⟩ := DenL_get h2 hc0
      refine DenL_setAt (DenL.kill (E' := { E with ω := fun x => if x = key then .slice none 0 0 else E.ω x }) hk0 (fun _ _ => rfl) hω h2) hv1 ?_
      simp only [DenV, RdV] at hv2 ⊢
      simp [hv2]
    · cases h2
      obtain ⟨vs, h1, h2⟩ := hE.hp.loc key' _ _ h1
      exact ⟨vs, h1, DenL.kill (E' := { E with ω := fun x => if x = key then .slice none 0 0 else E.ω x }) hk0 (fun _ _ => rfl) hω h2⟩
  · obtain ⟨e1, h1⟩ := hLs _ _ hk
    exact hE.hp.locN key' _ h1
  · obtain ⟨q1, h1⟩ := hLs _ _ hk
    obtain ⟨q2, h2⟩ := hLs _ _ hk'
    exact hE.hp.locD key1 key2 _ _ h1 h2 heq
  · rcases hOe _ _ hk with ⟨rfl, h1⟩ | ⟨hne, h1⟩
    · cases h1; exact ⟨⟨by simp, by simp, by simp⟩, .inl ⟨by simp, rfl⟩⟩
    · have := hE.hp.own key' o h1
      unfold OwnE at this ⊢
      simpa [hne] using this
  · rcases hOe _ _ hk with ⟨rfl, h1⟩ | ⟨hne, h1⟩
    · simp [Value.ownBlock] at hg
    · simp only [hne, if_false] at hg
      have h2 := hE.hp.ownN key' e' g h1 hg
      refine ⟨h2.1, h2.2.1, fun key1 e1 hk1 => ?_⟩
      obtain ⟨q1, hx⟩ := hLs _ _ hk1
      exact h2.2.2 key1 _ hx
  · rcases hOe _ _ hk with ⟨rfl, h1⟩ | ⟨hne, h1⟩
    · simp [Value.ownBlock] at hg
    · rcases hOe _ _ hk' with ⟨rfl, h2⟩ | ⟨hne', h2⟩
      · simp [Value.ownBlock] at hg'
      · simp only [hne, if_false] at hg; simp only [hne', if_false] at hg'
        exact hE.hp.ownD key1 key2 _ _ g h1 h2 hg hg'
  · obtain ⟨p1, p2, p3, p4, p5⟩ := hE.pins b o hb
    refine ⟨p1, p2, p3, fun key1 e1 he => ?_, fun key1 e1 he => ?_⟩
    · obtain ⟨q1, hx⟩ := hLs _ _ he
      exact p4 key1 _ hx
    · rcases hOe _ _ he with ⟨rfl, _⟩ | ⟨hne, h1⟩
      · simp [Value.ownBlock]
      · simp only [hne, if_false]; exact p5 key1 e1 h1
  · obtain ⟨S, h1, h2⟩ := mem_mapF hp
    rw [h2, look_mapS] at ht'
    cases hx : klook t' S with
    | none => simp [hx] at ht'
    | some x =>
      simp [hx] at ht'; subst ht'
      obtain ⟨v, h3, h4⟩ := hE.waits _ h1 t' x hx
      exact ⟨v, h3, DenV.kill (E' := { E with ω := fun x => if x = key then .slice none 0 0 else E.ω x }) hk0 (fun _ _ => rfl) hω h4⟩
end Go.Kin
namespace Go.Kin
open Go.RowKit
/-! ### is a slice of data nil? It may be, if it is empty: both ways are gone -/
end Go.Kin
namespace Go.Proofs.YtonchjamoblioaaGreatDoor
open Go.Kin
set_option maxRecDepth 100000
/-- what the program's variables hold, as far as texts of numbers look at them -/
structure Laid (w : World) : Prop where
 pow : Lib.TabIs Tryz.prog w powName .u64 Lib.pow10Tab
theorem laid_stable : Stable Laid := fun w w' h hb => ⟨var_below h.pow hb⟩
abbrev iv (n : Int) : D := .v (.int .i64 n)
abbrev u8 (n : Int) : D := .v (.int .u8 n)
abbrev sv (s : List UInt8) : D := .v (.string (mkS s))
abbrev bv (b : Bool) : D := .v (.bool b)
abbrev I64 (n : Int) : Prop := -9223372036854775808 ≤ n ∧ n ≤ 9223372036854775807
theorem itoa_ok (n : Int) (h : I64 n) : FnOK Laid Tryz.prog 47 [iv n] (sv (Lib.itoa n)) :=
 FnOK.lib ⟨Tryz.f47, Tryz.func47, by kernel_rfl, by kernel_rfl⟩ fun w Z vs hI hr => by
  obtain rfl := rd_one hr
  refine (Tryz.strconv_Itoa n h.1 h.2 w hI.pow).mono ?_
  rintro e w' ⟨rfl, k, os, rfl⟩
  exact ⟨rfl, Lib.below_grow _ w (Nat.le_refl _) k os⟩
abbrev strsD (l : List (List UInt8)) : D := .sl 1 l.length l.length fun i => [sv (nth l i)]
theorem join_ok (l : List (List UInt8)) (s : List UInt8) (hl : l.length ≤ 140737488355328) (hj : (Lib.join l s).length ≤ 140737488355328) : FnOK Laid Tryz.prog 147 [strsD l, sv s] (sv (Lib.join l s)) := by
 refine ⟨⟨Tryz.f147, Tryz.func147, by kernel_rfl, by kernel_rfl⟩, fun w Z vs hI hZ hr => ?_⟩
 simp only [RdL, RdV] at hr
 obtain ⟨v, vs', rfl, ⟨a, c, rfl, h1, h2, h3, h4⟩, v2, vs2, rfl, rfl, rfl⟩ := hr
 have fin : ∀ {w' : World}, RowKit.Below w.heap.size w w' → ∃ v Z', Ending.returned (.string ⟨(Lib.join l s).toArray⟩) = .returned v ∧ RowKit.Below w.heap.size w w' ∧ (∀ b, Z' b → b < w'.heap.size ∧ (Z b ∨ w.heap.size ≤ b)) ∧ RdV w' Z' (sv (Lib.join l s)) v := fun {w'} hb =>
  ⟨_, Z, rfl, hb, fun b hz => ⟨Nat.lt_of_lt_of_le (hZ b hz) hb.size, .inl hz⟩, by simp only [RdV]; rfl⟩
 by_cases h0 : l.length = 0
 ·have hn : l = [] := List.eq_nil_of_length_eq_zero h0
  subst hn
  refine (Tryz.strings_Join_none a c (mkS s) w).mono ?_
  rintro e w' ⟨rfl, rfl⟩
  exact fin (RowKit.Below.refl _ _)
 ·rcases h4 with h4 | ⟨b, off, rfl, hz, he⟩
  ·exact (h0 h4).elim
  ·have hcells : ∀ (j : Nat) x, (l.map mkS)[j]? = some x → w.cell? ⟨b, off + j, none⟩ = some (.string x) := fun j x hx => by
    rw [List.getElem?_map] at hx
    cases hlj : l[j]? with
    | none => rw [hlj] at hx; cases hx
    | some y =>
     rw [hlj] at hx; cases hx
     have hjl : j < l.length := (List.getElem?_eq_some_iff.1 hlj).1
     have := (he j hjl).2.2
     simp only [RdC, RdV, Nat.mul_one, and_true] at this
     obtain ⟨u, hu, rfl⟩ := this
     rw [hu, nth_of hlj]
   have hmap : (l.map mkS).map (·.data.toList) = l := by
    rw [List.map_map]
    have : ((fun x : ByteArray => x.data.toList) ∘ mkS) = id := by funext x; simp [mkS]
    rw [this, List.map_id]
   have hs : (mkS s).data.toList = s := by simp [mkS]
   have := Tryz.strings_Join b off c (l.map mkS) (mkS s) w hcells (hZ b hz) (by simpa using hl) (by simpa using h2) (by rw [hmap, hs]; exact hj)
   rw [hmap, hs, List.length_map] at this
   refine this.mono ?_
   rintro e w' ⟨rfl, hb⟩
   exact fin hb
end Go.Proofs.YtonchjamoblioaaGreatDoor
namespace Go.Kin
open Go.Lib
/-! ### words of queries, as functions of lists -/
def letterI (n : Int) : Bool := decide (97 ≤ n) && decide (n ≤ 122)
def digitI (n : Int) : Bool := decide (48 ≤ n) && decide (n ≤ 57)
def signI (n : Int) : Bool := letterI n || digitI n || n == 95
def blankI (n : Int) : Bool := n == 32 || n == 9 || n == 10
/-- how many bytes from the begin on something is so of -/
def spanN (p : Int → Bool) : List UInt8 → Nat
 | [] => 0
 | c :: r => if p c.toNat = true then spanN p r + 1 else 0
def vertexB (s : List UInt8) : Bool := s.all (fun c => signI c.toNat) && (!(s == []) && decide ((s.length : Int) ≤ 20))
structure Tk where
 k : Int
 t : List UInt8
 a : Int
 v : Vl
 deriving DecidableEq, Inhabited
def v0 : Vl := ⟨0, 0, []⟩
def valuedT (w : List UInt8) (k : Int) : Tk := ⟨k, w, 0, parseV w⟩
def signsF : List (List UInt8) := [[40], [41], [91], [93], [44], [46], [124], [42], [43], [63], [61], [33, 61], [60], [60, 61], [62], [62, 61], [45, 91], [93, 45, 62], [61, 91], [93, 61, 62]]
def bestStep (s best x : List UInt8) : List UInt8 := if (hasPrefix s x && decide ((best.length : Int) < (x.length : Int))) = true then x else best
def bestSign (s : List UInt8) : List UInt8 := signsF.foldl (bestStep s) []
def wordN (s : List UInt8) : List UInt8 := s.take (spanN signI s)
def digitN (s : List UInt8) : List UInt8 := s.take (spanN digitI s)
def minusN (s : List UInt8) : List UInt8 := s.take (1 + spanN digitI (s.drop 1))
def textN (s : List UInt8) : List UInt8 := s.take (indexByte (s.drop 1) 34 + 2).toNat
/-- the token with which a text begins, that begins with no blank -/
def firstT (s : List UInt8) : Tk :=
 if s = [] then ⟨5, [], 0, v0⟩
 else if letterI (s.getD 0 0).toNat = true then ⟨1, wordN s, 0, v0⟩
 else if digitI (s.getD 0 0).toNat = true then valuedT (digitN s) 2
 else if (((s.getD 0 0).toNat : Int) == 45 && decide (0 < (spanN digitI (s.drop 1) : Int))) = true then valuedT (minusN s) 2
 else if (((s.getD 0 0).toNat : Int) == 34) = true then (if indexByte (s.drop 1) 34 < 0 then ⟨0, [], 0, v0⟩ else valuedT (textN s) 3)
 else ⟨4, bestSign s, 0, v0⟩
/-- is there one? -/
def firstB (s : List UInt8) : Bool :=
 if s = [] then true
 else if letterI (s.getD 0 0).toNat = true then vertexB (wordN s)
 else if digitI (s.getD 0 0).toNat = true then parseE (digitN s) == 0
 else if (((s.getD 0 0).toNat : Int) == 45 && decide (0 < (spanN digitI (s.drop 1) : Int))) = true then parseE (minusN s) == 0
 else if (((s.getD 0 0).toNat : Int) == 34) = true then (if indexByte (s.drop 1) 34 < 0 then false else parseE (textN s) == 0)
 else !(bestSign s == [])
def Tk.at' (t : Tk) (a : Int) : Tk := ⟨t.k, t.t, a, t.v⟩
/-- the tokens of what is left of a text, from a place on; where there is none -/
def lexR : Nat → Nat → List UInt8 → List Tk × Option Nat
 | 0, a, _ => ([], some a)
 | f + 1, a, s =>
  if firstB (s.drop (spanN blankI s)) = false then ([], some (a + spanN blankI s))
  else if (firstT (s.drop (spanN blankI s))).k = 5 then ([(firstT (s.drop (spanN blankI s))).at' (a + spanN blankI s : Nat)], none)
  else ((firstT (s.drop (spanN blankI s))).at' (a + spanN blankI s : Nat) :: (lexR f (a + spanN blankI s + (firstT (s.drop (spanN blankI s))).t.length) ((s.drop (spanN blankI s)).drop (firstT (s.drop (spanN blankI s))).t.length)).1,
   (lexR f (a + spanN blankI s + (firstT (s.drop (spanN blankI s))).t.length) ((s.drop (spanN blankI s)).drop (firstT (s.drop (spanN blankI s))).t.length)).2)
/-- from a place of a text on -/
def lexAt (s : List UInt8) (a : Nat) : List Tk × Option Nat := lexR (s.length + 1) a (s.drop a)
/-- where the next token begins -/
def nextA (s : List UInt8) (a : Nat) : Nat := a + spanN blankI (s.drop a)
def lexAll (s : List UInt8) : List Tk × Option Nat := lexAt s 0
def lexT (s : List UInt8) : List Tk := if 2000 < (s.length : Int) then [] else match (lexAll s).2 with | none => (lexAll s).1 | some _ => []
def lexA (s : List UInt8) : Int := if 2000 < (s.length : Int) then 0 else match (lexAll s).2 with | none => 0 | some a => (a : Int)
def lexE (s : List UInt8) : Int := if 2000 < (s.length : Int) then 3 else match (lexAll s).2 with | none => 0 | some _ => 7
end Go.Kin
namespace Go.Proofs.YtonchjamoblioaaGreatDoor
open Go.Kin
set_option maxRecDepth 100000
set_option maxHeartbeats 0
attribute [go_sem] te_2 te_3 te_4 te_5 te_9 te_21 te_22 te_23 te_24 te_26 te_27 te_28 te_30 te_36 te_45 te_46 te_47 te_49 te_51 te_53 te_56 te_59 bytes_mkS
attribute [go_sem] iv sv u8 bv putSl
/-- a value: its kind, number, text -/
abbrev vl (k n : Int) (s : List UInt8) : D := .ag [iv k, iv n, sv s]
attribute [go_sem] vl
theorem lit_mkS (l : List UInt8) : (ByteArray.mk l.toArray) = mkS l := rfl
attribute [go_sem] Vl.k Vl.n Vl.s lit_mkS
abbrev vC (v : Vl) : List D := [iv v.k, iv v.n, sv v.s]
abbrev vD (v : Vl) : D := .ag [iv v.k, iv v.n, sv v.s]
attribute [go_sem] vC vD strsD
theorem all_drop {p : UInt8 → Bool} {s : List UInt8} {i : Nat} (h : i < s.length) : (s.drop i).all p = (p (s.getD i 0) && (s.drop (i + 1)).all p) := by
 rw [List.drop_eq_getElem_cons h, List.all_cons, List.getD_eq_getElem?_getD, List.getElem?_eq_getElem h]; rfl
theorem plain_drop {s : List UInt8} {i : Nat} (h : i < s.length) {b : Bool} (hb : plainI (s.getD i 0) = b) : plainS (s.drop i) = (!b && plainS (s.drop (i + 1))) := by
 unfold plainS; rw [all_drop h, hb]
theorem lst_row {α : Type} [Inhabited α] (f : α → List D) (l : List α) {i : Nat} (h : i < l.length) : lstR (l.map f) i = f (nth l i) := by
 simp [lstR, nth, List.getD_eq_getElem?_getD, List.getElem?_map, List.getElem?_eq_getElem h]
theorem lst_le {α : Type} [Inhabited α] (f : α → List D) (l : List α) (k : Nat) : LeD (.sl k l.length l.length (lstR (l.map f))) (.sl k l.length l.length fun i => f (nth l i)) :=
 LeD.slice (Nat.le_refl _) (Nat.le_refl _) fun _ hi => lst_row f l hi
theorem plain_ok (s : List UInt8) (hs : s.length ≤ 9223372036854775806) : FnOK Laid Tryz.prog 202 [sv s] (.v (.bool (plainS s))) := by
 refine FnOK_of laid_stable Tryz.func202 Tryz.ntmps202 rfl (by as_aux_lemma => kernel_rfl) (Nat.le_of_ble_eq_true rfl) (fun R hR => ?_)
 obtain ⟨_, b, cs, T, C⟩ := R
 obtain rfl : _ = Tryz.prog := hR.p
 refine sreg te_ok ?_
 refine sq ?_
 refine sreg te_ok ?_
 refine Exec.block ?_
 apply Exec.loopU [0, 6] (X := Nat) (fun i => [(7, .d (iv i))]) (fun i => []) (fun i => []) (fun i => s.length - i) (fun i => i ≤ s.length ∧ plainS s = plainS (s.drop i)) 0
 case h0 =>
  simp
 case hw =>
  simp only [go_sem]
 case body =>
  rintro i hx ih0
  try simp only at hx
  apply Exec.norm
  ·simp only [go_sem]
   rfl
  refine sreg te_ok ?_
  refine sq ?_
  refine Exec.cond_split rfl (fun h0 => ?_) (fun h0 => ?_)
  ·have hi : i < s.length := by simp at h0; omega
   have hwi : IntKind.i64.wrap ((i : Int) + 1) = ((i + 1 : Nat) : Int) := by rw [wrap_id (by constructor <;> omega)]; simp
   refine sk ?_
   refine sq ?_
   refine Exec.block ?_
   refine sq ?_
   apply Exec.regionL te_ok
   ·intro u' Q hQ
    simp only [go_sem, hwi]
    repeat refine ob2 ?_
    exact hQ
   refine sq ?_
   apply Exec.regionL te_ok
   ·intro u' Q hQ
    simp only [go_sem, hwi]
    repeat refine ob2 ?_
    exact hQ
   refine sq ?_
   apply Exec.regionL te_ok
   ·intro u' Q hQ
    simp only [go_sem, hwi]
    repeat refine ob2 ?_
    exact hQ
   refine Exec.cond_split rfl (fun h1 => ?_) (fun h1 => ?_)
   ·refine sq ?_
    apply Exec.regionL te_ok
    ·intro u' Q hQ
     simp only [go_sem, hwi]
     repeat refine ob2 ?_
     exact hQ
    refine Exec.rets hR te_ok rfl rfl rfl (LeX.le ?_) (.inr ⟨_, rfl⟩)
    simp only [go_sem]
    rw [hx.2, plain_drop hi h1]; rfl
   ·refine sk ?_
    refine Exec.inBlock ?_
    apply Exec.regionL te_ok
    ·intro u' Q hQ
     simp only [go_sem, hwi]
     repeat refine ob2 ?_
     exact hQ
    refine Exec.back (ih0 (i + 1) ?_ ?_) ?_ ?_ ?_ ?_ ?_ ?_ ?_
    ·try simp only
     exact ⟨by omega, by rw [hx.2, plain_drop hi h1]; rfl⟩
    ·try simp only
     omega
    ·rfl
    ·rfl
    ·(simp only [go_sem, hwi])
    ·(simp only [go_sem, hwi])
    ·(simp only [go_sem, hwi])
    ·simp only [go_sem, hwi]
    ·rfl
  ·refine Exec.exit rfl ?_
   refine sreg te_ok ?_
   refine Exec.rets hR te_ok rfl rfl rfl (LeX.le ?_) (.inr ⟨_, rfl⟩)
   simp only [go_sem]
   simp at h0
   rw [hx.2, List.drop_eq_nil_of_le (by omega)]; rfl
theorem right_ok (k n : Int) (s : List UInt8) (hs : s.length ≤ 9223372036854775806) : FnOK Laid Tryz.prog 176 [vl k n s] (.v (.bool (rightV k n s))) := by
 refine FnOK_of laid_stable Tryz.func176 Tryz.ntmps176 rfl (by as_aux_lemma => kernel_rfl) (Nat.le_of_ble_eq_true rfl) (fun R hR => ?_)
 obtain ⟨_, b, cs, T, C⟩ := R
 obtain rfl : _ = Tryz.prog := hR.p
 refine sreg te_ok ?_
 refine sq ?_
 refine sreg te_ok ?_
 refine Exec.block ?_
 refine sreg te_ok ?_
 refine Exec.cond_split rfl (fun h0 => ?_) (fun h0 => ?_)
 ·refine sreg te_ok ?_
  refine Exec.rets hR te_ok rfl rfl rfl (LeX.le ?_) (.inr ⟨_, rfl⟩)
  simp only [go_sem, rightV]
  simp_all
 ·refine sreg te_ok ?_
  refine Exec.cond_split rfl (fun h1 => ?_) (fun h1 => ?_)
  ·refine sq ?_
   apply Exec.regionL te_ok
   ·intro u' Q hQ
    simp only [go_sem]
    repeat refine ob2 ?_
    refine kcallG hR.inv te_ok rfl rfl rfl rfl rfl rfl ob1 (fun hq => plain_ok _ (by omega)) ?_
    simp only [go_sem]
    repeat refine ob2 ?_
    exact hQ
   refine Exec.rets hR te_ok rfl rfl rfl (LeX.le ?_) (.inr ⟨_, rfl⟩)
   simp only [go_sem, rightV]
   simp_all
  ·refine sk ?_
   refine Exec.inBlock ?_
   refine sreg te_ok ?_
   refine Exec.rets hR te_ok rfl rfl rfl (LeX.le ?_) (.inr ⟨_, rfl⟩)
   simp only [go_sem, rightV]
   simp_all
theorem right_i64 {k n : Int} {s : List UInt8} (h : rightV k n s = true) : k = 2 ∨ I64 n := by
 unfold rightV at h
 by_cases h1 : k = 1
 ·rw [if_pos h1] at h; simp at h; right; constructor <;> omega
 ·rw [if_neg h1] at h
  by_cases h2 : k = 2
  ·exact .inl h2
  ·rw [if_neg h2] at h; cases h
theorem shown_ok (k n : Int) (s : List UInt8) (hn : k = 2 ∨ I64 n) (hs : s.length ≤ 281474976710656) : FnOK Laid Tryz.prog 181 [vl k n s] (sv (shownV k n s)) := by
 refine FnOK_of laid_stable Tryz.func181 Tryz.ntmps181 rfl (by as_aux_lemma => kernel_rfl) (Nat.le_of_ble_eq_true rfl) (fun R hR => ?_)
 obtain ⟨_, b, cs, T, C⟩ := R
 obtain rfl : _ = Tryz.prog := hR.p
 refine sreg te_ok ?_
 refine sq ?_
 refine sreg te_ok ?_
 refine Exec.cond_split rfl (fun h0 => ?_) (fun h0 => ?_)
 ·refine sreg te_ok ?_
  refine Exec.rets hR te_ok rfl rfl rfl (LeX.le ?_) (.inr ⟨_, rfl⟩)
  simp only [go_sem, shownV]
  simp_all
 ·refine sk ?_
  refine sq ?_
  apply Exec.regionL te_ok
  ·intro u' Q hQ
   simp only [go_sem]
   repeat refine ob2 ?_
   refine kcall hR.inv te_ok rfl rfl rfl rfl rfl rfl (itoa_ok n (hn.resolve_left (by simpa using h0))) ?_
   simp only [go_sem]
   repeat refine ob2 ?_
   exact hQ
  refine Exec.rets hR te_ok rfl rfl rfl (LeX.le ?_) (.inr ⟨_, rfl⟩)
  simp only [go_sem, shownV]
  simp_all
theorem show_ok (k n : Int) (s : List UInt8) (hs : s.length ≤ 281474976710656) : FnOK Laid Tryz.prog 148 [vl k n s] (.tup [sv (showT ⟨k, n, s⟩), iv (showE ⟨k, n, s⟩)]) := by
 refine FnOK_of laid_stable Tryz.func148 Tryz.ntmps148 rfl (by as_aux_lemma => kernel_rfl) (Nat.le_of_ble_eq_true rfl) (fun R hR => ?_)
 obtain ⟨_, b, cs, T, C⟩ := R
 obtain rfl : _ = Tryz.prog := hR.p
 refine sreg te_ok ?_
 refine sq ?_
 refine sq ?_
 apply Exec.regionL te_ok
 ·intro u' Q hQ
  simp only [go_sem]
  repeat refine ob2 ?_
  refine kcall hR.inv te_ok rfl rfl rfl rfl rfl rfl (right_ok _ _ _ (by omega)) ?_
  simp only [go_sem]
  repeat refine ob2 ?_
  exact hQ
 refine Exec.cond_split rfl (fun h0 => ?_) (fun h0 => ?_)
 ·refine sreg te_ok ?_
  refine Exec.rets hR te_ok rfl rfl rfl (LeX.le ?_) (.inr ⟨_, rfl⟩)
  simp only [go_sem, showT, showE, Vl.right, Vl.shown]
  simp_all
 ·refine sk ?_
  refine sq ?_
  apply Exec.regionL te_ok
  ·intro u' Q hQ
   simp only [go_sem]
   repeat refine ob2 ?_
   refine kcall hR.inv te_ok rfl rfl rfl rfl rfl rfl (shown_ok _ _ _ (right_i64 (by simpa using h0)) hs) ?_
   simp only [go_sem]
   repeat refine ob2 ?_
   exact hQ
  refine Exec.rets hR te_ok rfl rfl rfl (LeX.le ?_) (.inr ⟨_, rfl⟩)
  simp only [go_sem, showT, showE, Vl.right, Vl.shown]
  simp_all
theorem plain_not {s : List UInt8} {i : Nat} (h : i < s.length) (hb : plainI (s.getD i 0) = true) : plainS (s.drop i) = false := by
 rw [plain_drop h hb]; rfl
theorem rright_ok (k n : Int) (s : List UInt8) (hs : s.length ≤ 9223372036854775806) : FnOK Laid Tryz.prog 151 [vl k n s] (.v (.bool (rightV k n s))) := by
 refine FnOK_of laid_stable Tryz.func151 Tryz.ntmps151 rfl (by as_aux_lemma => kernel_rfl) (Nat.le_of_ble_eq_true rfl) (fun R hR => ?_)
 obtain ⟨_, b, cs, T, C⟩ := R
 obtain rfl : _ = Tryz.prog := hR.p
 refine sreg te_ok ?_
 refine sq ?_
 refine sreg te_ok ?_
 refine Exec.cond_split rfl (fun h0 => ?_) (fun h0 => ?_)
 ·refine sreg te_ok ?_
  refine Exec.rets hR te_ok rfl rfl rfl (LeX.le ?_) (.inr ⟨_, rfl⟩)
  simp only [go_sem, rightV]
  simp at h0
  subst h0
  simp only [if_pos]
  generalize decide (-1099511627776 ≤ n) = x
  generalize decide (n ≤ 1099511627776) = y
  generalize (s == []) = z
  cases x <;> cases y <;> cases z <;> rfl
 ·refine sk ?_
  refine sq ?_
  refine sreg te_ok ?_
  refine Exec.block ?_
  apply Exec.loopU [1] (X := Nat) (fun i => [(3, .d (iv i))]) (fun i => []) (fun i => []) (fun i => s.length - i) (fun i => i ≤ s.length ∧ plainS s = plainS (s.drop i)) 0
  case h0 =>
   simp
  case hw =>
   simp only [go_sem]
  case body =>
   rintro i hx ih0
   try simp only at hx
   apply Exec.norm
   ·simp only [go_sem]
    rfl
   refine sq ?_
   refine sreg te_ok ?_
   refine Exec.cond_split rfl (fun h1 => ?_) (fun h1 => ?_)
   ·have hi : i < s.length := by simp at h1; omega
    have hwi : IntKind.i64.wrap ((i : Int) + 1) = ((i + 1 : Nat) : Int) := by rw [wrap_id (by constructor <;> omega)]; simp
    refine sk ?_
    refine sq ?_
    refine Exec.block ?_
    refine sq ?_
    apply Exec.regionL te_ok
    ·intro u' Q hQ
     simp only [go_sem, hwi]
     repeat refine ob2 ?_
     exact hQ
    refine Exec.cond_split rfl (fun h2 => ?_) (fun h2 => ?_)
    ·refine sq ?_
     apply Exec.regionL te_ok
     ·intro u' Q hQ
      simp only [go_sem, hwi]
      repeat refine ob2 ?_
      exact hQ
     refine Exec.rets hR te_ok rfl rfl rfl (LeX.le ?_) (.inr ⟨_, rfl⟩)
     simp only [go_sem]
     have hp : plainS s = false := by rw [hx.2]; exact plain_not hi (by unfold plainI; simpa using h2)
     simp at h0
     simp [rightV, h0, hp]
    ·refine sk ?_
     refine Exec.inBlock ?_
     apply Exec.regionL te_ok
     ·intro u' Q hQ
      simp only [go_sem, hwi]
      repeat refine ob2 ?_
      exact hQ
     refine Exec.back (ih0 (i + 1) ?_ ?_) ?_ ?_ ?_ ?_ ?_ ?_ ?_
     ·try simp only
      exact ⟨by omega, by rw [hx.2, plain_drop hi (b := false) (by unfold plainI; simpa using h2)]; rfl⟩
     ·try simp only
      omega
     ·rfl
     ·rfl
     ·(simp only [go_sem, hwi])
     ·(simp only [go_sem, hwi])
     ·(simp only [go_sem, hwi])
     ·simp only [go_sem, hwi]
     ·rfl
   ·refine Exec.exit rfl ?_
    refine sreg te_ok ?_
    refine Exec.rets hR te_ok rfl rfl rfl (LeX.le ?_) (.inr ⟨_, rfl⟩)
    simp only [go_sem]
    have hp : plainS s = true := by rw [hx.2, List.drop_eq_nil_of_le (by simp at h1; omega)]; rfl
    simp at h0
    by_cases hk : k = 2 <;> simp [rightV, h0, hp, hk]
theorem rshow_ok (k n : Int) (s : List UInt8) (hs : s.length ≤ 281474976710656) : FnOK Laid Tryz.prog 92 [vl k n s] (.tup [sv (showT ⟨k, n, s⟩), iv (showE ⟨k, n, s⟩)]) := by
 refine FnOK_of laid_stable Tryz.func92 Tryz.ntmps92 rfl (by as_aux_lemma => kernel_rfl) (Nat.le_of_ble_eq_true rfl) (fun R hR => ?_)
 obtain ⟨_, b, cs, T, C⟩ := R
 obtain rfl : _ = Tryz.prog := hR.p
 refine sreg te_ok ?_
 refine sq ?_
 refine sq ?_
 apply Exec.regionL te_ok
 ·intro u' Q hQ
  simp only [go_sem]
  repeat refine ob2 ?_
  refine kcall hR.inv te_ok rfl rfl rfl rfl rfl rfl (rright_ok _ _ _ (by omega)) ?_
  simp only [go_sem]
  repeat refine ob2 ?_
  exact hQ
 refine Exec.cond_split rfl (fun h0 => ?_) (fun h0 => ?_)
 ·refine sreg te_ok ?_
  refine Exec.rets hR te_ok rfl rfl rfl (LeX.le ?_) (.inr ⟨_, rfl⟩)
  simp only [go_sem, showT, showE, Vl.right, Vl.shown, shownV]
  simp_all
 ·refine sk ?_
  refine sq ?_
  refine sreg te_ok ?_
  refine Exec.cond_split rfl (fun h1 => ?_) (fun h1 => ?_)
  ·refine sreg te_ok ?_
   refine Exec.rets hR te_ok rfl rfl rfl (LeX.le ?_) (.inr ⟨_, rfl⟩)
   simp only [go_sem, showT, showE, Vl.right, Vl.shown, shownV]
   simp_all
  ·refine sk ?_
   refine sq ?_
   apply Exec.regionL te_ok
   ·intro u' Q hQ
    simp only [go_sem]
    repeat refine ob2 ?_
    refine kcall hR.inv te_ok rfl rfl rfl rfl rfl rfl (itoa_ok n ((right_i64 (by simpa using h0)).resolve_left (by simpa using h1))) ?_
    simp only [go_sem]
    repeat refine ob2 ?_
    exact hQ
   refine Exec.rets hR te_ok rfl rfl rfl (LeX.le ?_) (.inr ⟨_, rfl⟩)
   simp only [go_sem, showT, showE, Vl.right, Vl.shown, shownV]
   simp_all
end Go.Proofs.YtonchjamoblioaaGreatDoor
