/- Steps of a function body on data, and contracts of the functions of the seat, walked. -/
import Derived.Test.YtgnhhjojiipmgaaGreatDoorKNil
import Derived.Test.YtgnhhjojiipmgaaGreatDoorKDrawL
import Derived.Test.YtgnhhjojiipmgaaGreatDoorKRune
import Derived.Test.YtgnhhjojiipmgaaGreatDoorWLn
set_option linter.unusedSimpArgs false
set_option linter.unusedVariables false
set_option linter.unusedSectionVars false
namespace Go.Kin
open Go.RowKit
/-! ### a range within the function of a range -/
theorem Exec.pins {R : Rn} {k : List Item} {s : Stt} (pin' : List (Nat × Obj)) (hp : ∀ p, p ∈ pin' → p ∈ s.pin) (h : Exec R k (Stt.mk s.N s.df s.S s.L s.O s.fz pin').sy) : Exec R k s.sy :=
  fun a w ⟨E, hE⟩ => h a w ⟨E, hE.sz, hE.df, hE.slots, hE.hp, fun b o hb => hE.pins b o (hp _ hb), hE.waits⟩
theorem Exec.slotsTo {R : Rn} {k : List Item} {s : Stt} (S' : List (Nat × SV)) (h : ∀ t sv, klook t S' = some sv → klook t s.S = some sv) (hk : Exec R k (Stt.mk s.N s.df S' s.L s.O s.fz s.pin).sy) : Exec R k s.sy :=
  fun a w hs => hk a w (Sat.less (s := s.sy) (s' := (Stt.mk s.N s.df S' s.L s.O s.fz s.pin).sy) rfl rfl h (fun _ _ h => h) (fun _ _ h => h) rfl rfl hs)
/-- all orders of a region -/
def lins (ops : Array Oper) : Nat → Array Bool → List (List Nat)
  | 0, _ => [[]]
  | f + 1, listed => match Region.ready .any ops listed with
    | [] => [[]]
    | i :: is => (i :: is).flatMap fun i => (lins ops f (listed.setIfInBounds i true)).map (i :: ·)
theorem go_lins {ops : Array Oper} : ∀ (f t : Nat) (listed : Array Bool), Region.linearise.go .any ops f t listed [] ∈ lins ops f listed
  | 0, t, listed => by simp [Region.linearise.go, lins]
  | f + 1, t, listed => by
    simp only [Region.linearise.go]
    change (match (Region.ready .any ops listed)[t % (Region.ready .any ops listed).length]? with
      | some i => Region.linearise.go .any ops f (t / (Region.ready .any ops listed).length) (listed.setIfInBounds i true) [i]
      | none => [].reverse) ∈ lins ops (f + 1) listed
    unfold lins
    cases hr : Region.ready .any ops listed with
    | nil => simp
    | cons x xs =>
      cases hi : (x :: xs)[t % (x :: xs).length]? with
      | none =>
        have hlt : t % (x :: xs).length < (x :: xs).length := Nat.mod_lt _ (by simp)
        simp at hi
        simp at hlt
        omega
      | some i =>
        simp only []
        rw [linearise_go_acc, List.reverse_singleton, List.singleton_append]
        exact List.mem_flatMap.2 ⟨i, List.mem_of_getElem? hi, List.mem_map.2 ⟨_, go_lins f _ _, rfl⟩⟩
theorem Exec.drawL {R : Rn} {k : List Item} {id : Nat} {ops : Array Oper} {s : Sy} (Ls : List (List Nat)) (hm : R.P.follows .mixedOrders = true) (hL : lins ops ops.size (Array.replicate ops.size false) = Ls)
    (h : ∀ l, l ∈ Ls → Exec R (.inRegion ops l :: k) s) : Exec R (.code (.region id ops true) :: k) s := by
  intro a w hs
  have hst := stepR_region_draw (P := R.P) (b := R.b) (a := a) (k := k) (cs := R.cs) (w := w) (ops := ops) (id := id)
  simp only [Region.schedule, hm, Bool.true_or, if_true] at hst
  obtain ⟨m', h1, h2⟩ := h (Region.linearise.go .any ops ops.size (w.tape w.drawn (Question.order R.b.fn id)) (Array.replicate ops.size false) []) (by rw [← hL]; exact go_lins ops.size _ _) a _ hs.drew
  exact ⟨m', h1, .head hst h2⟩
/-- one operation, wherever it stands -/
theorem Exec.opAny {P : Program} {b : Frame} {cs : List Frame} {T : Machine → Prop} {C : Ctx} {k : List Item} {te : TE} (hte : TEok P te) {ops : Array Oper} {i : Nat} {rest : List Nat} {o : Oper} {st : Stt} {r : Res} {ob : Prop} (ho : ops[i]? = some o) (hg : o.guard = none)
    (h1 : stepO te st o = some (r, ob)) (hob : ob) (h : Exec ⟨P, b, cs, T, C⟩ (.inRegion ops rest :: k) (applyL o.dst r st).sy) : Exec ⟨P, b, cs, T, C⟩ (.inRegion ops (i :: rest) :: k) st.sy := by
  have h2 := ok2_run (ops := ops) (stepO_ok (C := C) hte h1 hob) (by simp [wantS, hg]) st.sy (ExtG.refl _ _ _)
  rw [← applyL_sy] at h2
  exact any_op ho h2 h
theorem Exec.callAny {P : Program} {b : Frame} {cs : List Frame} {T : Machine → Prop} {C : Ctx} {k : List Item} {I : World → Prop} (hI : ∀ w, BelM C w → I w) {ops : Array Oper} {i : Nat} {rest : List Nat} {o : Oper} {st : Stt} (ho : ops[i]? = some o) (hg : o.guard = none) (hd : dstOk o st.N = true)
    {f : Operand} {args : Array Operand} {ts : Array TypeId} {g : FuncId} {caps xs all : List D} {res : D}
    (hop : o.op = .call { callee := .value f, args := args, argTypes := ts }) (hf : evalO (fun t => klook t st.S) f = some (.d (.fn g caps))) (hargs : argsD (fun t => klook t st.S) args.toList = some xs) (hall : xs ++ caps = all)
    (h : FnOK I P g all res) (hr : Exec ⟨P, b, cs, T, C⟩ (.inRegion ops rest :: k) (applyL o.dst ⟨.d res, [], [], [], []⟩ st).sy) : Exec ⟨P, b, cs, T, C⟩ (.inRegion ops (i :: rest) :: k) st.sy := by
  subst hall
  have h2 := ok2_run (ops := ops) (ok_call (s := st.sy) hI hop (dstOk_spec hd) hf hargs h) (by simp [wantS, hg]) st.sy (ExtG.refl _ _ _)
  rw [← applyL_sy] at h2
  exact any_op ho h2 hr
/-- a mark is taken off -/
theorem mark_run {P : Program} {b : Frame} {cs : List Frame} {C : Ctx} {k : List Item} {N : Nat} {S : List (Nat × SV)} {L : List (Nat × TypeId × List SV)} {O : List (Nat × Ow)} {fz : List (Act × List (Nat × SV))} {r : Nat} {pin : List (Nat × Obj)} (hf : Fresh r pin)
    {E : Env} {a : Act} {w : World} (hE : SatE C E (Stt.mk N [markD r] S L O fz ((r, .deferred (some [])) :: pin)).sy a w) :
    ∃ a' w', SatE C E (Stt.mk N [] S L O fz pin).sy a' w' ∧ Steps P (lone { b.atR a k with mode := .returning } cs w) (lone { b.atR a' k with mode := .returning } cs w') := by
  have hr : w.heap[r]? = some (.deferred (some [])) := (hE.pins r _ (by simp [Stt.sy])).1
  have h1 := (hE.pinSet (o' := .deferred none) rfl hf).pinDrop rfl
  have h2 : SatE C E (Stt.mk N [] S L O fz pin).sy { a with defers := [] } (w.putObj r (.deferred none)) := ⟨h1.sz, rfl, h1.slots, h1.hp, h1.pins, h1.waits⟩
  refine ⟨_, _, h2, .head (step_collected (fr := { b.atR a k with mode := .returning }) (d := markD r) (ds := []) (r := r) (calls := []) (by simp) ?_ rfl (run_takeDeferred hr)) (Steps.refl _ _)⟩
  exact hE.df
/-- the function of a range that has ranged itself has ended -/
theorem Exec.rangeEnd1 {P : Program} {b : Frame} {f l : Nat} {cs : List Frame} {T : Machine → Prop} {C : Ctx} {k k' : List Item} {s : Stt} (j : Nat) {fn r r1 No : Nat} {tm : Array Value} {ps : Array Tmp} {assign body : Code} {pin : List (Nat × Obj)} {pd : Option Code} {st : LoopState} {ao : Act} {So : List (Nat × SV)} {fz : List (Act × List (Nat × SV))} {fu : Func} {df : List Deferred} {lo : LoopState → Option Code → Obj}
    (hf : P.funcs[f]? = some fu) (hr : fu.results.toList = []) (hk : k = [] ∨ ∃ k1, k = .code .ret :: k1) (hdf : s.df = [markD r1]) (hpin : s.pin = (r1, .deferred (some [])) :: (l, lo st pd) :: pin) (hfr1 : Fresh r1 ((l, lo st pd) :: pin)) (hlo : lo = loopR fn tm ps assign body r) (hfr : Fresh l pin) (hst : (st == .busy) = false) (hfz : s.fz = (ao, So) :: fz) (hao : ao.tmps.size = No) (haod : ao.defers = df)
    (h : Exec ⟨P, b, cs, T, C⟩ ((pd.map Item.code).toList ++ k') (renSt (swJ j) ⟨No, markD r :: df, So, s.L, s.O, fz, pin⟩).sy) :
    Exec ⟨P, callB f, b.atR { ao with defers := markD r :: ao.defers } (.inRangeFunc l :: k') :: cs, T, C⟩ k s.sy := by
  subst hlo
  obtain ⟨N, df0, S, L, O, fz0, pin0⟩ := s
  subst hdf hpin hfz
  intro a w ⟨E, hE⟩
  obtain ⟨a2, w2, hE2, hst2⟩ := mark_run (P := P) (b := callB f) (cs := b.atR { ao with defers := markD r :: ao.defers } (.inRangeFunc l :: k') :: cs) (k := k) hfr1 hE
  have hl : w2.heap[l]? = some (loopR fn tm ps assign body r st pd) := (hE2.pins l _ (by simp [Stt.sy])).1
  have hend := run_endLoop (P := P) hl (by simp; intro e; subst e; simp at hst)
  have hd' : a2.defers = [] := hE2.df
  have s1 : step P (lone ((callB f).atR a k) (b.atR { ao with defers := markD r :: ao.defers } (.inRangeFunc l :: k') :: cs) w) = .next (lone { (callB f).atR a k with mode := .returning } (b.atR { ao with defers := markD r :: ao.defers } (.inRangeFunc l :: k') :: cs) w) := by
    rcases hk with rfl | ⟨k1, rfl⟩
    · exact stepR_end rfl
    · exact stepR_ret rfl
  have hre : fu.results = #[] := by cases hfr : fu.results with | mk l => simp [hfr] at hr; simp [hr]
  have hleave : Frame.leaving P { (callB f).atR a2 k with mode := .returning } w2 (.returned (.tuple #[])) := by
    refine ⟨rfl, hd', rfl, fu, hf, ?_⟩
    have hm : (fu.results.mapM (rvSem a2.tmps)).run P w2 = .ok #[] w2 := by rw [hre, Array.mapM_eq_mapM_toList]; simp
    rw [results_eq]
    simp only [Sem.run_bind]
    show Result.andThen ((fu.results.mapM (rvSem a2.tmps)).run P w2) _ = _
    rw [hm, Result.andThen_ok]; rfl
  have s2 := step_leave_returned (c := b.atR { ao with defers := markD r :: ao.defers } (.inRangeFunc l :: k')) (cs := cs) hleave
  rw [finish_atR_inRangeFunc] at s2
  have s3 := stepR_endRangeFunc (P := P) (b := b) (a := { ao with defers := markD r :: ao.defers }) (k := k') (cs := cs) hend
  refine (?_ : ∃ m', T m' ∧ Steps P _ m').imp fun m' hm => ⟨hm.1, .head s1 (hst2.trans (.head s2 (.head s3 hm.2)))⟩
  have h1 := (hE2.pinSet (o' := loopR fn tm ps assign body r .exhausted pd) rfl hfr).pinDrop rfl
  refine h _ _ (Sat.ren (swJ j) ⟨E, ⟨hao, by simp only [Stt.sy, haod], ?_, h1.hp, h1.pins, fun p hp => ?_⟩⟩)
  · exact h1.waits (ao, So) (by simp [Stt.sy])
  · exact h1.waits p (by simp only [Stt.sy]; exact List.mem_cons_of_mem _ hp)
end Go.Kin
namespace Go.Proofs.YtgnhhjojiipmgaaGreatDoor
open Go.Kin
set_option maxRecDepth 100000
set_option maxHeartbeats 0
theorem join_ok (l : List (List UInt8)) (s : List UInt8) (hl : l.length ≤ 140737488355328) (hj : (Lib.join l s).length ≤ 140737488355328) : FnOK LaidW Tryz.prog 12 [strsD l, sv s] (sv (Lib.join l s)) := by
  refine ⟨⟨Tryz.f12, Tryz.func12, by kernel_rfl, by kernel_rfl⟩, fun w Z vs hI hZ hr => ?_⟩
  simp only [RdL, RdV] at hr
  obtain ⟨v, vs', rfl, ⟨a, c, rfl, h1, h2, h3, h4⟩, v2, vs2, rfl, rfl, rfl⟩ := hr
  have fin : ∀ {w' : World}, RowKit.Below w.heap.size w w' → ∃ v Z', Ending.returned (.string ⟨(Lib.join l s).toArray⟩) = .returned v ∧ RowKit.Below w.heap.size w w' ∧ (∀ b, Z' b → b < w'.heap.size ∧ (Z b ∨ w.heap.size ≤ b)) ∧ RdV w' Z' (sv (Lib.join l s)) v := fun {w'} hb =>
    ⟨_, Z, rfl, hb, fun b hz => ⟨Nat.lt_of_lt_of_le (hZ b hz) hb.size, .inl hz⟩, by simp only [RdV]; rfl⟩
  by_cases h0 : l.length = 0
  · have hn : l = [] := List.eq_nil_of_length_eq_zero h0
    subst hn
    refine (Tryz.strings_Join_none a c (mkS s) w).mono ?_
    rintro e w' ⟨rfl, rfl⟩
    exact fin (RowKit.Below.refl _ _)
  · rcases h4 with h4 | ⟨b, off, rfl, hz, he⟩
    · exact (h0 h4).elim
    · have hcells : ∀ (j : Nat) x, (l.map mkS)[j]? = some x → w.cell? ⟨b, off + j, none⟩ = some (.string x) := fun j x hx => by
        rw [List.getElem?_map] at hx
        cases hlj : l[j]? with
        | none => rw [hlj] at hx; cases hx
        | some y =>
          rw [hlj] at hx; cases hx
          have hjl : j < l.length := (List.getElem?_eq_some_iff.1 hlj).1
          have := (he j hjl).2.2
          simp only [RdC, RdV, Nat.mul_one, and_true] at this
          obtain ⟨u, hu, rfl⟩ := this
          rw [hu, nth_of hlj]
      have hmap : (l.map mkS).map (·.data.toList) = l := by
        rw [List.map_map]
        have : ((fun x : ByteArray => x.data.toList) ∘ mkS) = id := by funext x; simp [mkS]
        rw [this, List.map_id]
      have hs : (mkS s).data.toList = s := by simp [mkS]
      have := Tryz.strings_Join b off c (l.map mkS) (mkS s) w hcells (hZ b hz) (by simpa using hl) (by simpa using h2) (by rw [hmap, hs]; exact hj)
      rw [hmap, hs, List.length_map] at this
      refine this.mono ?_
      rintro e w' ⟨rfl, hb⟩
      exact fin hb
theorem hasSuffix_ok (s p : List UInt8) (hs : s.length ≤ 1000000) : FnOK LaidW Tryz.prog 13 [sv s, sv p] (bv (Lib.hasSuffix s p)) :=
  FnOK.lib ⟨Tryz.f13, Tryz.func13, by kernel_rfl, by kernel_rfl⟩ fun w Z vs hI hr => by
    obtain rfl := rd_two hr
    refine (Tryz.strings_HasSuffix (mkS s) (mkS p) w (by rw [mkS_size]; omega)).mono ?_
    rintro e w' ⟨rfl, rfl⟩
    exact ⟨by rw [mkS_back, mkS_back], RowKit.Below.refl _ _⟩
theorem trimSuffix_ok (s p : List UInt8) (hs : s.length ≤ 1000000) : FnOK LaidW Tryz.prog 21 [sv s, sv p] (sv (Lib.trimSuffix s p)) :=
  FnOK.lib ⟨Tryz.f21, Tryz.func21, by kernel_rfl, by kernel_rfl⟩ fun w Z vs hI hr => by
    obtain rfl := rd_two hr
    refine (Tryz.strings_TrimSuffix (mkS s) (mkS p) w (by rw [mkS_size]; omega)).mono ?_
    rintro e w' ⟨rfl, rfl⟩
    exact ⟨by rw [mkS_back, mkS_back]; rfl, RowKit.Below.refl _ _⟩
/-! ### three operations in whatever order, then the rest -/
structure Hold (Y : Prop) : Prop where
  out : Y
theorem three {X : List Nat → Prop} {Y : Prop} {a b c : List Nat} (h1 : Hold Y → X a) (h2 : Hold Y → X b) (h3 : Hold Y → X c) (hY : Y) : ∀ l, l ∈ [a, b, c] → X l := fun l hl => by
  simp only [List.mem_cons, List.not_mem_nil, or_false] at hl
  rcases hl with rfl | rfl | rfl
  · exact h1 ⟨hY⟩
  · exact h2 ⟨hY⟩
  · exact h3 ⟨hY⟩
theorem sl_2 {x y z : SV} {a b c : Nat} {r : List (Nat × SV)} (hbc : b ≠ c) : ∀ t sv, klook t ((a, x) :: (b, y) :: (c, z) :: r) = some sv → klook t ((a, x) :: (c, z) :: (b, y) :: r) = some sv := fun t sv h => by
  simp only [klook] at h ⊢
  by_cases h1 : t = a <;> by_cases h2 : t = b <;> by_cases h3 : t = c <;> simp_all
theorem sl_3 {x y z : SV} {a b c : Nat} {r : List (Nat × SV)} (hab : a ≠ b) (hac : a ≠ c) (hbc : b ≠ c) : ∀ t sv, klook t ((a, x) :: (b, y) :: (c, z) :: r) = some sv → klook t ((c, z) :: (a, x) :: (b, y) :: r) = some sv := fun t sv h => by
  simp only [klook] at h ⊢
  by_cases h1 : t = a <;> by_cases h2 : t = b <;> by_cases h3 : t = c <;> simp_all
theorem fresh_out {l0 r0 l1 r1 : Nat} {x0 y0 x1 y1 x0' y0' y0'' z1 : Obj} (hfl0 : Fresh l0 [(r0, y0)]) (hfr1 : Fresh r1 [(l0, x0), (r0, y0')]) (hfl1 : Fresh l1 [(r1, y1), (l0, x0'), (r0, y0'')]) : Fresh l0 [(l1, x1), (r1, z1), (r0, y0)] := fun p hp => by
  simp only [List.mem_cons, List.not_mem_nil, or_false] at hp
  rcases hp with rfl | rfl | rfl
  · exact fun e => hfl1 (l0, x0') (by simp) e.symm
  · exact fun e => hfr1 (l0, x0) (by simp) e.symm
  · exact hfl0 (r0, y0) (by simp)
theorem mem_sw {α : Type} {a b c d : α} : ∀ p, p ∈ [a, b, c, d] → p ∈ [b, c, a, d] := fun p hp => by
  simp only [List.mem_cons, List.not_mem_nil, or_false] at hp ⊢
  rcases hp with h | h | h | h <;> simp [h]
theorem mem_ws {α : Type} {a b c d : α} : ∀ p, p ∈ [b, c, a, d] → p ∈ [a, b, c, d] := fun p hp => by
  simp only [List.mem_cons, List.not_mem_nil, or_false] at hp ⊢
  rcases hp with h | h | h | h <;> simp [h]
end Go.Proofs.YtgnhhjojiipmgaaGreatDoor
namespace Go.Kin
open Go RowKit
/-- a block that none knows becomes the block of a slice of the function's own -/
theorem SatE.ownNew {C : Ctx} {E : Env} {s : Sy} {a : Act} {w : World} (h : SatE C E s a w) {d : Nat} (hd : d < s.N) (kn : Nat) {ow : Ow} {v' : Value}
    (hnew : ∀ g, v'.ownBlock = some g → C.w0.heap.size ≤ g ∧ ¬ E.Z g ∧ (∀ key e, s.L key = some e → E.β key ≠ g) ∧ (∀ key e, s.O key = some e → (E.ω key).ownBlock ≠ some g) ∧ ∀ b o, (b, o) ∈ s.pin → b ≠ g)
    (hown : OwnE { E with ω := fun x => if x = kn then v' else E.ω x } w kn ow) :
    SatE C { E with ω := fun x => if x = kn then v' else E.ω x } (apply (some d) ⟨.own kn, [], [(kn, ow)], [kn], []⟩ s) (a.put (some d) v') w := by
  have hk : Keeps w E.Z w E.Z := ⟨fun _ h => h, fun _ _ => rfl⟩
  have hω : ∀ x, [kn].contains x = false → (fun x => if x = kn then v' else E.ω x) x = E.ω x := fun x hx => by
    have : x ≠ kn := by intro e; subst e; simp at hx
    simp [this]
  have hm : ∀ {svs : List SV} {us : List Value}, DenL E w svs us → DenL { E with ω := fun x => if x = kn then v' else E.ω x } w (killL [kn] [] svs) us :=
    fun hh => DenL.kill (E' := { E with ω := fun x => if x = kn then v' else E.ω x }) hk (fun _ _ => rfl) hω hh
  have hL : ∀ key x, (apply (some d) ⟨.own kn, [], [(kn, ow)], [kn], []⟩ s).L key = some x → ∃ T cs, s.L key = some (T, cs) ∧ x = (T, killL [kn] [] cs) := fun key x hx => by
    simp only [apply, klook] at hx
    cases hs : s.L key with
    | none => simp [hs, killE] at hx
    | some y => obtain ⟨T, cs⟩ := y; simp [hs, killE] at hx; exact ⟨T, cs, rfl, hx.symm⟩
  have hO : ∀ key x, (apply (some d) ⟨.own kn, [], [(kn, ow)], [kn], []⟩ s).O key = some x → (key = kn ∧ x = ow) ∨ (key ≠ kn ∧ s.O key = some x) := fun key x hx => by
    simp only [apply, klook] at hx
    by_cases hkd : key = kn
    · left; simp [hkd] at hx; exact ⟨hkd, hx.symm⟩
    · right
      simp only [hkd, if_false] at hx
      cases hc : [kn].contains key with
      | true => simp only [hc, if_true] at hx; cases hx
      | false => simp only [hc, Bool.false_eq_true, if_false] at hx; exact ⟨hkd, hx⟩
  refine h.step (E' := { E with ω := fun x => if x = kn then v' else E.ω x }) (by rintro t ⟨⟩; exact hd) (r := ⟨.own kn, [], [(kn, ow)], [kn], []⟩)
    (fun sv v hv => DenV.kill (E' := { E with ω := fun x => if x = kn then v' else E.ω x }) hk (fun _ _ => rfl) hω hv) (by simp [DenV]) ?_ (fun b o hb' => ?_)
  rotate_left 1
  · obtain ⟨p1, p2, p3, p4, p5⟩ := h.pins b o hb'
    refine ⟨p1, p2, p3, fun key x hx => ?_, fun key x hx => ?_⟩
    · obtain ⟨T1, cs1, e1, _⟩ := hL key x hx
      exact p4 key _ e1
    · rcases hO key x hx with ⟨rfl, _⟩ | ⟨hne, hO1⟩
      · simp only [if_true]
        intro hg
        exact (hnew b hg).2.2.2.2 b o hb' rfl
      · simp only [hne, if_false]; exact p5 key x hO1
  refine ⟨h.hp.bel, h.hp.z, fun key T cs he => ?_, fun key x he => ?_, fun key key' x x' he he' heq => ?_, fun key o1 he => ?_, fun key x g he hg => ?_, fun key key' x x' g he he' hg hg' => ?_⟩
  · obtain ⟨T1, cs1, h1, e1⟩ := hL key _ he
    cases e1
    obtain ⟨us, h2, h3⟩ := h.hp.loc key _ _ h1
    exact ⟨us, h2, hm h3⟩
  · obtain ⟨T1, cs1, h1, e1⟩ := hL key _ he
    exact h.hp.locN key _ h1
  · obtain ⟨T1, cs1, h1, _⟩ := hL key _ he
    obtain ⟨T2, cs2, h2, _⟩ := hL key' _ he'
    exact h.hp.locD key key' _ _ h1 h2 heq
  · rcases hO key _ he with ⟨rfl, e2⟩ | ⟨hne, hO1⟩
    · cases e2; exact hown
    · obtain ⟨h0, h1⟩ := h.hp.own key o1 hO1
      refine ⟨h0, ?_⟩
      simp only [hne, if_false]
      exact h1
  · rcases hO key _ he with ⟨rfl, e2⟩ | ⟨hne, hO1⟩
    · simp only [if_true] at hg
      obtain ⟨q1, q2, q3, _⟩ := hnew g hg
      refine ⟨q1, q2, fun key' e' he' => ?_⟩
      obtain ⟨T1, cs1, h3, _⟩ := hL key' _ he'
      exact q3 key' _ h3
    · simp only [hne, if_false] at hg
      have h2 := h.hp.ownN key x g hO1 hg
      refine ⟨h2.1, h2.2.1, fun key' e' he' => ?_⟩
      obtain ⟨T1, cs1, h3, _⟩ := hL key' _ he'
      exact h2.2.2 key' _ h3
  · rcases hO key _ he with ⟨rfl, _⟩ | ⟨hne, hO1⟩ <;> rcases hO key' _ he' with ⟨rfl, _⟩ | ⟨hne', hO1'⟩
    · rfl
    · simp only [if_true] at hg; simp only [hne', if_false] at hg'
      exact ((hnew g hg).2.2.2.1 key' _ hO1' hg').elim
    · simp only [if_true] at hg'; simp only [hne, if_false] at hg
      exact ((hnew g hg').2.2.2.1 key _ hO1 hg).elim
    · simp only [hne, if_false] at hg; simp only [hne', if_false] at hg'
      exact h.hp.ownD key key' x x' g hO1 hO1' hg hg'
/-- a function whose result is a slice that nobody else knows -/
def FnOwn (I : World → Prop) (P : Program) (f : FuncId) (args : List D) (ow : Ow) : Prop :=
  Enters P f ∧ ∀ (w : World) (Z : Nat → Prop) (vs : List Value), I w → (∀ b, Z b → b < w.heap.size) → RdL w Z args vs →
    Calls P f vs.toArray w fun e w' => ∃ v Z', e = .returned v ∧ Below w.heap.size w w' ∧ (∀ b, Z' b → b < w'.heap.size ∧ (Z b ∨ w.heap.size ≤ b)) ∧
      OwnE ⟨fun _ => 0, fun _ => v, Z'⟩ w' 0 ow ∧ ∀ g, v.ownBlock = some g → w.heap.size ≤ g ∧ ¬ Z' g
theorem OwnE.to {E E' : Env} {w : World} {k k' : Nat} {ow : Ow} (h : OwnE E w k ow) (hω : E'.ω k' = E.ω k) (hZ : ∀ b, E.Z b → E'.Z b) : OwnE E' w k' ow := by
  obtain ⟨h0, h1⟩ := h
  refine ⟨h0, ?_⟩
  rw [hω]
  refine h1.imp id ?_
  rintro ⟨g, cap, us, h2, h3, h4, h5, h6, h7⟩
  exact ⟨g, cap, us, h2, h3, h4, h5, h6, fun i hi => (h7 i hi).mono ⟨hZ, fun _ _ => rfl⟩⟩
section
variable {I : World → Prop} {P : Program} {C : Ctx} {o : Oper} {s : Sy}
theorem ok_callO (hI : ∀ w, BelM C w → I w) {f : Operand} {args : Array Operand} {ts : Array TypeId} {g : FuncId} {caps ds : List D} {d : Nat} {ow : Ow} (ho : o.op = .call { callee := .value f, args := args, argTypes := ts }) (hdst : o.dst = some d) (ht : d < s.N)
    (hf : evalO s.S f = some (.d (.fn g caps))) (hargs : argsD s.S args.toList = some ds) (h : FnOwn I P g (ds ++ caps) ow) : Ok1 P C o s ⟨.own d, [], [(d, ow)], [d], []⟩ := by
  refine ⟨by simp [ho], fun s' hext a w ⟨E, hE⟩ => ?_⟩
  have hfv := hext.ev hE (x := f) (by simp [ho, Op.operands, Call.operands]) hf
  have hav := argsD_den hext hE (l := args.toList) (fun x hx => by simp [ho, Op.operands, Call.operands] at hx ⊢; exact .inr hx) hargs
  simp only [DenV, RdV] at hfv
  obtain ⟨cs, e1, h1⟩ := hfv
  have hr : (execOp a.eval o).run P w = .ok (.enter g (args.toList.map a.eval ++ cs).toArray) w := by
    have : (args.map a.eval ++ cs.toArray) = (args.toList.map a.eval ++ cs).toArray := Array.ext' (by simp)
    simp [execOp, ho, resolve, e1, Deferred.ofValue, invoke, h.1.run, this]
  have hc := h.2 w E.Z (args.toList.map a.eval ++ cs) (hI w hE.hp.bel) (fun b hb => (hE.hp.z b hb).1) (RdL_append hav h1)
  unfold gives
  rw [hr]
  refine hc.mono ?_
  rintro e w' ⟨v, Z', rfl, hb, hz, hv, hg⟩
  refine ⟨v, rfl, ?_⟩
  have hgr := hE.grow hb Z' hz
  rw [hdst]
  refine ⟨_, hgr.ownNew (by rw [hext.n]; exact ht) d (fun g' hg' => ?_) (hv.to (by simp) (fun b hb => .inr hb))⟩
  obtain ⟨q1, q2⟩ := hg g' hg'
  have hs0 := hE.hp.bel.size
  refine ⟨by omega, fun hz2 => ?_, fun key e he hq => ?_, fun key e he hq => ?_, fun b o' hb' hq => ?_⟩
  · rcases hz2 with hz2 | hz2
    · have := (hE.hp.z g' hz2).1; omega
    · exact q2 hz2
  · have := hE.hp.lt he; simp only at hq; omega
  · have := hE.hp.ltO he hq; omega
  · have := (Array.getElem?_eq_some_iff.1 (hE.pins b o' hb').1).1; omega
end
theorem kcallO {P : Program} {C : Ctx} {te : TE} {I : World → Prop} {ops : Array Oper} {i : Nat} {ds : List (Option Tmp)} {o : Oper} {r : List Oper} {st : Stt} {Q : Sy → Prop} (hI : ∀ w, BelM C w → I w) (hte : TEok P te) (hg : o.guard = none) {d : Nat} (hdst : o.dst = some d) (hd : dstOk o st.N = true) {f : Operand} {args : Array Operand} {ts : Array TypeId} {g : FuncId} {caps xs all : List D} {ow : Ow}
    (ho : o.op = .call { callee := .value f, args := args, argTypes := ts }) (hf : evalO (fun t => klook t st.S) f = some (.d (.fn g caps))) (hargs : argsD (fun t => klook t st.S) args.toList = some xs) (hall : xs ++ caps = all)
    (h : FnOwn I P g all ow) (hr : runL P C te ops (i + 1) (o.dst :: ds) r (applyL o.dst ⟨.own d, [], [(d, ow)], [d], []⟩ st) Q) : WalkI P C ops i ds (o :: r) st.sy Q := by
  subst hall
  exact walkI_step (fun ops _ => ok2_run (ok_callO hI ho hdst (dstOk_spec hd d hdst) hf hargs h) (by simp [wantS, hg])) (runL_walk hte hr)
theorem FnOwn.args {I : World → Prop} {P : Program} {g : FuncId} {xs ys : List D} {ow : Ow} (h : FnOwn I P g ys ow) (hle : LeDs xs ys) : FnOwn I P g xs ow :=
  ⟨h.1, fun w Z vs hi hz hv => h.2 w Z vs hi hz (hle.rd hv)⟩
/-- the same under a guard that holds -/
theorem kcallOW {P : Program} {C : Ctx} {te : TE} {I : World → Prop} {ops : Array Oper} {i : Nat} {ds : List (Option Tmp)} {o : Oper} {r : List Oper} {st : Stt} {Q : Sy → Prop} (hI : ∀ w, BelM C w → I w) (hte : TEok P te) (hw : wantR i ds st.S o = some true) {d : Nat} (hdst : o.dst = some d) (hd : dstOk o st.N = true) {f : Operand} {args : Array Operand} {ts : Array TypeId} {g : FuncId} {caps xs all : List D} {ow : Ow}
    (ho : o.op = .call { callee := .value f, args := args, argTypes := ts }) (hf : evalO (fun t => klook t st.S) f = some (.d (.fn g caps))) (hargs : argsD (fun t => klook t st.S) args.toList = some xs) (hall : xs ++ caps = all)
    (h : FnOwn I P g all ow) (hr : runL P C te ops (i + 1) (o.dst :: ds) r (applyL o.dst ⟨.own d, [], [(d, ow)], [d], []⟩ st) Q) : WalkI P C ops i ds (o :: r) st.sy Q := by
  subst hall
  exact walkI_step (fun ops hi => ok2_run (ok_callO hI ho hdst (dstOk_spec hd d hdst) hf hargs h) (wantR_spec hi hw)) (runL_walk hte hr)
/-- where the activation is to come -/
def FnTO (P : Program) (f : FuncId) (cs : List Frame) (w : World) (Z : Nat → Prop) (ow : Ow) (m : Machine) : Prop :=
  ∃ v w' fr Z', m = lone fr cs w' ∧ fr.fn = f ∧ fr.leaving P w' (.returned v) ∧ Below w.heap.size w w' ∧ (∀ b, Z' b → b < w'.heap.size ∧ (Z b ∨ w.heap.size ≤ b)) ∧
    OwnE ⟨fun _ => 0, fun _ => v, Z'⟩ w' 0 ow ∧ ∀ g, v.ownBlock = some g → w.heap.size ≤ g ∧ ¬ Z' g
structure FnRunO (R : Rn) (I : World → Prop) (P : Program) (f : FuncId) (fn : Func) (ow : Ow) : Prop where
  p : R.P = P
  bfn : R.b.fn = f
  kind : R.b.kind = .normal
  round : R.b.roundOf = none
  m : ∀ k, ¬ R.C.M k
  inv : ∀ w, BelM R.C w → I w
  func : P.funcs[f]? = some fn
  t : R.T = FnTO P f R.cs R.C.w0 R.C.Z0 ow
theorem FnOwn_of {I : World → Prop} (hst : Stable I) {P : Program} {f : FuncId} {fn : Func} {c : Code} {args : List D} {ow : Ow} {N : Nat} (hf : P.funcs[f]? = some fn) (hN : fn.ntmps = N) (hb : fn.body = some c) (hn : (fn.name == "runtime.NumGoroutine") = false) (hl : args.length ≤ N)
    (h : ∀ R, FnRunO R I P f fn ow → Exec R [.code c] (Stt.mk N [] (slotsFrom 0 args) [] [] [] []).sy) : FnOwn I P f args ow := by
  subst hN
  refine ⟨⟨fn, hf, by simp [hb], hn⟩, fun w Z vs hi hZ hv => ?_⟩
  intro cs
  let b : Frame := { (default : Frame) with fn := f, kind := .normal, roundOf := none }
  have hlen := RdL_length hv
  have henter : Frame.enter P f vs.toArray .normal = b.atR { tmps := vs.toArray ++ Array.replicate (fn.ntmps - vs.toArray.size) undef, defers := [] } [.code c] := by
    simp [Frame.enter, Frame.atR, hf, hb, b]
  have hx := h ⟨P, b, cs, FnTO P f cs w Z ow, ⟨w, Z, fun _ => False⟩⟩ ⟨rfl, rfl, rfl, rfl, fun _ h => h, fun w' hb => hst w w' hi ⟨hb.os, hb.tape, hb.output, hb.size, fun k hk => hb.block k hk (fun h => h)⟩, hf, rfl⟩
  obtain ⟨m', ⟨v, w', fr, Z', rfl, h1, h2, h3, h4, h5, h6⟩, hst⟩ := hx { tmps := vs.toArray ++ Array.replicate (fn.ntmps - vs.toArray.size) undef, defers := [] } w (by
    refine ⟨⟨fun _ => 0, fun _ => undef, Z⟩, ?_, rfl, fun t sv hs => ?_, ⟨⟨rfl, rfl, rfl, Nat.le_refl _, fun _ _ _ => rfl⟩, fun b hb => ⟨hZ b hb, fun _ h => h, .inl hb⟩, ?_, ?_, ?_, ?_, ?_, ?_⟩, fun b o hb => (nomatch hb), fun p hp => (nomatch hp)⟩
    · simp [Stt.sy]; omega
    · simp only [Stt.sy, look_slots, Nat.zero_le, if_true, Nat.sub_zero] at hs
      cases hd : args[t]? with
      | none => simp [hd] at hs
      | some d =>
        simp [hd] at hs; subst hs
        obtain ⟨v, h1, h2⟩ := RdL_get hv hd
        have hlt : t < vs.length := (List.getElem?_eq_some_iff.1 h1).1
        refine ⟨v, ?_, by simpa [DenV] using h2⟩
        rw [Array.getElem?_append_left (by simpa using hlt)]
        simpa using h1
    all_goals (intros; simp_all [Stt.sy, klook]))
  refine ⟨.returned v, w', fr, ⟨v, Z', rfl, h3, h4, h5, h6⟩, ?_, h1, h2⟩
  rw [henter]; exact hst
/-- two tellings of a slice of one's own -/
structure SameOw (a b : Ow) : Prop where
  e : a.e = b.e
  k : a.k = b.k
  n : a.n = b.n
  x : a.x = b.x
  row : ∀ i, i < b.x → a.row i = b.row i
theorem OwnE.same {E : Env} {w : World} {key : Nat} {a b : Ow} (h : OwnE E w key a) (hs : SameOw a b) : OwnE E w key b := by
  obtain ⟨e, k, n, x, row⟩ := a
  obtain ⟨e', k', n', x', row'⟩ := b
  obtain ⟨h1, h2, h3, h4, h5⟩ := hs
  simp only at h1 h2 h3 h4 h5
  subst h1 h2 h3 h4
  obtain ⟨⟨g1, g2⟩, g3⟩ := h
  refine ⟨⟨fun i hi => by show (row' i).length = k ∧ lfR (row' i) = true; rw [← h5 i hi]; exact g1 i hi, g2⟩, g3.imp id ?_⟩
  rintro ⟨g, cap, us, q1, q2, q3, q4, q5, q6⟩
  exact ⟨g, cap, us, q1, q2, q3, q4, q5, fun i hi => by show RdL w E.Z (row' i) _; rw [← h5 i hi]; exact q6 i hi⟩
theorem retO_T {I : World → Prop} {P : Program} {b : Frame} {cs : List Frame} {T : Machine → Prop} {C : Ctx} {f : FuncId} {fn : Func} {ow : Ow} (hR : FnRunO ⟨P, b, cs, T, C⟩ I P f fn ow) {s : Stt} {t key : Nat} {ow0 : Ow} (hrv : fn.results.toList = [.tmp t]) (hdf : s.df = []) {k : List Item}
    (ht : klook t s.S = some (.own key)) (hO : klook key s.O = some ow0) (he : SameOw ow0 ow) {E : Env} {a : Act} {w : World} (hE : SatE C E s.sy a w) : T (lone { b.atR a k with mode := .returning } cs w) := by
  obtain ⟨v, h1, h2⟩ := hE.slots t _ ht
  simp only [DenV] at h2
  have h3 : (results fn a.tmps).run P w = .ok v w := by
    have hm : (fn.results.mapM (rvSem a.tmps)).run P w = .ok #[v] w := by
      rw [Array.mapM_eq_mapM_toList, hrv]
      simp [rvSem, Array.getD_eq_getD_getElem?, h1]
    rw [results_eq]
    simp only [Sem.run_bind, hm, Result.andThen_ok]
    rfl
  have hbel : Below C.w0.heap.size C.w0 w := ⟨hE.hp.bel.os, hE.hp.bel.tape, hE.hp.bel.output, hE.hp.bel.size, fun k hk => hE.hp.bel.block k hk (hR.m k)⟩
  have hdf' : a.defers = [] := hE.df.trans hdf
  have hT : T = _ := hR.t
  rw [hT]
  refine ⟨v, w, _, E.Z, rfl, hR.bfn, ?_, hbel, fun b hb => ⟨(hE.hp.z b hb).1, (hE.hp.z b hb).2.2⟩, ((hE.hp.own key ow0 hO).same he).to (by simp [h2]) (fun _ h => h), fun g hg => ?_⟩
  · refine ⟨rfl, hdf', hR.kind, fn, ?_, h3⟩
    show P.funcs[b.fn]? = some fn
    have := hR.bfn
    simp only at this
    rw [this]; exact hR.func
  · have := hE.hp.ownN key ow0 g hO (by rw [← h2]; exact hg)
    exact ⟨this.1, this.2.1⟩
theorem Exec.retsO {I : World → Prop} {P : Program} {b : Frame} {cs : List Frame} {T : Machine → Prop} {C : Ctx} {f : FuncId} {fn : Func} {ow : Ow} (hR : FnRunO ⟨P, b, cs, T, C⟩ I P f fn ow) {s : Stt} {t key : Nat} {ow0 : Ow} (hrv : fn.results.toList = [.tmp t]) (hdf : s.df = []) {k : List Item}
    (ht : klook t s.S = some (.own key)) (hO : klook key s.O = some ow0) (he : SameOw ow0 ow) (hk : k = [] ∨ ∃ k', k = .code .ret :: k') : Exec ⟨P, b, cs, T, C⟩ k s.sy := by
  intro a w ⟨E, hE⟩
  refine ⟨_, retO_T hR hrv hdf (k := k) ht hO he hE, ?_⟩
  rcases hk with rfl | ⟨k', rfl⟩
  · exact .one (stepR_end hR.round)
  · exact .one (stepR_ret hR.round)
theorem Exec.retsMO {I : World → Prop} {P : Program} {b : Frame} {cs : List Frame} {T : Machine → Prop} {C : Ctx} {f : FuncId} {fn : Func} {ow : Ow} (hR : FnRunO ⟨P, b, cs, T, C⟩ I P f fn ow) {s : Stt} {t key : Nat} {ow0 : Ow} (hrv : fn.results.toList = [.tmp t]) (hdf : Marks s.df s.pin) {k : List Item}
    (ht : klook t s.S = some (.own key)) (hO : klook key s.O = some ow0) (he : SameOw ow0 ow) (hk : k = [] ∨ ∃ k', k = .code .ret :: k') : Exec ⟨P, b, cs, T, C⟩ k s.sy := by
  intro a w ⟨E, hE⟩
  obtain ⟨a', w', pin', h1, h2⟩ := hdf.run (P := P) (b := b) (cs := cs) (k := k) hE
  refine ⟨_, retO_T hR hrv (s := Stt.mk s.N [] s.S s.L s.O s.fz pin') rfl (k := k) ht hO he h1, ?_⟩
  rcases hk with rfl | ⟨k', rfl⟩
  · exact .head (stepR_end hR.round) h2
  · exact .head (stepR_ret hR.round) h2
/-- slots that are read no more are dropped -/
theorem Exec.prune {R : Rn} {k : List Item} {s : Stt} (ts : List Nat) (hw : LeS s.S (restS s.S ts) ∧ LeL s.L s.L ∧ LeO s.O s.O ∧ LeF s.fz s.fz) (hk : Exec R k (famSt s ts [] [] []).sy) : Exec R k s.sy :=
  Exec.weak (famSt s ts [] [] []) rfl rfl hw.1 (by have := hw.2.1; simpa only [famSt, List.nil_append, keysOf, delKs] using this) (by have := hw.2.2.1; simpa only [famSt, List.nil_append, keysOf, delKs] using this) hw.2.2.2 rfl hk
end Go.Kin
