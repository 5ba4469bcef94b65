/- Steps of a function body on data, and contracts of the functions of the seat, walked. -/
import Derived.Test.YtgnhhjojiipmgaaGreatDoorKFrz
import Derived.Test.YtgnhhjojiipmgaaGreatDoorKAttr
import Derived.Laws.RangeAny
set_option linter.unusedSimpArgs false
set_option linter.unusedVariables false
set_option linter.unusedSectionVars false
namespace Go.Kin
open Go.RowKit
/-! ### a call that is walked where it stands: the caller waits -/
theorem mkSV_den {E : Env} {w : World} {u : TypeDesc} {cs : List SV} {vs : List Value} {sv : SV} (h : mkSV u cs = some sv) (hv : DenL E w cs vs) (h1 : aggD u = false → cs.length = 1) : DenV E w sv (if aggD u then .agg vs.toArray else vs.headD undef) := by
  unfold mkSV at h
  cases ha : aggD u with
  | true =>
    simp only [ha, if_true] at h ⊢
    cases hd : allD cs with
    | none => rw [hd] at h; cases h
    | some ds =>
      rw [hd] at h; cases h
      simp only [DenV, RdV]
      exact ⟨vs, rfl, RdL_of_DenL hd hv⟩
  | false =>
    have h2 := h1 ha
    simp only [ha, Bool.false_eq_true, if_false] at h ⊢
    match cs, h2, h, hv with
    | [c], _, h, hv =>
      simp at h; subst h
      simp only [DenL] at hv
      obtain ⟨v, vs', rfl, h3, _⟩ := hv
      simpa using h3
theorem mkD_rd {w : World} {Z : Nat → Prop} {u : TypeDesc} {cs : List D} {vs : List Value} (hv : RdL w Z cs vs) (h1 : aggD u = false → cs.length = 1) : RdV w Z (mkD u cs) (if aggD u then .agg vs.toArray else vs.headD undef) := by
  unfold mkD
  cases ha : aggD u with
  | true => simp only [if_true, RdV]; exact ⟨vs, rfl, hv⟩
  | false =>
    have h2 := h1 ha
    simp only [Bool.false_eq_true, if_false]
    match cs, h2, hv with
    | [c], _, hv =>
      simp only [RdL] at hv
      obtain ⟨v, vs', rfl, h3, _⟩ := hv
      simpa using h3
def resI (te : TE) (s : Stt) : List ResultVar → Option (List SV)
  | [] => some []
  | .tmp t :: r => match klook t s.S, resI te s r with
    | some sv, some svs => some (sv :: svs)
    | _, _ => none
  | .cell t ty :: r => match klook t s.S, klook ty te with
    | some (.lp key off), some i => match klook key s.L with
      | some (_, cs) => if one1 i = true ∧ off + i.size ≤ cs.length then (match mkSV i.u ((cs.drop off).take i.size), resI te s r with | some sv, some svs => some (sv :: svs) | _, _ => none) else none
      | none => none
    | some (.d (.ptr cs)), some i => if one1 i = true ∧ i.size ≤ cs.length then (match resI te s r with | some svs => some (.d (mkD i.u (cs.take i.size)) :: svs) | none => none) else none
    | _, _ => none
def resSV : List SV → Option SV
  | [] => some (.d (.v (.tuple #[])))
  | [sv] => some sv
  | svs => match allD svs with
    | some ds => some (.d (.tup ds))
    | none => none
theorem resI_run {te : TE} {P : Program} (hte : TEok P te) {C : Ctx} {E : Env} {s : Stt} {a : Act} {w : World} (hE : SatE C E s.sy a w) : ∀ {l : List ResultVar} {svs : List SV}, resI te s l = some svs →
    ∃ vs : List Value, (l.mapM (rvSem a.tmps)).run P w = .ok vs w ∧ DenL E w svs vs
  | [], svs, h => by simp [resI] at h; subst h; exact ⟨[], by simp, by simp [DenL]⟩
  | .tmp t :: r, svs, h => by
    simp only [resI] at h
    split at h
    · rename_i sv svs' hs hr
      cases h
      obtain ⟨vs, h1, h2⟩ := resI_run hte hE hr
      obtain ⟨v, h3, h4⟩ := hE.slots t sv hs
      refine ⟨v :: vs, ?_, by simp only [DenL]; exact ⟨v, vs, rfl, h4, h2⟩⟩
      simp [List.mapM_cons, rvSem, h1, h3]
    · cases h
  | .cell t ty :: r, svs, h => by
    simp only [resI] at h
    split at h
    · rename_i key off i hs hi
      split at h
      · rename_i T cs hL
        split at h
        · rename_i hc
          split at h
          · rename_i sv svs' hd hr
            cases h
            obtain ⟨vs, h1, h2⟩ := resI_run hte hE hr
            obtain ⟨v, h3, h4⟩ := hE.slots t _ hs
            simp only [DenV] at h4
            obtain ⟨us, h5, h6⟩ := hE.hp.loc key T cs hL
            have h7 := DenL_take i.size (DenL_drop off h6)
            have hul := DenL_length h6
            have hvl : ((us.drop off).take i.size).length = i.size := by simp; omega
            have hcell : ∀ j, j < i.size → w.cell? ⟨E.β key, off + j, none⟩ = ((us.drop off).take i.size)[j]? := fun j hj => by
              rw [List.getElem?_take_of_lt hj, List.getElem?_drop]
              simp [World.cell?, h5]
            have hld := run_load (P := P) (w := w) (t := ty) (hte _ _ hi) hvl hcell (one1_spec hc.1)
            have h8 := mkSV_den hd h7 (fun ha => by have := one1_spec hc.1 ha; simp; omega)
            refine ⟨(if aggD i.u then .agg ((us.drop off).take i.size).toArray else ((us.drop off).take i.size).headD undef) :: vs, ?_, by simp only [DenL]; exact ⟨_, vs, rfl, h8, h2⟩⟩
            simp [List.mapM_cons, rvSem, h1, h3, h4, asAddr, hld]
          · cases h
        · cases h
      · cases h
    · rename_i cs i hs hi
      split at h
      · rename_i hc
        split at h
        · rename_i svs' hr
          cases h
          obtain ⟨vs, h1, h2⟩ := resI_run hte hE hr
          obtain ⟨v, h3, h4⟩ := hE.slots t _ hs
          simp only [DenV, RdV] at h4
          obtain ⟨b, off, rfl, hz, h5⟩ := h4
          obtain ⟨us, h6, h7⟩ := RdC_vals (RdC_take i.size h5)
          have hlen : (cs.take i.size).length = i.size := by simp [hc.2]
          have hvl : us.length = i.size := by rw [RdL_length h6, hlen]
          have hld := run_load (P := P) (w := w) (t := ty) (hte _ _ hi) (b := b) (off := off) (vs := us) hvl (fun j hj => h7 j (by rw [hlen]; exact hj)) (one1_spec hc.1)
          have h8 := mkD_rd (u := i.u) h6 (fun ha => by have := one1_spec hc.1 ha; simp; omega)
          refine ⟨(if aggD i.u then .agg us.toArray else us.headD undef) :: vs, ?_, by simp only [DenL]; exact ⟨_, vs, rfl, by simp only [DenV]; exact h8, h2⟩⟩
          simp [List.mapM_cons, rvSem, h1, h3, asAddr, hld]
        · cases h
      · cases h
    · cases h
theorem resSV_den {E : Env} {w : World} {svs : List SV} {vs : List Value} {sv : SV} (h : resSV svs = some sv) (hv : DenL E w svs vs) : DenV E w sv (if hs : vs.toArray.size = 1 then vs.toArray[0] else .tuple vs.toArray) := by
  match svs, h, hv with
  | [], h, hv => simp [resSV] at h; subst h; simp only [DenL] at hv; subst hv; simp [DenV, RdV]
  | [x], h, hv =>
    simp [resSV] at h; subst h
    simp only [DenL] at hv
    obtain ⟨v, vs', rfl, h1, rfl⟩ := hv
    simpa using h1
  | x :: y :: r, h, hv =>
    simp only [resSV] at h
    cases hd : allD (x :: y :: r) with
    | none => rw [hd] at h; cases h
    | some ds =>
      rw [hd] at h; cases h
      have hl := DenL_length hv
      have hne : ¬ vs.toArray.size = 1 := by simp at hl ⊢; omega
      rw [dif_neg hne]
      simp only [DenV, RdV]
      exact ⟨vs, rfl, RdL_of_DenL hd hv⟩
theorem Exec.enter {P : Program} {b : Frame} {cs : List Frame} {T : Machine → Prop} {C : Ctx} {k : List Item} {s : Stt} {ops : Array Oper} {i m : Nat} {o : Oper} {f : Operand} {args : Array Operand} {ts : Array TypeId} {sv : SV} {g : Nat} {fn : Func} {c : Code} {caps svs : List SV} {N : Nat}
    (ho : ops[i]? = some o) (hop : o.op = .call { callee := .value f, args := args, argTypes := ts }) (hgd : o.guard = none) (hf : evalL s.S f = some sv) (hc : fnCaps sv = some (g, caps)) (hargs : argsV s.S args.toList = some svs)
    (hfn : P.funcs[g]? = some fn) (hN : fn.ntmps = N) (hb : fn.body = some c) (hn : (fn.name == "runtime.NumGoroutine") = false) (hl : svs.length + caps.length ≤ N)
    (h : ∀ ag : Act, ag.tmps.size = s.N → ag.defers = s.df →
      Exec ⟨P, callB g, b.atR ag (.inRegion ops (i :: List.range' (i + 1) m) :: k) :: cs, T, C⟩ [.code c] (Stt.mk N [] (slotsV 0 (svs ++ caps)) s.L s.O ((ag, s.S) :: s.fz) s.pin).sy) :
    Exec ⟨P, b, cs, T, C⟩ (.inRegion ops (List.range' i (m + 1)) :: k) s.sy := by
  subst hN
  rw [List.range'_succ]
  intro a w ⟨E, hE⟩
  have hgv : DenV E w sv (a.eval f) := evalO_den (s := s.sy) hE ((evalL_eq _ _).symm.trans hf)
  obtain ⟨us, e1, hus⟩ := fnCaps_den hc hgv
  have hav := argsV_den hE hargs
  have hall := DenL_append hav hus
  have hlen := DenL_length hall
  have hent : ∀ args w, (callFunc g args).run P w = .ok (.enter g args) w := fun args w => Enters.run ⟨fn, hfn, by simp [hb], hn⟩ args w
  have hw : Region.wanted o (yielded ops a.tmps) = true := by unfold Region.wanted; rw [hgd]
  have hg := stepGR_op (P := P) (b := b) (k := k) (cs := cs) (w := w) (a := a) (rest := List.range' (i + 1) m) ho hw
  rw [Oper.semAt_eq _ _ _ (by simp [hop])] at hg
  have hr : (execOp a.eval o).run P w = .ok (.enter g (args.toList.map a.eval ++ us).toArray) w := by
    have : (args.map a.eval ++ us.toArray) = (args.toList.map a.eval ++ us).toArray := Array.ext' (by simp)
    simp [execOp, hop, resolve, e1, Deferred.ofValue, invoke, hent, this]
  have henter : Frame.enter P g (args.toList.map a.eval ++ us).toArray .normal = (callB g).atR { tmps := (args.toList.map a.eval ++ us).toArray ++ Array.replicate (fn.ntmps - (args.toList.map a.eval ++ us).toArray.size) undef, defers := [] } [.code c] := by
    simp [Frame.enter, Frame.atR, hfn, hb, callB]
  have hst : step P (lone (b.atR a (.inRegion ops (i :: List.range' (i + 1) m) :: k)) cs w) = .next (lone (Frame.enter P g (args.toList.map a.eval ++ us).toArray .normal) (b.atR a (.inRegion ops (i :: List.range' (i + 1) m) :: k) :: cs) w) :=
    step_lone_go (by rw [hg]; simp [stepG.apply, hr, Frame.atR])
  refine (?_ : ∃ m', T m' ∧ Steps P _ m').imp fun m' hm => ⟨hm.1, .head hst hm.2⟩
  rw [henter]
  refine h a hE.sz hE.df _ _ ⟨E, ⟨?_, rfl, fun t sv' ht => ?_, hE.hp, hE.pins, fun p hp => ?_⟩⟩
  · simp only [Stt.sy, Array.size_append, Array.size_replicate, List.size_toArray]
    have : (args.toList.map a.eval ++ us).length = svs.length + caps.length := by rw [hlen]; simp
    omega
  · simp only [Stt.sy, look_slotsV, Nat.zero_le, if_true, Nat.sub_zero] at ht
    obtain ⟨v, h3, h4⟩ := DenL_get hall ht
    refine ⟨v, ?_, h4⟩
    have hlt : t < (args.toList.map a.eval ++ us).length := (List.getElem?_eq_some_iff.1 h3).1
    rw [Array.getElem?_append_left (by simpa using hlt)]
    simpa using h3
  · rcases List.mem_cons.1 hp with rfl | hp
    · exact hE.slots
    · exact hE.waits p hp
theorem Exec.leave {P : Program} {te : TE} {b : Frame} {cs : List Frame} {T : Machine → Prop} {C : Ctx} {k k' : List Item} {s : Stt} (hte : TEok P te) {g : Nat} {fu : Func} {rv : List ResultVar} {svs : List SV} {sv : SV} {ag : Act} {Sg : List (Nat × SV)} {fz : List (Act × List (Nat × SV))} {df : List Deferred}
    {ops : Array Oper} {i m Ng : Nat} {d : Option Tmp}
    (hf : P.funcs[g]? = some fu) (hrv : fu.results.toList = rv) (hres : resI te s rv = some svs) (hsv : resSV svs = some sv) (hk : k = [] ∨ ∃ k1, k = .code .ret :: k1) (hdf : s.df = []) (hfz : s.fz = (ag, Sg) :: fz) (hag : ag.tmps.size = Ng) (hagd : ag.defers = df) (hd : (ops[i]?).bind (·.dst) = d) (hdN : dstLt d Ng = true)
    (h : Exec ⟨P, b, cs, T, C⟩ (.inRegion ops (List.range' (i + 1) m) :: k') (Stt.mk Ng df (putD d sv Sg) s.L s.O fz s.pin).sy) :
    Exec ⟨P, callB g, b.atR ag (.inRegion ops (i :: List.range' (i + 1) m) :: k') :: cs, T, C⟩ k s.sy := by
  intro a w ⟨E, hE⟩
  have hd' : a.defers = [] := hE.df.trans hdf
  obtain ⟨vs, hr1, hr2⟩ := resI_run (P := P) hte hE hres
  have hsvd := resSV_den hsv hr2
  generalize hv : (if hs : vs.toArray.size = 1 then vs.toArray[0] else Value.tuple vs.toArray) = v at hsvd
  have s1 : step P (lone ((callB g).atR a k) (b.atR ag (.inRegion ops (i :: List.range' (i + 1) m) :: k') :: cs) w) = .next (lone { (callB g).atR a k with mode := .returning } (b.atR ag (.inRegion ops (i :: List.range' (i + 1) m) :: k') :: cs) w) := by
    rcases hk with rfl | ⟨k1, rfl⟩
    · exact stepR_end rfl
    · exact stepR_ret rfl
  have hleave : Frame.leaving P { (callB g).atR a k with mode := .returning } w (.returned v) := by
    refine ⟨rfl, hd', rfl, fu, hf, ?_⟩
    have hm : (fu.results.mapM (rvSem a.tmps)).run P w = .ok vs.toArray w := by
      rw [Array.mapM_eq_mapM_toList, hrv]
      simp [Sem.run_bind, hr1]
    show (results fu a.tmps).run P w = _
    rw [results_eq]
    simp only [Sem.run_bind, hm, Result.andThen_ok, Sem.run_pure]
    rw [hv]
  have s2 := step_leave_returned (c := b.atR ag (.inRegion ops (i :: List.range' (i + 1) m) :: k')) (cs := cs) hleave
  rw [Frame.finish_atR, hd] at s2
  refine (?_ : ∃ m', T m' ∧ Steps P _ m').imp fun m' hm => ⟨hm.1, .head s1 (.head s2 hm.2)⟩
  refine h _ _ ⟨E, ⟨?_, ?_, fun t sv' ht => ?_, hE.hp, hE.pins, fun p hp => ?_⟩⟩
  · rw [show (ag.put d v).tmps.size = ag.tmps.size from by cases d <;> simp [Act.put]]; exact hag
  · rw [show (ag.put d v).defers = ag.defers from by cases d <;> rfl]; exact hagd
  · rw [put_tmps (fun t ht => by subst ht; simp [dstLt] at hdN; rw [hag]; exact hdN)]
    simp only [Stt.sy] at ht
    cases d with
    | none =>
      simp only [putD] at ht
      rw [if_neg (by simp)]
      exact hE.waits (ag, Sg) (by simp only [Stt.sy, hfz]; exact List.mem_cons_self) t sv' ht
    | some t' =>
      simp only [putD, klook] at ht
      by_cases htt : t = t'
      · subst htt
        simp at ht; subst ht
        exact ⟨v, by rw [if_pos rfl], hsvd⟩
      · rw [if_neg htt] at ht
        rw [if_neg (by simp; exact fun e => htt e.symm)]
        exact hE.waits (ag, Sg) (by simp [Stt.sy, hfz]) t sv' ht
  · exact hE.waits p (by simp only [Stt.sy, hfz]; exact List.mem_cons_of_mem _ hp)
/-- a round of a loop whose activation waits somewhere -/
theorem Exec.yieldD {P : Program} {b : Frame} {cs : List Frame} {T : Machine → Prop} {C : Ctx} {k : List Item} {s : Stt} (j : Nat) {ops : Array Oper} {i m : Nat} {o : Oper} {y : Operand} {args : Array Operand} {ts : Array TypeId} {l bfn r No : Nat} {ps : Array Tmp} {assign body : Code}
    {pin : List (Nat × Obj)} {ao : Act} {So : List (Nat × SV)} {svs : List SV} {pd : Option Code} {lo : LoopState → Option Code → Obj}
    (ho : ops[i]? = some o) (hop : o.op = .call { callee := .value y, args := args, argTypes := ts }) (hgd : o.guard = none) (hy : evalL s.S y = some (.d (.v (.func (.yield l) #[] #[])))) (hargs : argsV s.S args.toList = some svs)
    (hpin : s.pin = (l, lo .ready pd) :: pin) (hlo : lo = loopR bfn ao.tmps ps assign body r) (hfz : (ao, So) ∈ s.fz) (hao : ao.tmps.size = No) (hps : (decide (ps.size = args.size) && ps.toList.all fun t => decide (t < No)) = true)
    (h : ∀ ag : Act, ag.tmps.size = s.N → ag.defers = s.df →
      Exec ⟨P, rndB bfn l, b.atR ag (.inRegion ops (i :: List.range' (i + 1) m) :: k) :: cs, T, C⟩ [.code assign, .beginRound, .code body]
        (renSt (swJ j) ⟨No, [], setPs ps.toList svs So, s.L, s.O, (ag, s.S) :: s.fz, s.pin⟩).sy) :
    Exec ⟨P, b, cs, T, C⟩ (.inRegion ops (List.range' i (m + 1)) :: k) s.sy := by
  obtain ⟨N, df, S, L, O, fz, pn⟩ := s
  have hx : Exec ⟨P, b, cs, T, C⟩ (.inRegion ops (List.range' i (m + 1)) :: k) (Stt.mk N df S L O ((ao, So) :: fz) pn).sy := by
    refine Exec.yield j ho hop hgd hy hargs hpin hlo rfl hao hps fun ag hag hdg => ?_
    refine fun a w hs => h ag hag hdg a w ?_
    obtain ⟨E, hE⟩ := hs
    refine ⟨E, hE.sz, hE.df, hE.slots, hE.hp, hE.pins, fun p hp => hE.waits p ?_⟩
    simp only [Stt.sy, renSt, renF] at hp ⊢
    rcases List.mem_cons.1 hp with rfl | hp
    · exact List.mem_cons_self
    · exact List.mem_cons_of_mem _ (List.mem_cons_of_mem _ hp)
  intro a w hs
  refine hx a w ?_
  obtain ⟨E, hE⟩ := hs
  refine ⟨E, hE.sz, hE.df, hE.slots, hE.hp, hE.pins, fun p hp => hE.waits p ?_⟩
  rcases List.mem_cons.1 hp with rfl | hp
  · exact hfz
  · exact hp
attribute [go_sem] resI resSV
end Go.Kin
namespace Go.Kin
open Go.RowKit
/-! ### a range over a text: its iterator is a block that is known whole -/
theorem run_next_more {P : Program} {w : World} {l pos : Nat} {str : ByteArray} {ty : TypeId} (hl : w.heap[l]? = some (.stringIter str pos)) (h : pos < str.size) :
    (Instr.next (.pointer (some ⟨l, 0, none⟩)) true ty).run P w = .ok (.tuple #[.bool true, .int .i64 pos, .int .i32 (Utf8.decode str pos).1]) (w.putObj l (.stringIter str (pos + (Utf8.decode str pos).2))) := by
  simp only [Instr.next, getObj, setObj, Sem.run_bind, Sem.run, hl, Result.andThen, h, if_true, World.putObj]
  simp [goInt]
theorem run_next_none {P : Program} {w : World} {l pos : Nat} {str : ByteArray} {ty : TypeId} (hl : w.heap[l]? = some (.stringIter str pos)) (h : ¬ pos < str.size) :
    (Instr.next (.pointer (some ⟨l, 0, none⟩)) true ty).run P w = .ok (.tuple #[.bool false]) w := by
  simp [Instr.next, getObj, Sem.run, hl, h]
def putSl (d : Nat) (sv : SV) (s : Stt) : Stt := ⟨s.N, s.df, (d, sv) :: s.S, s.L, s.O, s.fz, s.pin⟩
theorem SatE.putSl {C : Ctx} {E : Env} {s : Stt} {a : Act} {w : World} (h : SatE C E s.sy a w) {d : Nat} (hd : d < s.N) {sv : SV} {u : Value} (hu : DenV E w sv u) : SatE C E (putSl d sv s).sy (a.put (some d) u) w := by
  have := h.slot (d := some d) (fun t ht => by cases ht; exact hd) hu
  have e := applyL_sy (some d) ⟨sv, [], [], [], []⟩ s
  rw [← e] at this
  exact this
theorem Exec.rangeStr {P : Program} {b : Frame} {cs : List Frame} {T : Machine → Prop} {C : Ctx} {k : List Item} {te : TE} (hte : TEok P te) {ops : Array Oper} {i m : Nat} {o : Oper} {x : Operand} {t d : Nat} {str : ByteArray} {s : Stt}
    (ho : ops[i]? = some o) (hop : o.op = .range t x) (hg : o.guard = none) (hd : o.dst = some d) (hdN : decide (d < s.N) = true) (hx : evalL s.S x = some (.d (.v (.string str)))) (ht : isStr te t = true)
    (h : ∀ l, Fresh l s.pin → Exec ⟨P, b, cs, T, C⟩ (.inRegion ops (List.range' (i + 1) m) :: k) (Stt.mk s.N s.df ((d, .d (.v (.pointer (some ⟨l, 0, none⟩)))) :: s.S) s.L s.O s.fz ((l, .stringIter str 0) :: s.pin)).sy) :
    Exec ⟨P, b, cs, T, C⟩ (.inRegion ops (List.range' i (m + 1)) :: k) s.sy := by
  intro a w ⟨E, hE⟩
  obtain ⟨ti, hti, hu⟩ := isStr_spec hte ht
  have hv : a.eval x = .string str := by
    have := evalO_den hE (x := x) (sv := .d (.v (.string str))) ((evalL_eq _ _).symm.trans hx)
    simpa only [DenV, RdV] using this
  have hr : gives P o a.eval w fun u w' => u = .pointer (some ⟨w.heap.size, 0, none⟩) ∧ w' = w.alloc (.stringIter str 0) := by
    unfold gives execOp
    simp only [hop]
    rw [hv, Sem.run_bind, run_range_string w t str (by rw [hti.1, hu])]
    exact ⟨rfl, rfl⟩
  obtain ⟨u, w', ⟨rfl, rfl⟩, hs⟩ := gives_step (b := b) (cs := cs) (k := k) (rest := List.range' (i + 1) m) ho (by unfold Region.wanted; rw [hg]) (by rw [hop]; intro c hc; cases hc) hr
  obtain ⟨E', h1, h2⟩ := hE.pinNew (.stringIter str 0)
  have h3 := h1.putSl (d := d) (by simpa using hdN) (sv := .d (.v (.pointer (some ⟨w.heap.size, 0, none⟩)))) (u := .pointer (some ⟨w.heap.size, 0, none⟩)) (by simp only [DenV, RdV])
  obtain ⟨m', hm, hst⟩ := h w.heap.size h2 _ _ ⟨E', h3⟩
  rw [← hd] at hst
  refine ⟨m', hm, ?_⟩
  have e : List.range' i (m + 1) = i :: List.range' (i + 1) m := rfl
  rw [e]
  exact hs.trans hst
theorem Exec.nextStr {P : Program} {b : Frame} {cs : List Frame} {T : Machine → Prop} {C : Ctx} {k : List Item} {ops : Array Oper} {i m : Nat} {o : Oper} {x : Operand} {d l pos : Nat} {str : ByteArray} {s : Stt} {pin : List (Nat × Obj)}
    (ho : ops[i]? = some o) (hop : o.op = .next x true) (hg : o.guard = none) (hd : o.dst = some d) (hdN : decide (d < s.N) = true) (hx : evalL s.S x = some (.d (.v (.pointer (some ⟨l, 0, none⟩))))) (hpin : s.pin = (l, .stringIter str pos) :: pin) (hf : Fresh l pin)
    (h1 : pos < str.size → Exec ⟨P, b, cs, T, C⟩ (.inRegion ops (List.range' (i + 1) m) :: k) (Stt.mk s.N s.df ((d, .d (.tup [.v (.bool true), .v (.int .i64 pos), .v (.int .i32 (Utf8.decode str pos).1)])) :: s.S) s.L s.O s.fz ((l, .stringIter str (pos + (Utf8.decode str pos).2)) :: pin)).sy)
    (h2 : ¬ pos < str.size → Exec ⟨P, b, cs, T, C⟩ (.inRegion ops (List.range' (i + 1) m) :: k) (Stt.mk s.N s.df ((d, .d (.tup [.v (.bool false)])) :: s.S) s.L s.O s.fz s.pin).sy) :
    Exec ⟨P, b, cs, T, C⟩ (.inRegion ops (List.range' i (m + 1)) :: k) s.sy := by
  intro a w ⟨E, hE⟩
  have hl : w.heap[l]? = some (.stringIter str pos) := (hE.pins l _ (by simp [Stt.sy, hpin])).1
  have hv : a.eval x = .pointer (some ⟨l, 0, none⟩) := by
    have := evalO_den hE (x := x) (sv := .d (.v (.pointer (some ⟨l, 0, none⟩)))) ((evalL_eq _ _).symm.trans hx)
    simpa only [DenV, RdV] using this
  have e : List.range' i (m + 1) = i :: List.range' (i + 1) m := rfl
  rw [e]
  by_cases hp : pos < str.size
  · have hr : gives P o a.eval w fun u w' => u = .tuple #[.bool true, .int .i64 pos, .int .i32 (Utf8.decode str pos).1] ∧ w' = w.putObj l (.stringIter str (pos + (Utf8.decode str pos).2)) := by
      unfold gives execOp
      simp only [hop]
      rw [hv, Sem.run_bind, run_next_more hl hp]
      exact ⟨rfl, rfl⟩
    obtain ⟨u, w', ⟨rfl, rfl⟩, hs⟩ := gives_step (b := b) (cs := cs) (k := k) (rest := List.range' (i + 1) m) ho (by unfold Region.wanted; rw [hg]) (by rw [hop]; intro c hc; cases hc) hr
    have h3 := (hE.pinSet (o' := .stringIter str (pos + (Utf8.decode str pos).2)) hpin hf).putSl (d := d) (by simpa using hdN) (sv := .d (.tup [.v (.bool true), .v (.int .i64 pos), .v (.int .i32 (Utf8.decode str pos).1)])) (u := .tuple #[.bool true, .int .i64 pos, .int .i32 (Utf8.decode str pos).1])
      (by simp only [DenV, RdV, RdL]; exact ⟨_, rfl, _, _, rfl, rfl, _, _, rfl, rfl, _, _, rfl, rfl, rfl⟩)
    obtain ⟨m', hm, hst⟩ := h1 hp _ _ ⟨E, h3⟩
    rw [← hd] at hst
    exact ⟨m', hm, hs.trans hst⟩
  · have hr : gives P o a.eval w fun u w' => u = .tuple #[.bool false] ∧ w' = w := by
      unfold gives execOp
      simp only [hop]
      rw [hv, Sem.run_bind, run_next_none hl hp]
      exact ⟨rfl, rfl⟩
    obtain ⟨u, w', ⟨rfl, rfl⟩, hs⟩ := gives_step (b := b) (cs := cs) (k := k) (rest := List.range' (i + 1) m) ho (by unfold Region.wanted; rw [hg]) (by rw [hop]; intro c hc; cases hc) hr
    have h3 := hE.putSl (d := d) (by simpa using hdN) (sv := .d (.tup [.v (.bool false)])) (u := .tuple #[.bool false]) (by simp only [DenV, RdV, RdL]; exact ⟨_, rfl, _, _, rfl, rfl, rfl⟩)
    obtain ⟨m', hm, hst⟩ := h2 hp _ _ ⟨E, h3⟩
    rw [← hd] at hst
    exact ⟨m', hm, hs.trans hst⟩
/-! ### loops in which such blocks turn -/
def famStP (s : Stt) (ts : List Nat) (mS : List (Nat × SV)) (mL : List (Nat × TypeId × List SV)) (mO : List (Nat × Ow)) (mP : List (Nat × Obj)) : Stt :=
  ⟨s.N, s.df, mS ++ restS s.S ts, mL ++ delKs (keysOf mL) s.L, mO ++ delKs (keysOf mO) s.O, s.fz, mP⟩
theorem Exec.loopUP {R : Rn} {k : List Item} {c : Code} {X : Type} {s : Stt} (ts : List Nat) (mS : X → List (Nat × SV)) (mL : X → List (Nat × TypeId × List SV)) (mO : X → List (Nat × Ow)) (mP : X → List (Nat × Obj)) (μ : X → Nat) (I : X → Prop) (x0 : X)
    (h0 : I x0) (hP : s.pin = mP x0) (hw : LeS s.S (mS x0 ++ restS s.S ts) ∧ LeL s.L (mL x0 ++ delKs (keysOf (mL x0)) s.L) ∧ LeO s.O (mO x0 ++ delKs (keysOf (mO x0)) s.O) ∧ LeF s.fz s.fz)
    (body : ∀ x, I x → (∀ y, I y → μ y < μ x → Exec R (.inLoop c :: k) (famStP s ts (mS y) (mL y) (mO y) (mP y)).sy) → Exec R (.code c :: .inLoop c :: k) (famStP s ts (mS x) (mL x) (mO x) (mP x)).sy) : Exec R (.code (.loop c) :: k) s.sy :=
  Exec.weak (famStP s ts (mS x0) (mL x0) (mO x0) (mP x0)) rfl rfl hw.1 hw.2.1 hw.2.2.1 hw.2.2.2 hP (Exec.loopL (fun x => famStP s ts (mS x) (mL x) (mO x) (mP x)) μ I body x0 h0)
theorem Exec.backP {R : Rn} {k : List Item} {s s0 : Stt} {ts : List Nat} {mS : List (Nat × SV)} {mL : List (Nat × TypeId × List SV)} {mO : List (Nat × Ow)} {mP : List (Nat × Obj)} (hk : Exec R k (famStP s0 ts mS mL mO mP).sy) (hN : s.N = s0.N) (hdf : s.df = s0.df)
    (hS : LeS s.S (mS ++ restS s0.S ts)) (hL : LeL s.L (mL ++ delKs (keysOf mL) s0.L)) (hO : LeO s.O (mO ++ delKs (keysOf mO) s0.O)) (hF : LeF s.fz s0.fz) (hP : s.pin = mP) : Exec R k s.sy :=
  Exec.weak (famStP s0 ts mS mL mO mP) hN hdf hS hL hO hF hP hk
theorem DenL_setAt {E : Env} {w : World} {sv : SV} {v : Value} : ∀ {svs : List SV} {vs : List Value} {i : Nat}, DenL E w svs vs → vs[i]? = some v → DenV E w sv v → DenL E w (svs.set i sv) vs
  | [], vs, i, h, _, _ => by simpa using h
  | x :: r, vs, 0, h, hv, hd => by
    simp only [DenL] at h
    obtain ⟨u, us, rfl, _, h2⟩ := h
    simp at hv; subst hv
    simp only [List.set_cons_zero, DenL]
    exact ⟨u, us, rfl, hd, h2⟩
  | x :: r, vs, i + 1, h, hv, hd => by
    simp only [DenL] at h
    obtain ⟨u, us, rfl, h1, h2⟩ := h
    simp only [List.set_cons_succ, DenL]
    exact ⟨u, us, rfl, h1, DenL_setAt h2 (by simpa using hv) hd⟩
/-- a nil slice in a box may be taken as one of the function's own -/
theorem Exec.ownNilL {R : Rn} {k : List Item} {s : Stt} (b0 off key : Nat) (e : TypeId) (kk : Nat) {T0 : TypeId} {cs0 : List SV} (hb0 : klook b0 s.L = some (T0, cs0)) (hc0 : cs0[off]? = some (.d (.v (.slice none 0 0)))) (hkey : klook key s.O = none)
    (h : Exec R k (Stt.mk s.N s.df (mapS [key] [] s.S) ((b0, T0, (killL [key] [] cs0).set off (.own key)) :: delK b0 (mapL [key] [] s.L)) ((key, ⟨e, kk, 0, 0, nilRow⟩) :: s.O) (mapF [key] [] s.fz) s.pin).sy) : Exec R k s.sy := by
  intro a w ⟨E, hE⟩
  refine h a w ⟨{ E with ω := fun x => if x = key then .slice none 0 0 else E.ω x }, ?_⟩
  have hω : ∀ x, [key].contains x = false → (fun x => if x = key then Value.slice none 0 0 else E.ω x) x = E.ω x := fun x hx => by
    have : x ≠ key := by intro e; subst e; simp at hx
    simp [this]
  have hk0 : Keeps w E.Z w E.Z := ⟨fun _ h => h, fun _ _ => rfl⟩
  have hOe : ∀ x y, klook x ((key, (⟨e, kk, 0, 0, nilRow⟩ : Ow)) :: s.O) = some y → (x = key ∧ y = ⟨e, kk, 0, 0, nilRow⟩) ∨ (x ≠ key ∧ klook x s.O = some y) := fun x y hx => by
    simp only [klook] at hx
    by_cases hxk : x = key
    · simp [hxk] at hx; exact .inl ⟨hxk, hx.symm⟩
    · rw [if_neg hxk] at hx; exact .inr ⟨hxk, hx⟩
  have hLe : ∀ x y, klook x ((b0, T0, (killL [key] [] cs0).set off (.own key)) :: delK b0 (mapL [key] [] s.L)) = some y → (x = b0 ∧ y = (T0, (killL [key] [] cs0).set off (.own key))) ∨ (x ≠ b0 ∧ ∃ T' cs', klook x s.L = some (T', cs') ∧ y = (T', killL [key] [] cs')) := fun x y hx => by
    simp only [klook, look_delK, look_mapL] at hx
    by_cases hxb : x = b0
    · simp [hxb] at hx; exact .inl ⟨hxb, hx.symm⟩
    · simp only [hxb, if_false] at hx
      cases hy : klook x s.L with
      | none => simp [hy, killE] at hx
      | some y' =>
        obtain ⟨T', cs'⟩ := y'
        simp [hy, killE] at hx
        exact .inr ⟨hxb, T', cs', rfl, hx.symm⟩
  have hLs : ∀ x y, klook x ((b0, T0, (killL [key] [] cs0).set off (.own key)) :: delK b0 (mapL [key] [] s.L)) = some y → ∃ y', klook x s.L = some y' := fun x y hx => by
    rcases hLe x y hx with ⟨rfl, _⟩ | ⟨_, T', cs', h1, _⟩
    · exact ⟨_, hb0⟩
    · exact ⟨_, h1⟩
  refine ⟨hE.sz, hE.df, fun t' sv hs => ?_, ⟨hE.hp.bel, hE.hp.z, fun key' T cs hk => ?_, fun key' e' hk => ?_, fun key1 key2 e1 e2 hk hk' heq => ?_, fun key' o hk => ?_, fun key' e' g hk hg => ?_, fun key1 key2 e1 e2 g hk hk' hg hg' => ?_⟩, fun b o hb => ?_, fun p hp t' sv ht' => ?_⟩
  · simp only [Stt.sy, look_mapS] at hs
    cases hx : klook t' s.S with
    | none => simp [hx] at hs
    | some x =>
      simp [hx] at hs; subst hs
      obtain ⟨v, h1, h2⟩ := hE.slots t' _ hx
      exact ⟨v, h1, DenV.kill (E' := { E with ω := fun x => if x = key then .slice none 0 0 else E.ω x }) hk0 (fun _ _ => rfl) hω h2⟩
  · rcases hLe _ _ hk with ⟨rfl, h1⟩ | ⟨hne, T', cs', h1, h2⟩
    · cases h1
      obtain ⟨vs, h1, h2⟩ := hE.hp.loc key' _ _ hb0
      refine ⟨vs, h1, ?_⟩
      obtain ⟨v, hv1, hv2⟩ := DenL_get h2 hc0
      refine DenL_setAt (DenL.kill (E' := { E with ω := fun x => if x = key then .slice none 0 0 else E.ω x }) hk0 (fun _ _ => rfl) hω h2) hv1 ?_
      simp only [DenV, RdV] at hv2 ⊢
      simp [hv2]
    · cases h2
      obtain ⟨vs, h1, h2⟩ := hE.hp.loc key' _ _ h1
      exact ⟨vs, h1, DenL.kill (E' := { E with ω := fun x => if x = key then .slice none 0 0 else E.ω x }) hk0 (fun _ _ => rfl) hω h2⟩
  · obtain ⟨e1, h1⟩ := hLs _ _ hk
    exact hE.hp.locN key' _ h1
  · obtain ⟨q1, h1⟩ := hLs _ _ hk
    obtain ⟨q2, h2⟩ := hLs _ _ hk'
    exact hE.hp.locD key1 key2 _ _ h1 h2 heq
  · rcases hOe _ _ hk with ⟨rfl, h1⟩ | ⟨hne, h1⟩
    · cases h1; exact ⟨⟨by simp, by simp, by simp⟩, .inl ⟨by simp, rfl⟩⟩
    · have := hE.hp.own key' o h1
      unfold OwnE at this ⊢
      simpa [hne] using this
  · rcases hOe _ _ hk with ⟨rfl, h1⟩ | ⟨hne, h1⟩
    · simp [Value.ownBlock] at hg
    · simp only [hne, if_false] at hg
      have h2 := hE.hp.ownN key' e' g h1 hg
      refine ⟨h2.1, h2.2.1, fun key1 e1 hk1 => ?_⟩
      obtain ⟨q1, hx⟩ := hLs _ _ hk1
      exact h2.2.2 key1 _ hx
  · rcases hOe _ _ hk with ⟨rfl, h1⟩ | ⟨hne, h1⟩
    · simp [Value.ownBlock] at hg
    · rcases hOe _ _ hk' with ⟨rfl, h2⟩ | ⟨hne', h2⟩
      · simp [Value.ownBlock] at hg'
      · simp only [hne, if_false] at hg; simp only [hne', if_false] at hg'
        exact hE.hp.ownD key1 key2 _ _ g h1 h2 hg hg'
  · obtain ⟨p1, p2, p3, p4, p5⟩ := hE.pins b o hb
    refine ⟨p1, p2, p3, fun key1 e1 he => ?_, fun key1 e1 he => ?_⟩
    · obtain ⟨q1, hx⟩ := hLs _ _ he
      exact p4 key1 _ hx
    · rcases hOe _ _ he with ⟨rfl, _⟩ | ⟨hne, h1⟩
      · simp [Value.ownBlock]
      · simp only [hne, if_false]; exact p5 key1 e1 h1
  · obtain ⟨S, h1, h2⟩ := mem_mapF hp
    rw [h2, look_mapS] at ht'
    cases hx : klook t' S with
    | none => simp [hx] at ht'
    | some x =>
      simp [hx] at ht'; subst ht'
      obtain ⟨v, h3, h4⟩ := hE.waits _ h1 t' x hx
      exact ⟨v, h3, DenV.kill (E' := { E with ω := fun x => if x = key then .slice none 0 0 else E.ω x }) hk0 (fun _ _ => rfl) hω h4⟩
end Go.Kin
namespace Go.Kin
open Go.RowKit
/-! ### is a slice of data nil? It may be, if it is empty: both ways are gone -/
theorem run_slNil {P : Program} {t : TypeId} {i : TyI} (hti : TyOk P t i) {e : TypeId} (hu : i.u = .slice e) {w : World} (a : Option Addr) (n c : Nat) :
    (∀ op x y, (eqGuard op t x (Operand.const y) (.slice a n c) (.slice none 0 0)).run P w = .ok () w) ∧ (binOp .eql t (.slice a n c) (.slice none 0 0)).run P w = .ok (.bool a.isNone) w ∧ (binOp .neq t (.slice a n c) (.slice none 0 0)).run P w = .ok (.bool (!a.isNone)) w := by
  have hun := hti.under (w := w)
  rw [hu] at hun
  have hop : Op.equal t (.slice a n c) (.slice none 0 0) = Op.equalIn (9999 + 1) t (.slice a n c) (.slice none 0 0) := rfl
  refine nil_of_eq ?_ (fun op x c => by cases op <;> rfl) rfl rfl
  rw [hop, Op.equalIn]
  cases a <;> simp [Sem.run_bind, hun]
theorem Exec.eqNil {P : Program} {b : Frame} {cs : List Frame} {T : Machine → Prop} {C : Ctx} {k : List Item} {te : TE} (hte : TEok P te) {ops : Array Oper} {i m : Nat} {o : Oper} {op : BinOp} {x : Operand} {t t' d kk n xx : Nat} {row : Nat → List D} {s : Stt} {q : Bool}
    (ho : ops[i]? = some o) (hop : o.op = .binOp op t x (.const (.slice none 0 0)) t') (hq : (op = .eql ∧ q = true) ∨ (op = .neq ∧ q = false)) (hg : o.guard = none) (hd : o.dst = some d) (hdN : decide (d < s.N) = true) (hx : evalL s.S x = some (.d (.sl kk n xx row))) (ht : isSl te t = true)
    (h : ∀ r : Bool, (r = true → xx = 0) → Exec ⟨P, b, cs, T, C⟩ (.inRegion ops (List.range' (i + 1) m) :: k) (putSl d (.d (.v (.bool (r == q)))) s).sy) :
    Exec ⟨P, b, cs, T, C⟩ (.inRegion ops (List.range' i (m + 1)) :: k) s.sy := by
  intro a w ⟨E, hE⟩
  obtain ⟨ti, e, hti, hu⟩ := isSl_spec hte ht
  have hv := evalO_den hE (x := x) (sv := .d (.sl kk n xx row)) ((evalL_eq _ _).symm.trans hx)
  simp only [DenV, RdV] at hv
  obtain ⟨ad, c, hv, h1, h2, h3, h4⟩ := hv
  obtain ⟨g1, g2, g3⟩ := run_slNil (P := P) hti hu (w := w) ad n c
  have hr : gives P o a.eval w fun u w' => u = .bool (ad.isNone == q) ∧ w' = w := by
    unfold gives execOp
    have he : a.eval (.const (.slice none 0 0)) = .slice none 0 0 := rfl
    simp only [hop]
    rw [hv, he]
    rcases hq with ⟨rfl, rfl⟩ | ⟨rfl, rfl⟩
    · simp [g1, g2, Sem.run_bind]
    · simp [g1, g3, Sem.run_bind]
  obtain ⟨u, w', ⟨rfl, rfl⟩, hs⟩ := gives_step (b := b) (cs := cs) (k := k) (rest := List.range' (i + 1) m) ho (by unfold Region.wanted; rw [hg]) (by rw [hop]; intro c hc; cases hc) hr
  have h5 := hE.putSl (d := d) (by simpa using hdN) (sv := .d (.v (.bool (ad.isNone == q)))) (u := .bool (ad.isNone == q)) (by simp only [DenV, RdV])
  obtain ⟨m', hm, hst⟩ := h ad.isNone (fun hn => by
    rcases h4 with h4 | ⟨b', off, h4, _⟩
    · exact h4
    · rw [h4] at hn; cases hn) _ _ ⟨E, h5⟩
  rw [← hd] at hst
  exact ⟨m', hm, hs.trans hst⟩
end Go.Kin
