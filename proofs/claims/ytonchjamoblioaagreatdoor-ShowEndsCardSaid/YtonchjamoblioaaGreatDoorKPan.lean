/- Steps of a function body on data, and contracts of the functions of the seat, walked. -/
import Derived.Test.YtonchjamoblioaaGreatDoorKFrz
import Derived.Recover
set_option linter.unusedSimpArgs false
set_option linter.unusedVariables false
set_option linter.unusedSectionVars false
namespace Go.Kin
open Go.RowKit
/-! ### a call that is walked where it stands: the caller waits -/
theorem mkSV_den {E : Env} {w : World} {u : TypeDesc} {cs : List SV} {vs : List Value} {sv : SV} (h : mkSV u cs = some sv) (hv : DenL E w cs vs) (h1 : aggD u = false → cs.length = 1) : DenV E w sv (if aggD u then .agg vs.toArray else vs.headD undef) := by
  unfold mkSV at h
  cases ha : aggD u with
  | true =>
    simp only [ha, if_true] at h ⊢
    cases hd : allD cs with
    | none => rw [hd] at h; cases h; simp only [DenV]; exact ⟨vs, rfl, hv⟩
    | some ds =>
      rw [hd] at h; cases h
      simp only [DenV, RdV]
      exact ⟨vs, rfl, RdL_of_DenL hd hv⟩
  | false =>
    have h2 := h1 ha
    simp only [ha, Bool.false_eq_true, if_false] at h ⊢
    match cs, h2, h, hv with
    | [c], _, h, hv =>
      simp at h; subst h
      simp only [DenL] at hv
      obtain ⟨v, vs', rfl, h3, _⟩ := hv
      simpa using h3
theorem mkD_rd {w : World} {Z : Nat → Prop} {u : TypeDesc} {cs : List D} {vs : List Value} (hv : RdL w Z cs vs) (h1 : aggD u = false → cs.length = 1) : RdV w Z (mkD u cs) (if aggD u then .agg vs.toArray else vs.headD undef) := by
  unfold mkD
  cases ha : aggD u with
  | true => simp only [if_true, RdV]; exact ⟨vs, rfl, hv⟩
  | false =>
    have h2 := h1 ha
    simp only [Bool.false_eq_true, if_false]
    match cs, h2, hv with
    | [c], _, hv =>
      simp only [RdL] at hv
      obtain ⟨v, vs', rfl, h3, _⟩ := hv
      simpa using h3
def resI (te : TE) (s : Stt) : List ResultVar → Option (List SV)
  | [] => some []
  | .tmp t :: r => match klook t s.S, resI te s r with
    | some sv, some svs => some (sv :: svs)
    | _, _ => none
  | .cell t ty :: r => match klook t s.S, klook ty te with
    | some (.lp key off), some i => match klook key s.L with
      | some (_, cs) => if one1 i = true ∧ off + i.size ≤ cs.length then (match mkSV i.u ((cs.drop off).take i.size), resI te s r with | some sv, some svs => some (sv :: svs) | _, _ => none) else none
      | none => none
    | some (.d (.ptr cs)), some i => if one1 i = true ∧ i.size ≤ cs.length then (match resI te s r with | some svs => some (.d (mkD i.u (cs.take i.size)) :: svs) | none => none) else none
    | _, _ => none
def resSV : List SV → Option SV
  | [] => some (.d (.v (.tuple #[])))
  | [sv] => some sv
  | svs => match allD svs with
    | some ds => some (.d (.tup ds))
    | none => none
theorem resI_run {te : TE} {P : Program} (hte : TEok P te) {C : Ctx} {E : Env} {s : Stt} {a : Act} {w : World} (hE : SatE C E s.sy a w) : ∀ {l : List ResultVar} {svs : List SV}, resI te s l = some svs →
    ∃ vs : List Value, (l.mapM (rvSem a.tmps)).run P w = .ok vs w ∧ DenL E w svs vs
  | [], svs, h => by simp [resI] at h; subst h; exact ⟨[], by simp, by simp [DenL]⟩
  | .tmp t :: r, svs, h => by
    simp only [resI] at h
    split at h
    · rename_i sv svs' hs hr
      cases h
      obtain ⟨vs, h1, h2⟩ := resI_run hte hE hr
      obtain ⟨v, h3, h4⟩ := hE.slots t sv hs
      refine ⟨v :: vs, ?_, by simp only [DenL]; exact ⟨v, vs, rfl, h4, h2⟩⟩
      simp [List.mapM_cons, rvSem, h1, h3]
    · cases h
  | .cell t ty :: r, svs, h => by
    simp only [resI] at h
    split at h
    · rename_i key off i hs hi
      split at h
      · rename_i T cs hL
        split at h
        · rename_i hc
          split at h
          · rename_i sv svs' hd hr
            cases h
            obtain ⟨vs, h1, h2⟩ := resI_run hte hE hr
            obtain ⟨v, h3, h4⟩ := hE.slots t _ hs
            simp only [DenV] at h4
            obtain ⟨us, h5, h6⟩ := hE.hp.loc key T cs hL
            have h7 := DenL_take i.size (DenL_drop off h6)
            have hul := DenL_length h6
            have hvl : ((us.drop off).take i.size).length = i.size := by simp; omega
            have hcell : ∀ j, j < i.size → w.cell? ⟨E.β key, off + j, none⟩ = ((us.drop off).take i.size)[j]? := fun j hj => by
              rw [List.getElem?_take_of_lt hj, List.getElem?_drop]
              simp [World.cell?, h5]
            have hld := run_load (P := P) (w := w) (t := ty) (hte _ _ hi) hvl hcell (one1_spec hc.1)
            have h8 := mkSV_den hd h7 (fun ha => by have := one1_spec hc.1 ha; simp; omega)
            refine ⟨(if aggD i.u then .agg ((us.drop off).take i.size).toArray else ((us.drop off).take i.size).headD undef) :: vs, ?_, by simp only [DenL]; exact ⟨_, vs, rfl, h8, h2⟩⟩
            simp [List.mapM_cons, rvSem, h1, h3, h4, asAddr, hld]
          · cases h
        · cases h
      · cases h
    · rename_i cs i hs hi
      split at h
      · rename_i hc
        split at h
        · rename_i svs' hr
          cases h
          obtain ⟨vs, h1, h2⟩ := resI_run hte hE hr
          obtain ⟨v, h3, h4⟩ := hE.slots t _ hs
          simp only [DenV, RdV] at h4
          obtain ⟨b, off, rfl, hz, h5⟩ := h4
          obtain ⟨us, h6, h7⟩ := RdC_vals (RdC_take i.size h5)
          have hlen : (cs.take i.size).length = i.size := by simp [hc.2]
          have hvl : us.length = i.size := by rw [RdL_length h6, hlen]
          have hld := run_load (P := P) (w := w) (t := ty) (hte _ _ hi) (b := b) (off := off) (vs := us) hvl (fun j hj => h7 j (by rw [hlen]; exact hj)) (one1_spec hc.1)
          have h8 := mkD_rd (u := i.u) h6 (fun ha => by have := one1_spec hc.1 ha; simp; omega)
          refine ⟨(if aggD i.u then .agg us.toArray else us.headD undef) :: vs, ?_, by simp only [DenL]; exact ⟨_, vs, rfl, by simp only [DenV]; exact h8, h2⟩⟩
          simp [List.mapM_cons, rvSem, h1, h3, asAddr, hld]
        · cases h
      · cases h
    · cases h
theorem resSV_den {E : Env} {w : World} {svs : List SV} {vs : List Value} {sv : SV} (h : resSV svs = some sv) (hv : DenL E w svs vs) : DenV E w sv (if hs : vs.toArray.size = 1 then vs.toArray[0] else .tuple vs.toArray) := by
  match svs, h, hv with
  | [], h, hv => simp [resSV] at h; subst h; simp only [DenL] at hv; subst hv; simp [DenV, RdV]
  | [x], h, hv =>
    simp [resSV] at h; subst h
    simp only [DenL] at hv
    obtain ⟨v, vs', rfl, h1, rfl⟩ := hv
    simpa using h1
  | x :: y :: r, h, hv =>
    simp only [resSV] at h
    cases hd : allD (x :: y :: r) with
    | none => rw [hd] at h; cases h
    | some ds =>
      rw [hd] at h; cases h
      have hl := DenL_length hv
      have hne : ¬ vs.toArray.size = 1 := by simp at hl ⊢; omega
      rw [dif_neg hne]
      simp only [DenV, RdV]
      exact ⟨vs, rfl, RdL_of_DenL hd hv⟩
theorem Exec.enter {P : Program} {b : Frame} {cs : List Frame} {T : Machine → Prop} {C : Ctx} {k : List Item} {s : Stt} {ops : Array Oper} {i m : Nat} {o : Oper} {f : Operand} {args : Array Operand} {ts : Array TypeId} {sv : SV} {g : Nat} {fn : Func} {c : Code} {caps svs : List SV} {N : Nat}
    (ho : ops[i]? = some o) (hop : o.op = .call { callee := .value f, args := args, argTypes := ts }) (hgd : o.guard = none) (hf : evalL s.S f = some sv) (hc : fnCaps sv = some (g, caps)) (hargs : argsV s.S args.toList = some svs)
    (hfn : P.funcs[g]? = some fn) (hN : fn.ntmps = N) (hb : fn.body = some c) (hn : (fn.name == "runtime.NumGoroutine") = false) (hl : svs.length + caps.length ≤ N)
    (h : ∀ ag : Act, ag.tmps.size = s.N → ag.defers = s.df →
      Exec ⟨P, callB g, b.atR ag (.inRegion ops (i :: List.range' (i + 1) m) :: k) :: cs, T, C⟩ [.code c] (Stt.mk N [] (slotsV 0 (svs ++ caps)) s.L s.O ((ag, s.S) :: s.fz) s.pin).sy) :
    Exec ⟨P, b, cs, T, C⟩ (.inRegion ops (List.range' i (m + 1)) :: k) s.sy := by
  subst hN
  rw [List.range'_succ]
  intro a w ⟨E, hE⟩
  have hgv : DenV E w sv (a.eval f) := evalO_den (s := s.sy) hE ((evalL_eq _ _).symm.trans hf)
  obtain ⟨us, e1, hus⟩ := fnCaps_den hc hgv
  have hav := argsV_den hE hargs
  have hall := DenL_append hav hus
  have hlen := DenL_length hall
  have hent : ∀ args w, (callFunc g args).run P w = .ok (.enter g args) w := fun args w => Enters.run ⟨fn, hfn, by simp [hb], hn⟩ args w
  have hw : Region.wanted o (yielded ops a.tmps) = true := by unfold Region.wanted; rw [hgd]
  have hg := stepGR_op (P := P) (b := b) (k := k) (cs := cs) (w := w) (a := a) (rest := List.range' (i + 1) m) ho hw
  rw [Oper.semAt_eq _ _ _ (by simp [hop])] at hg
  have hr : (execOp a.eval o).run P w = .ok (.enter g (args.toList.map a.eval ++ us).toArray) w := by
    have : (args.map a.eval ++ us.toArray) = (args.toList.map a.eval ++ us).toArray := Array.ext' (by simp)
    simp [execOp, hop, resolve, e1, Deferred.ofValue, invoke, hent, this]
  have henter : Frame.enter P g (args.toList.map a.eval ++ us).toArray .normal = (callB g).atR { tmps := (args.toList.map a.eval ++ us).toArray ++ Array.replicate (fn.ntmps - (args.toList.map a.eval ++ us).toArray.size) undef, defers := [] } [.code c] := by
    simp [Frame.enter, Frame.atR, hfn, hb, callB]
  have hst : step P (lone (b.atR a (.inRegion ops (i :: List.range' (i + 1) m) :: k)) cs w) = .next (lone (Frame.enter P g (args.toList.map a.eval ++ us).toArray .normal) (b.atR a (.inRegion ops (i :: List.range' (i + 1) m) :: k) :: cs) w) :=
    step_lone_go (by rw [hg]; simp [stepG.apply, hr, Frame.atR])
  refine (?_ : ∃ m', T m' ∧ Steps P _ m').imp fun m' hm => ⟨hm.1, .head hst hm.2⟩
  rw [henter]
  refine h a hE.sz hE.df _ _ ⟨E, ⟨?_, rfl, fun t sv' ht => ?_, hE.hp, hE.pins, fun p hp => ?_⟩⟩
  · simp only [Stt.sy, Array.size_append, Array.size_replicate, List.size_toArray]
    have : (args.toList.map a.eval ++ us).length = svs.length + caps.length := by rw [hlen]; simp
    omega
  · simp only [Stt.sy, look_slotsV, Nat.zero_le, if_true, Nat.sub_zero] at ht
    obtain ⟨v, h3, h4⟩ := DenL_get hall ht
    refine ⟨v, ?_, h4⟩
    have hlt : t < (args.toList.map a.eval ++ us).length := (List.getElem?_eq_some_iff.1 h3).1
    rw [Array.getElem?_append_left (by simpa using hlt)]
    simpa using h3
  · rcases List.mem_cons.1 hp with rfl | hp
    · exact hE.slots
    · exact hE.waits p hp
theorem Exec.leave {P : Program} {te : TE} {b : Frame} {cs : List Frame} {T : Machine → Prop} {C : Ctx} {k k' : List Item} {s : Stt} (hte : TEok P te) {g : Nat} {fu : Func} {rv : List ResultVar} {svs : List SV} {sv : SV} {ag : Act} {Sg : List (Nat × SV)} {fz : List (Act × List (Nat × SV))} {df : List Deferred}
    {ops : Array Oper} {i m Ng : Nat} {d : Option Tmp}
    (hf : P.funcs[g]? = some fu) (hrv : fu.results.toList = rv) (hres : resI te s rv = some svs) (hsv : resSV svs = some sv) (hk : k = [] ∨ ∃ k1, k = .code .ret :: k1) (hdf : s.df = []) (hfz : s.fz = (ag, Sg) :: fz) (hag : ag.tmps.size = Ng) (hagd : ag.defers = df) (hd : (ops[i]?).bind (·.dst) = d) (hdN : dstLt d Ng = true)
    (h : Exec ⟨P, b, cs, T, C⟩ (.inRegion ops (List.range' (i + 1) m) :: k') (Stt.mk Ng df (putD d sv Sg) s.L s.O fz s.pin).sy) :
    Exec ⟨P, callB g, b.atR ag (.inRegion ops (i :: List.range' (i + 1) m) :: k') :: cs, T, C⟩ k s.sy := by
  intro a w ⟨E, hE⟩
  have hd' : a.defers = [] := hE.df.trans hdf
  obtain ⟨vs, hr1, hr2⟩ := resI_run (P := P) hte hE hres
  have hsvd := resSV_den hsv hr2
  generalize hv : (if hs : vs.toArray.size = 1 then vs.toArray[0] else Value.tuple vs.toArray) = v at hsvd
  have s1 : step P (lone ((callB g).atR a k) (b.atR ag (.inRegion ops (i :: List.range' (i + 1) m) :: k') :: cs) w) = .next (lone { (callB g).atR a k with mode := .returning } (b.atR ag (.inRegion ops (i :: List.range' (i + 1) m) :: k') :: cs) w) := by
    rcases hk with rfl | ⟨k1, rfl⟩
    · exact stepR_end rfl
    · exact stepR_ret rfl
  have hleave : Frame.leaving P { (callB g).atR a k with mode := .returning } w (.returned v) := by
    refine ⟨rfl, hd', rfl, fu, hf, ?_⟩
    have hm : (fu.results.mapM (rvSem a.tmps)).run P w = .ok vs.toArray w := by
      rw [Array.mapM_eq_mapM_toList, hrv]
      simp [Sem.run_bind, hr1]
    show (results fu a.tmps).run P w = _
    rw [results_eq]
    simp only [Sem.run_bind, hm, Result.andThen_ok, Sem.run_pure]
    rw [hv]
  have s2 := step_leave_returned (c := b.atR ag (.inRegion ops (i :: List.range' (i + 1) m) :: k')) (cs := cs) hleave
  rw [Frame.finish_atR, hd] at s2
  refine (?_ : ∃ m', T m' ∧ Steps P _ m').imp fun m' hm => ⟨hm.1, .head s1 (.head s2 hm.2)⟩
  refine h _ _ ⟨E, ⟨?_, ?_, fun t sv' ht => ?_, hE.hp, hE.pins, fun p hp => ?_⟩⟩
  · rw [show (ag.put d v).tmps.size = ag.tmps.size from by cases d <;> simp [Act.put]]; exact hag
  · rw [show (ag.put d v).defers = ag.defers from by cases d <;> rfl]; exact hagd
  · rw [put_tmps (fun t ht => by subst ht; simp [dstLt] at hdN; rw [hag]; exact hdN)]
    simp only [Stt.sy] at ht
    cases d with
    | none =>
      simp only [putD] at ht
      rw [if_neg (by simp)]
      exact hE.waits (ag, Sg) (by simp only [Stt.sy, hfz]; exact List.mem_cons_self) t sv' ht
    | some t' =>
      simp only [putD, klook] at ht
      by_cases htt : t = t'
      · subst htt
        simp at ht; subst ht
        exact ⟨v, by rw [if_pos rfl], hsvd⟩
      · rw [if_neg htt] at ht
        rw [if_neg (by simp; exact fun e => htt e.symm)]
        exact hE.waits (ag, Sg) (by simp [Stt.sy, hfz]) t sv' ht
  · exact hE.waits p (by simp only [Stt.sy, hfz]; exact List.mem_cons_of_mem _ hp)
/-- a round of a loop whose activation waits somewhere -/
theorem Exec.yieldD {P : Program} {b : Frame} {cs : List Frame} {T : Machine → Prop} {C : Ctx} {k : List Item} {s : Stt} (j : Nat) {ops : Array Oper} {i m : Nat} {o : Oper} {y : Operand} {args : Array Operand} {ts : Array TypeId} {l bfn r No : Nat} {ps : Array Tmp} {assign body : Code}
    {pin : List (Nat × Obj)} {ao : Act} {So : List (Nat × SV)} {svs : List SV} {pd : Option Code} {lo : LoopState → Option Code → Obj}
    (ho : ops[i]? = some o) (hop : o.op = .call { callee := .value y, args := args, argTypes := ts }) (hgd : o.guard = none) (hy : evalL s.S y = some (.d (.v (.func (.yield l) #[] #[])))) (hargs : argsV s.S args.toList = some svs)
    (hpin : s.pin = (l, lo .ready pd) :: pin) (hlo : lo = loopR bfn ao.tmps ps assign body r) (hfz : (ao, So) ∈ s.fz) (hao : ao.tmps.size = No) (hps : (decide (ps.size = args.size) && ps.toList.all fun t => decide (t < No)) = true)
    (h : ∀ ag : Act, ag.tmps.size = s.N → ag.defers = s.df →
      Exec ⟨P, rndB bfn l, b.atR ag (.inRegion ops (i :: List.range' (i + 1) m) :: k) :: cs, T, C⟩ [.code assign, .beginRound, .code body]
        (renSt (swJ j) ⟨No, [], setPs ps.toList svs So, s.L, s.O, (ag, s.S) :: s.fz, s.pin⟩).sy) :
    Exec ⟨P, b, cs, T, C⟩ (.inRegion ops (List.range' i (m + 1)) :: k) s.sy := by
  obtain ⟨N, df, S, L, O, fz, pn⟩ := s
  have hx : Exec ⟨P, b, cs, T, C⟩ (.inRegion ops (List.range' i (m + 1)) :: k) (Stt.mk N df S L O ((ao, So) :: fz) pn).sy := by
    refine Exec.yield j ho hop hgd hy hargs hpin hlo rfl hao hps fun ag hag hdg => ?_
    refine fun a w hs => h ag hag hdg a w ?_
    obtain ⟨E, hE⟩ := hs
    refine ⟨E, hE.sz, hE.df, hE.slots, hE.hp, hE.pins, fun p hp => hE.waits p ?_⟩
    simp only [Stt.sy, renSt, renF] at hp ⊢
    rcases List.mem_cons.1 hp with rfl | hp
    · exact List.mem_cons_self
    · exact List.mem_cons_of_mem _ (List.mem_cons_of_mem _ hp)
  intro a w hs
  refine hx a w ?_
  obtain ⟨E, hE⟩ := hs
  refine ⟨E, hE.sz, hE.df, hE.slots, hE.hp, hE.pins, fun p hp => hE.waits p ?_⟩
  rcases List.mem_cons.1 hp with rfl | hp
  · exact hfz
  · exact hp
attribute [go_sem] resI resSV
end Go.Kin
namespace Go.Kin
/-! ### a walk within a walk: boxes forgotten, names changed twice -/
theorem Sat.weakL {C : Ctx} {s : Stt} {L' : List (Nat × TypeId × List SV)} {a : Act} {w : World} (hL : LeL s.L L') (h : Sat C s.sy a w) : Sat C (Stt.mk s.N s.df s.S L' s.O s.fz s.pin).sy a w := by
  obtain ⟨E, hE⟩ := h
  refine ⟨E, hE.sz, hE.df, hE.slots, ⟨hE.hp.bel, hE.hp.z, fun key T cs hk => ?_, fun key e hk => ?_, fun key key' e e' hk hk' heq => ?_, hE.hp.own, fun key e g hk hg => ?_, hE.hp.ownD⟩, fun b o hb => ?_, hE.waits⟩
  · obtain ⟨xs, h1, h2⟩ := LeL_look hL hk
    obtain ⟨vs, h3, h4⟩ := hE.hp.loc key T xs h1
    exact ⟨vs, h3, h2.den h4⟩
  · obtain ⟨T, ys⟩ := e
    obtain ⟨xs, h1, h2⟩ := LeL_look hL hk
    exact hE.hp.locN key _ h1
  · obtain ⟨T, ys⟩ := e
    obtain ⟨T', ys'⟩ := e'
    obtain ⟨xs, h1, _⟩ := LeL_look hL hk
    obtain ⟨xs', h1', _⟩ := LeL_look hL hk'
    exact hE.hp.locD key key' _ _ h1 h1' heq
  · have h2 := hE.hp.ownN key e g hk hg
    refine ⟨h2.1, h2.2.1, fun key' e' hk' => ?_⟩
    obtain ⟨T, ys⟩ := e'
    obtain ⟨xs, h3, _⟩ := LeL_look hL hk'
    exact h2.2.2 key' _ h3
  · obtain ⟨p1, p2, p3, p4, p5⟩ := hE.pins b o hb
    refine ⟨p1, p2, p3, fun key e he => ?_, p5⟩
    obtain ⟨T, ys⟩ := e
    obtain ⟨xs, h3, _⟩ := LeL_look hL he
    exact p4 key _ h3
theorem Exec.weakL {R : Rn} {k : List Item} {s : Stt} (L' : List (Nat × TypeId × List SV)) (hL : LeL s.L L') (h : Exec R k (Stt.mk s.N s.df s.S L' s.O s.fz s.pin).sy) : Exec R k s.sy :=
  fun a w hs => h a w (hs.weakL hL)
mutual
theorem renV_renV (π : Swp) : ∀ sv : SV, renV π (renV π sv) = sv
  | .d d => rfl
  | .lp k o => by simp [renV, π.inv]
  | .own k => by simp [renV, π.inv]
  | .oa k a b c => by simp [renV, π.inv]
  | .fn f cs => by simp [renV, renL_renL π cs]
  | .op p sv => by simp [renV, renV_renV π sv]
  | .mv f cs => by simp [renV, renL_renL π cs]
  | .sg cs => by simp [renV, renL_renL π cs]
  | .junk => rfl
theorem renL_renL (π : Swp) : ∀ l : List SV, renL π (renL π l) = l
  | [] => rfl
  | x :: r => by simp [renL, renV_renV π x, renL_renL π r]
end
theorem renS_renS (π : Swp) : ∀ l : List (Nat × SV), renS π (renS π l) = l
  | [] => rfl
  | (t, v) :: r => by simp [renS, renV_renV, renS_renS π r]
theorem renF_renF (π : Swp) : ∀ l : List (Act × List (Nat × SV)), renF π (renF π l) = l
  | [] => rfl
  | (a, S) :: r => by simp [renF, renS_renS, renF_renF π r]
end Go.Kin
namespace Go.Kin
open Go.RowKit
/-! ### functions that write a box of their caller's, and may panic -/
/-- how such a function ends: the box's new cells and a result; or a panic -/
inductive Out where
  | ret (cs : List D) (res : D)
  | pan (d : D)
/-- all that was there stays, but for one block -/
structure Aft (b : Nat) (w w' : World) : Prop where
  os : w'.os = w.os
  tape : w'.tape = w.tape
  output : w'.output = w.output
  size : w.heap.size ≤ w'.heap.size
  block : ∀ k, k < w.heap.size → k ≠ b → w'.heap[k]? = w.heap[k]?
def lentE (b : Nat) (Z : Nat → Prop) : Env := ⟨fun _ => b, fun _ => undef, Z⟩
def OutOf (out : Out) (b : Nat) (T : TypeId) (w : World) (Z : Nat → Prop) (e : Ending) (w' : World) : Prop := match out with
  | .ret cs res => ∃ v Z' us, e = .returned v ∧ (∀ c, Z' c → c < w'.heap.size ∧ (Z c ∨ w.heap.size ≤ c)) ∧ w'.heap[b]? = some (.cells (List.toArray us) T (0, 0)) ∧ RdL w' Z' cs us ∧ RdV w' Z' res v
  | .pan d => ∃ v Z', e = .panicked [{ v, recovered := false }] ∧ (∀ c, Z' c → c < w'.heap.size ∧ (Z c ∨ w.heap.size ≤ c)) ∧ RdV w' Z' d v
/-- THE CONTRACT of such a function: the box is named 900 in the arguments -/
def FnM (I : World → Prop) (P : Program) (f : FuncId) (T : TypeId) (cs : List D) (args : List SV) (out : Out) : Prop :=
  Enters P f ∧ ∀ (w : World) (Z : Nat → Prop) (b : Nat) (us vs : List Value), I w → (∀ w', Aft b w w' → I w') → (∀ c, Z c → c < w.heap.size ∧ c ≠ b) → w.heap[b]? = some (.cells (List.toArray us) T (0, 0)) → RdL w Z cs us → DenL (lentE b Z) w args vs →
    Calls P f vs.toArray w fun e w' => Aft b w w' ∧ OutOf out b T w Z e w'
section
variable {C : Ctx} {E : Env} {s : Sy} {a : Act} {w w' : World}
end
section
variable {C : Ctx} {E : Env} {s : Stt} {a : Act} {w w' : World}
end
/-! ### what is called, with what -/
def callAll : SV → List SV → Option (Nat × List SV)
  | .fn f caps, svs => some (f, svs ++ caps)
  | .mv f first, svs => some (f, first ++ svs)
  | .d (.fn f ds), svs => some (f, svs ++ ds.map SV.d)
  | _, _ => none
mutual
/-- an argument as the callee names it -/
def lendV (key : Nat) : SV → Option SV
  | .d x => some (.d x)
  | .lp k off => if k = key then some (.lp 900 off) else none
  | .fn f caps => match lendL key caps with | some l => some (.fn f l) | none => none
  | .mv f caps => match lendL key caps with | some l => some (.mv f l) | none => none
  | _ => none
def lendL (key : Nat) : List SV → Option (List SV)
  | [] => some []
  | sv :: r => match lendV key sv, lendL key r with | some x, some l => some (x :: l) | _, _ => none
end
/-! ### calls of such functions -/
section
variable {I : World → Prop} {P : Program} {C : Ctx} {o : Oper}
theorem argsV_mapM {S : List (Nat × SV)} : ∀ {l : List Operand} {svs : List SV}, argsV S l = some svs → l.mapM (evalO fun t => klook t S) = some svs
  | [], svs, h => by simp [argsV] at h; subst h; rfl
  | x :: r, svs, h => by
    simp only [argsV] at h
    split at h
    · rename_i sv l h1 h2
      cases h
      rw [evalL_eq] at h1
      simp [h1, argsV_mapM h2]
    · cases h
end
/-! ### the body of such a function -/
def FnTM (P : Program) (f : FuncId) (cs : List Frame) (w : World) (Z : Nat → Prop) (b : Nat) (T : TypeId) (out : Out) (m : Machine) : Prop :=
  ∃ e w' fr, m = lone fr cs w' ∧ fr.fn = f ∧ fr.leaving P w' e ∧ Aft b w w' ∧ OutOf out b T w Z e w'
structure FnRunM (R : Rn) (I : World → Prop) (P : Program) (f : FuncId) (fn : Func) (T : TypeId) (out : Out) (b0 : Nat) : Prop where
  p : R.P = P
  bfn : R.b.fn = f
  kind : R.b.kind = .normal
  round : R.b.roundOf = none
  m : ∀ k, R.C.M k ↔ k = b0
  inv : ∀ w, BelM R.C w → I w
  func : P.funcs[f]? = some fn
  t : R.T = FnTM P f R.cs R.C.w0 R.C.Z0 b0 T out
attribute [go_sem] callAll lendV lendL
end Go.Kin
namespace Go.Kin
open Go.RowKit
/-! ### panics on their way out -/
/-- raised with a value that reads as d, from a state: carried out to the goal -/
def ExecP (R : Rn) (d : D) (s : Sy) : Prop := ∀ a w k v, (∃ E, SatE R.C E s a w ∧ RdV w E.Z d v) → ∃ m', R.T m' ∧ Steps R.P (lone { R.b.atR a k with mode := .panicking [{ v, recovered := false }] } R.cs w) m'
theorem ExecP.ren {R : Rn} {d : D} {s : Stt} (π : Swp) (h : ExecP R d (renSt π s).sy) : ExecP R d s.sy := fun a w k v ⟨E, hE, hv⟩ => h a w k v ⟨renE π E, hE.ren π, hv⟩
theorem ExecP.norm {R : Rn} {d : D} {s s' : Stt} (h : s = s') (hk : ExecP R d s'.sy) : ExecP R d s.sy := h ▸ hk
theorem Marks.runP {P : Program} {b : Frame} {cs : List Frame} {C : Ctx} {k : List Item} {N : Nat} {S : List (Nat × SV)} {L : List (Nat × TypeId × List SV)} {O : List (Nat × Ow)} {fz : List (Act × List (Nat × SV))} {df : List Deferred} {pin : List (Nat × Obj)} {fm : FrameMode} (hfm : fm ≠ .run) (h : Marks df pin) :
    ∀ {E : Env} {a : Act} {w : World}, SatE C E (Stt.mk N df S L O fz pin).sy a w → ∃ a' w' pin', SatE C E (Stt.mk N [] S L O fz pin').sy a' w' ∧ (∀ b, E.Z b → w'.heap[b]? = w.heap[b]?) ∧ Steps P (lone { b.atR a k with mode := fm } cs w) (lone { b.atR a' k with mode := fm } cs w') := by
  induction h with
  | nil => exact fun {E a w} hE => ⟨a, w, _, hE, fun _ _ => rfl, Steps.refl _ _⟩
  | @cons r df pin hf _ ih =>
    intro E a w hE
    have hr : w.heap[r]? = some (.deferred (some [])) := (hE.pins r _ (by simp [Stt.sy])).1
    have hrz := (hE.pins r (.deferred (some [])) (by simp [Stt.sy])).2.2.1
    have h1 := (hE.pinSet (o' := .deferred none) rfl hf).pinDrop rfl
    have h2 : SatE C E (Stt.mk N df S L O fz pin).sy { a with defers := df } (w.putObj r (.deferred none)) := ⟨h1.sz, rfl, h1.slots, h1.hp, h1.pins, h1.waits⟩
    obtain ⟨a', w', pin', h3, h5, h4⟩ := ih h2
    refine ⟨a', w', pin', h3, fun b hb => (h5 b hb).trans (putObj_heap b fun e => hrz (e ▸ hb)), .head (step_collected (fr := { b.atR a k with mode := fm }) (d := markD r) (ds := df) (r := r) (calls := []) hfm ?_ rfl (run_takeDeferred hr)) h4⟩
    exact hE.df
/-! ### a region that draws its order and ends in a panic -/
theorem SatE.less {C : Ctx} {E : Env} {s s' : Sy} {a : Act} {w : World} (hN : s'.N = s.N) (hdf : s'.df = s.df) (hS : ∀ t sv, s'.S t = some sv → s.S t = some sv) (hL : ∀ t e, s'.L t = some e → s.L t = some e) (hO : ∀ t e, s'.O t = some e → s.O t = some e) (hfz : s'.fz = s.fz) (hpin : s'.pin = s.pin) (hE : SatE C E s a w) : SatE C E s' a w :=
  ⟨hE.sz.trans hN.symm, hE.df.trans hdf.symm, fun t sv hs => hE.slots t sv (hS t sv hs), ⟨hE.hp.bel, hE.hp.z, fun key T cs hk => hE.hp.loc key T cs (hL _ _ hk), fun key e hk => hE.hp.locN key e (hL _ _ hk),
    fun key key' e e' hk hk' heq => hE.hp.locD key key' e e' (hL _ _ hk) (hL _ _ hk') heq, fun key e hk => hE.hp.own key e (hO _ _ hk), fun key e g hk hg => let h := hE.hp.ownN key e g (hO _ _ hk) hg; ⟨h.1, h.2.1, fun key' e' hk' => h.2.2 key' e' (hL _ _ hk')⟩,
    fun key key' e e' g hk hk' => hE.hp.ownD key key' e e' g (hO _ _ hk) (hO _ _ hk')⟩, fun b o hb => (by
      rw [hpin] at hb
      obtain ⟨p1, p2, p3, p4, p5⟩ := hE.pins b o hb
      exact ⟨p1, p2, p3, fun key e he => p4 key e (hL _ _ he), fun key e he => p5 key e (hO _ _ he)⟩), by rw [hfz]; exact hE.waits⟩
theorem EndsT.norm {R : Rn} {k : List Item} {ops : Array Oper} {n : Nat} {s s' : Stt} (h : s = s') (hk : EndsT R k ops n s'.sy) : EndsT R k ops n s.sy := h ▸ hk
end Go.Kin
