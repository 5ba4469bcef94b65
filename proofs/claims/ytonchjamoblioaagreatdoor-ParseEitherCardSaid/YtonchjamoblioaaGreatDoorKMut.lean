/- Steps of a function body on data, and contracts of the functions of the seat, walked. -/
import Derived.Test.YtonchjamoblioaaGreatDoorKFrz
set_option linter.unusedSimpArgs false
set_option linter.unusedVariables false
set_option linter.unusedSectionVars false
namespace Go.Kin
open Go.RowKit
/-! ### a call that is walked where it stands: the caller waits -/
theorem mkSV_den {E : Env} {w : World} {u : TypeDesc} {cs : List SV} {vs : List Value} {sv : SV} (h : mkSV u cs = some sv) (hv : DenL E w cs vs) (h1 : aggD u = false → cs.length = 1) : DenV E w sv (if aggD u then .agg vs.toArray else vs.headD undef) := by
  unfold mkSV at h
  cases ha : aggD u with
  | true =>
    simp only [ha, if_true] at h ⊢
    cases hd : allD cs with
    | none => rw [hd] at h; cases h
    | some ds =>
      rw [hd] at h; cases h
      simp only [DenV, RdV]
      exact ⟨vs, rfl, RdL_of_DenL hd hv⟩
  | false =>
    have h2 := h1 ha
    simp only [ha, Bool.false_eq_true, if_false] at h ⊢
    match cs, h2, h, hv with
    | [c], _, h, hv =>
      simp at h; subst h
      simp only [DenL] at hv
      obtain ⟨v, vs', rfl, h3, _⟩ := hv
      simpa using h3
theorem mkD_rd {w : World} {Z : Nat → Prop} {u : TypeDesc} {cs : List D} {vs : List Value} (hv : RdL w Z cs vs) (h1 : aggD u = false → cs.length = 1) : RdV w Z (mkD u cs) (if aggD u then .agg vs.toArray else vs.headD undef) := by
  unfold mkD
  cases ha : aggD u with
  | true => simp only [if_true, RdV]; exact ⟨vs, rfl, hv⟩
  | false =>
    have h2 := h1 ha
    simp only [Bool.false_eq_true, if_false]
    match cs, h2, hv with
    | [c], _, hv =>
      simp only [RdL] at hv
      obtain ⟨v, vs', rfl, h3, _⟩ := hv
      simpa using h3
def resI (te : TE) (s : Stt) : List ResultVar → Option (List SV)
  | [] => some []
  | .tmp t :: r => match klook t s.S, resI te s r with
    | some sv, some svs => some (sv :: svs)
    | _, _ => none
  | .cell t ty :: r => match klook t s.S, klook ty te with
    | some (.lp key off), some i => match klook key s.L with
      | some (_, cs) => if one1 i = true ∧ off + i.size ≤ cs.length then (match mkSV i.u ((cs.drop off).take i.size), resI te s r with | some sv, some svs => some (sv :: svs) | _, _ => none) else none
      | none => none
    | some (.d (.ptr cs)), some i => if one1 i = true ∧ i.size ≤ cs.length then (match resI te s r with | some svs => some (.d (mkD i.u (cs.take i.size)) :: svs) | none => none) else none
    | _, _ => none
def resSV : List SV → Option SV
  | [] => some (.d (.v (.tuple #[])))
  | [sv] => some sv
  | svs => match allD svs with
    | some ds => some (.d (.tup ds))
    | none => none
theorem resI_run {te : TE} {P : Program} (hte : TEok P te) {C : Ctx} {E : Env} {s : Stt} {a : Act} {w : World} (hE : SatE C E s.sy a w) : ∀ {l : List ResultVar} {svs : List SV}, resI te s l = some svs →
    ∃ vs : List Value, (l.mapM (rvSem a.tmps)).run P w = .ok vs w ∧ DenL E w svs vs
  | [], svs, h => by simp [resI] at h; subst h; exact ⟨[], by simp, by simp [DenL]⟩
  | .tmp t :: r, svs, h => by
    simp only [resI] at h
    split at h
    · rename_i sv svs' hs hr
      cases h
      obtain ⟨vs, h1, h2⟩ := resI_run hte hE hr
      obtain ⟨v, h3, h4⟩ := hE.slots t sv hs
      refine ⟨v :: vs, ?_, by simp only [DenL]; exact ⟨v, vs, rfl, h4, h2⟩⟩
      simp [List.mapM_cons, rvSem, h1, h3]
    · cases h
  | .cell t ty :: r, svs, h => by
    simp only [resI] at h
    split at h
    · rename_i key off i hs hi
      split at h
      · rename_i T cs hL
        split at h
        · rename_i hc
          split at h
          · rename_i sv svs' hd hr
            cases h
            obtain ⟨vs, h1, h2⟩ := resI_run hte hE hr
            obtain ⟨v, h3, h4⟩ := hE.slots t _ hs
            simp only [DenV] at h4
            obtain ⟨us, h5, h6⟩ := hE.hp.loc key T cs hL
            have h7 := DenL_take i.size (DenL_drop off h6)
            have hul := DenL_length h6
            have hvl : ((us.drop off).take i.size).length = i.size := by simp; omega
            have hcell : ∀ j, j < i.size → w.cell? ⟨E.β key, off + j, none⟩ = ((us.drop off).take i.size)[j]? := fun j hj => by
              rw [List.getElem?_take_of_lt hj, List.getElem?_drop]
              simp [World.cell?, h5]
            have hld := run_load (P := P) (w := w) (t := ty) (hte _ _ hi) hvl hcell (one1_spec hc.1)
            have h8 := mkSV_den hd h7 (fun ha => by have := one1_spec hc.1 ha; simp; omega)
            refine ⟨(if aggD i.u then .agg ((us.drop off).take i.size).toArray else ((us.drop off).take i.size).headD undef) :: vs, ?_, by simp only [DenL]; exact ⟨_, vs, rfl, h8, h2⟩⟩
            simp [List.mapM_cons, rvSem, h1, h3, h4, asAddr, hld]
          · cases h
        · cases h
      · cases h
    · rename_i cs i hs hi
      split at h
      · rename_i hc
        split at h
        · rename_i svs' hr
          cases h
          obtain ⟨vs, h1, h2⟩ := resI_run hte hE hr
          obtain ⟨v, h3, h4⟩ := hE.slots t _ hs
          simp only [DenV, RdV] at h4
          obtain ⟨b, off, rfl, hz, h5⟩ := h4
          obtain ⟨us, h6, h7⟩ := RdC_vals (RdC_take i.size h5)
          have hlen : (cs.take i.size).length = i.size := by simp [hc.2]
          have hvl : us.length = i.size := by rw [RdL_length h6, hlen]
          have hld := run_load (P := P) (w := w) (t := ty) (hte _ _ hi) (b := b) (off := off) (vs := us) hvl (fun j hj => h7 j (by rw [hlen]; exact hj)) (one1_spec hc.1)
          have h8 := mkD_rd (u := i.u) h6 (fun ha => by have := one1_spec hc.1 ha; simp; omega)
          refine ⟨(if aggD i.u then .agg us.toArray else us.headD undef) :: vs, ?_, by simp only [DenL]; exact ⟨_, vs, rfl, by simp only [DenV]; exact h8, h2⟩⟩
          simp [List.mapM_cons, rvSem, h1, h3, asAddr, hld]
        · cases h
      · cases h
    · cases h
theorem resSV_den {E : Env} {w : World} {svs : List SV} {vs : List Value} {sv : SV} (h : resSV svs = some sv) (hv : DenL E w svs vs) : DenV E w sv (if hs : vs.toArray.size = 1 then vs.toArray[0] else .tuple vs.toArray) := by
  match svs, h, hv with
  | [], h, hv => simp [resSV] at h; subst h; simp only [DenL] at hv; subst hv; simp [DenV, RdV]
  | [x], h, hv =>
    simp [resSV] at h; subst h
    simp only [DenL] at hv
    obtain ⟨v, vs', rfl, h1, rfl⟩ := hv
    simpa using h1
  | x :: y :: r, h, hv =>
    simp only [resSV] at h
    cases hd : allD (x :: y :: r) with
    | none => rw [hd] at h; cases h
    | some ds =>
      rw [hd] at h; cases h
      have hl := DenL_length hv
      have hne : ¬ vs.toArray.size = 1 := by simp at hl ⊢; omega
      rw [dif_neg hne]
      simp only [DenV, RdV]
      exact ⟨vs, rfl, RdL_of_DenL hd hv⟩
theorem Exec.enter {P : Program} {b : Frame} {cs : List Frame} {T : Machine → Prop} {C : Ctx} {k : List Item} {s : Stt} {ops : Array Oper} {i m : Nat} {o : Oper} {f : Operand} {args : Array Operand} {ts : Array TypeId} {sv : SV} {g : Nat} {fn : Func} {c : Code} {caps svs : List SV} {N : Nat}
    (ho : ops[i]? = some o) (hop : o.op = .call { callee := .value f, args := args, argTypes := ts }) (hgd : o.guard = none) (hf : evalL s.S f = some sv) (hc : fnCaps sv = some (g, caps)) (hargs : argsV s.S args.toList = some svs)
    (hfn : P.funcs[g]? = some fn) (hN : fn.ntmps = N) (hb : fn.body = some c) (hn : (fn.name == "runtime.NumGoroutine") = false) (hl : svs.length + caps.length ≤ N)
    (h : ∀ ag : Act, ag.tmps.size = s.N → ag.defers = s.df →
      Exec ⟨P, callB g, b.atR ag (.inRegion ops (i :: List.range' (i + 1) m) :: k) :: cs, T, C⟩ [.code c] (Stt.mk N [] (slotsV 0 (svs ++ caps)) s.L s.O ((ag, s.S) :: s.fz) s.pin).sy) :
    Exec ⟨P, b, cs, T, C⟩ (.inRegion ops (List.range' i (m + 1)) :: k) s.sy := by
  subst hN
  rw [List.range'_succ]
  intro a w ⟨E, hE⟩
  have hgv : DenV E w sv (a.eval f) := evalO_den (s := s.sy) hE ((evalL_eq _ _).symm.trans hf)
  obtain ⟨us, e1, hus⟩ := fnCaps_den hc hgv
  have hav := argsV_den hE hargs
  have hall := DenL_append hav hus
  have hlen := DenL_length hall
  have hent : ∀ args w, (callFunc g args).run P w = .ok (.enter g args) w := fun args w => Enters.run ⟨fn, hfn, by simp [hb], hn⟩ args w
  have hw : Region.wanted o (yielded ops a.tmps) = true := by unfold Region.wanted; rw [hgd]
  have hg := stepGR_op (P := P) (b := b) (k := k) (cs := cs) (w := w) (a := a) (rest := List.range' (i + 1) m) ho hw
  rw [Oper.semAt_eq _ _ _ (by simp [hop])] at hg
  have hr : (execOp a.eval o).run P w = .ok (.enter g (args.toList.map a.eval ++ us).toArray) w := by
    have : (args.map a.eval ++ us.toArray) = (args.toList.map a.eval ++ us).toArray := Array.ext' (by simp)
    simp [execOp, hop, resolve, e1, Deferred.ofValue, invoke, hent, this]
  have henter : Frame.enter P g (args.toList.map a.eval ++ us).toArray .normal = (callB g).atR { tmps := (args.toList.map a.eval ++ us).toArray ++ Array.replicate (fn.ntmps - (args.toList.map a.eval ++ us).toArray.size) undef, defers := [] } [.code c] := by
    simp [Frame.enter, Frame.atR, hfn, hb, callB]
  have hst : step P (lone (b.atR a (.inRegion ops (i :: List.range' (i + 1) m) :: k)) cs w) = .next (lone (Frame.enter P g (args.toList.map a.eval ++ us).toArray .normal) (b.atR a (.inRegion ops (i :: List.range' (i + 1) m) :: k) :: cs) w) :=
    step_lone_go (by rw [hg]; simp [stepG.apply, hr, Frame.atR])
  refine (?_ : ∃ m', T m' ∧ Steps P _ m').imp fun m' hm => ⟨hm.1, .head hst hm.2⟩
  rw [henter]
  refine h a hE.sz hE.df _ _ ⟨E, ⟨?_, rfl, fun t sv' ht => ?_, hE.hp, hE.pins, fun p hp => ?_⟩⟩
  · simp only [Stt.sy, Array.size_append, Array.size_replicate, List.size_toArray]
    have : (args.toList.map a.eval ++ us).length = svs.length + caps.length := by rw [hlen]; simp
    omega
  · simp only [Stt.sy, look_slotsV, Nat.zero_le, if_true, Nat.sub_zero] at ht
    obtain ⟨v, h3, h4⟩ := DenL_get hall ht
    refine ⟨v, ?_, h4⟩
    have hlt : t < (args.toList.map a.eval ++ us).length := (List.getElem?_eq_some_iff.1 h3).1
    rw [Array.getElem?_append_left (by simpa using hlt)]
    simpa using h3
  · rcases List.mem_cons.1 hp with rfl | hp
    · exact hE.slots
    · exact hE.waits p hp
theorem Exec.leave {P : Program} {te : TE} {b : Frame} {cs : List Frame} {T : Machine → Prop} {C : Ctx} {k k' : List Item} {s : Stt} (hte : TEok P te) {g : Nat} {fu : Func} {rv : List ResultVar} {svs : List SV} {sv : SV} {ag : Act} {Sg : List (Nat × SV)} {fz : List (Act × List (Nat × SV))} {df : List Deferred}
    {ops : Array Oper} {i m Ng : Nat} {d : Option Tmp}
    (hf : P.funcs[g]? = some fu) (hrv : fu.results.toList = rv) (hres : resI te s rv = some svs) (hsv : resSV svs = some sv) (hk : k = [] ∨ ∃ k1, k = .code .ret :: k1) (hdf : s.df = []) (hfz : s.fz = (ag, Sg) :: fz) (hag : ag.tmps.size = Ng) (hagd : ag.defers = df) (hd : (ops[i]?).bind (·.dst) = d) (hdN : dstLt d Ng = true)
    (h : Exec ⟨P, b, cs, T, C⟩ (.inRegion ops (List.range' (i + 1) m) :: k') (Stt.mk Ng df (putD d sv Sg) s.L s.O fz s.pin).sy) :
    Exec ⟨P, callB g, b.atR ag (.inRegion ops (i :: List.range' (i + 1) m) :: k') :: cs, T, C⟩ k s.sy := by
  intro a w ⟨E, hE⟩
  have hd' : a.defers = [] := hE.df.trans hdf
  obtain ⟨vs, hr1, hr2⟩ := resI_run (P := P) hte hE hres
  have hsvd := resSV_den hsv hr2
  generalize hv : (if hs : vs.toArray.size = 1 then vs.toArray[0] else Value.tuple vs.toArray) = v at hsvd
  have s1 : step P (lone ((callB g).atR a k) (b.atR ag (.inRegion ops (i :: List.range' (i + 1) m) :: k') :: cs) w) = .next (lone { (callB g).atR a k with mode := .returning } (b.atR ag (.inRegion ops (i :: List.range' (i + 1) m) :: k') :: cs) w) := by
    rcases hk with rfl | ⟨k1, rfl⟩
    · exact stepR_end rfl
    · exact stepR_ret rfl
  have hleave : Frame.leaving P { (callB g).atR a k with mode := .returning } w (.returned v) := by
    refine ⟨rfl, hd', rfl, fu, hf, ?_⟩
    have hm : (fu.results.mapM (rvSem a.tmps)).run P w = .ok vs.toArray w := by
      rw [Array.mapM_eq_mapM_toList, hrv]
      simp [Sem.run_bind, hr1]
    show (results fu a.tmps).run P w = _
    rw [results_eq]
    simp only [Sem.run_bind, hm, Result.andThen_ok, Sem.run_pure]
    rw [hv]
  have s2 := step_leave_returned (c := b.atR ag (.inRegion ops (i :: List.range' (i + 1) m) :: k')) (cs := cs) hleave
  rw [Frame.finish_atR, hd] at s2
  refine (?_ : ∃ m', T m' ∧ Steps P _ m').imp fun m' hm => ⟨hm.1, .head s1 (.head s2 hm.2)⟩
  refine h _ _ ⟨E, ⟨?_, ?_, fun t sv' ht => ?_, hE.hp, hE.pins, fun p hp => ?_⟩⟩
  · rw [show (ag.put d v).tmps.size = ag.tmps.size from by cases d <;> simp [Act.put]]; exact hag
  · rw [show (ag.put d v).defers = ag.defers from by cases d <;> rfl]; exact hagd
  · rw [put_tmps (fun t ht => by subst ht; simp [dstLt] at hdN; rw [hag]; exact hdN)]
    simp only [Stt.sy] at ht
    cases d with
    | none =>
      simp only [putD] at ht
      rw [if_neg (by simp)]
      exact hE.waits (ag, Sg) (by simp only [Stt.sy, hfz]; exact List.mem_cons_self) t sv' ht
    | some t' =>
      simp only [putD, klook] at ht
      by_cases htt : t = t'
      · subst htt
        simp at ht; subst ht
        exact ⟨v, by rw [if_pos rfl], hsvd⟩
      · rw [if_neg htt] at ht
        rw [if_neg (by simp; exact fun e => htt e.symm)]
        exact hE.waits (ag, Sg) (by simp [Stt.sy, hfz]) t sv' ht
  · exact hE.waits p (by simp only [Stt.sy, hfz]; exact List.mem_cons_of_mem _ hp)
/-- a round of a loop whose activation waits somewhere -/
theorem Exec.yieldD {P : Program} {b : Frame} {cs : List Frame} {T : Machine → Prop} {C : Ctx} {k : List Item} {s : Stt} (j : Nat) {ops : Array Oper} {i m : Nat} {o : Oper} {y : Operand} {args : Array Operand} {ts : Array TypeId} {l bfn r No : Nat} {ps : Array Tmp} {assign body : Code}
    {pin : List (Nat × Obj)} {ao : Act} {So : List (Nat × SV)} {svs : List SV} {pd : Option Code} {lo : LoopState → Option Code → Obj}
    (ho : ops[i]? = some o) (hop : o.op = .call { callee := .value y, args := args, argTypes := ts }) (hgd : o.guard = none) (hy : evalL s.S y = some (.d (.v (.func (.yield l) #[] #[])))) (hargs : argsV s.S args.toList = some svs)
    (hpin : s.pin = (l, lo .ready pd) :: pin) (hlo : lo = loopR bfn ao.tmps ps assign body r) (hfz : (ao, So) ∈ s.fz) (hao : ao.tmps.size = No) (hps : (decide (ps.size = args.size) && ps.toList.all fun t => decide (t < No)) = true)
    (h : ∀ ag : Act, ag.tmps.size = s.N → ag.defers = s.df →
      Exec ⟨P, rndB bfn l, b.atR ag (.inRegion ops (i :: List.range' (i + 1) m) :: k) :: cs, T, C⟩ [.code assign, .beginRound, .code body]
        (renSt (swJ j) ⟨No, [], setPs ps.toList svs So, s.L, s.O, (ag, s.S) :: s.fz, s.pin⟩).sy) :
    Exec ⟨P, b, cs, T, C⟩ (.inRegion ops (List.range' i (m + 1)) :: k) s.sy := by
  obtain ⟨N, df, S, L, O, fz, pn⟩ := s
  have hx : Exec ⟨P, b, cs, T, C⟩ (.inRegion ops (List.range' i (m + 1)) :: k) (Stt.mk N df S L O ((ao, So) :: fz) pn).sy := by
    refine Exec.yield j ho hop hgd hy hargs hpin hlo rfl hao hps fun ag hag hdg => ?_
    refine fun a w hs => h ag hag hdg a w ?_
    obtain ⟨E, hE⟩ := hs
    refine ⟨E, hE.sz, hE.df, hE.slots, hE.hp, hE.pins, fun p hp => hE.waits p ?_⟩
    simp only [Stt.sy, renSt, renF] at hp ⊢
    rcases List.mem_cons.1 hp with rfl | hp
    · exact List.mem_cons_self
    · exact List.mem_cons_of_mem _ (List.mem_cons_of_mem _ hp)
  intro a w hs
  refine hx a w ?_
  obtain ⟨E, hE⟩ := hs
  refine ⟨E, hE.sz, hE.df, hE.slots, hE.hp, hE.pins, fun p hp => hE.waits p ?_⟩
  rcases List.mem_cons.1 hp with rfl | hp
  · exact hfz
  · exact hp
attribute [go_sem] resI resSV
end Go.Kin
namespace Go.Kin
/-! ### a walk within a walk: boxes forgotten, names changed twice -/
theorem Sat.weakL {C : Ctx} {s : Stt} {L' : List (Nat × TypeId × List SV)} {a : Act} {w : World} (hL : LeL s.L L') (h : Sat C s.sy a w) : Sat C (Stt.mk s.N s.df s.S L' s.O s.fz s.pin).sy a w := by
  obtain ⟨E, hE⟩ := h
  refine ⟨E, hE.sz, hE.df, hE.slots, ⟨hE.hp.bel, hE.hp.z, fun key T cs hk => ?_, fun key e hk => ?_, fun key key' e e' hk hk' heq => ?_, hE.hp.own, fun key e g hk hg => ?_, hE.hp.ownD⟩, fun b o hb => ?_, hE.waits⟩
  · obtain ⟨xs, h1, h2⟩ := LeL_look hL hk
    obtain ⟨vs, h3, h4⟩ := hE.hp.loc key T xs h1
    exact ⟨vs, h3, h2.den h4⟩
  · obtain ⟨T, ys⟩ := e
    obtain ⟨xs, h1, h2⟩ := LeL_look hL hk
    exact hE.hp.locN key _ h1
  · obtain ⟨T, ys⟩ := e
    obtain ⟨T', ys'⟩ := e'
    obtain ⟨xs, h1, _⟩ := LeL_look hL hk
    obtain ⟨xs', h1', _⟩ := LeL_look hL hk'
    exact hE.hp.locD key key' _ _ h1 h1' heq
  · have h2 := hE.hp.ownN key e g hk hg
    refine ⟨h2.1, h2.2.1, fun key' e' hk' => ?_⟩
    obtain ⟨T, ys⟩ := e'
    obtain ⟨xs, h3, _⟩ := LeL_look hL hk'
    exact h2.2.2 key' _ h3
  · obtain ⟨p1, p2, p3, p4, p5⟩ := hE.pins b o hb
    refine ⟨p1, p2, p3, fun key e he => ?_, p5⟩
    obtain ⟨T, ys⟩ := e
    obtain ⟨xs, h3, _⟩ := LeL_look hL he
    exact p4 key _ h3
theorem Exec.weakL {R : Rn} {k : List Item} {s : Stt} (L' : List (Nat × TypeId × List SV)) (hL : LeL s.L L') (h : Exec R k (Stt.mk s.N s.df s.S L' s.O s.fz s.pin).sy) : Exec R k s.sy :=
  fun a w hs => h a w (hs.weakL hL)
mutual
theorem renV_renV (π : Swp) : ∀ sv : SV, renV π (renV π sv) = sv
  | .d d => rfl
  | .lp k o => by simp [renV, π.inv]
  | .own k => by simp [renV, π.inv]
  | .oa k a b c => by simp [renV, π.inv]
  | .fn f cs => by simp [renV, renL_renL π cs]
  | .op p sv => by simp [renV, renV_renV π sv]
  | .mv f cs => by simp [renV, renL_renL π cs]
  | .sg cs => by simp [renV, renL_renL π cs]
  | .junk => rfl
theorem renL_renL (π : Swp) : ∀ l : List SV, renL π (renL π l) = l
  | [] => rfl
  | x :: r => by simp [renL, renV_renV π x, renL_renL π r]
end
theorem renS_renS (π : Swp) : ∀ l : List (Nat × SV), renS π (renS π l) = l
  | [] => rfl
  | (t, v) :: r => by simp [renS, renV_renV, renS_renS π r]
theorem renF_renF (π : Swp) : ∀ l : List (Act × List (Nat × SV)), renF π (renF π l) = l
  | [] => rfl
  | (a, S) :: r => by simp [renF, renS_renS, renF_renF π r]
end Go.Kin
namespace Go.Kin
open Go.RowKit
/-! ### functions that write a box of their caller's, and may panic -/
/-- how such a function ends: the box's new cells and a result; or a panic -/
inductive Out where
  | ret (cs : List D) (res : D)
  | pan (d : D)
/-- all that was there stays, but for one block -/
structure Aft (b : Nat) (w w' : World) : Prop where
  os : w'.os = w.os
  tape : w'.tape = w.tape
  output : w'.output = w.output
  size : w.heap.size ≤ w'.heap.size
  block : ∀ k, k < w.heap.size → k ≠ b → w'.heap[k]? = w.heap[k]?
def lentE (b : Nat) (Z : Nat → Prop) : Env := ⟨fun _ => b, fun _ => undef, Z⟩
def OutOf (out : Out) (b : Nat) (T : TypeId) (w : World) (Z : Nat → Prop) (e : Ending) (w' : World) : Prop := match out with
  | .ret cs res => ∃ v Z' us, e = .returned v ∧ (∀ c, Z' c → c < w'.heap.size ∧ (Z c ∨ w.heap.size ≤ c)) ∧ w'.heap[b]? = some (.cells (List.toArray us) T (0, 0)) ∧ RdL w' Z' cs us ∧ RdV w' Z' res v
  | .pan d => ∃ v Z', e = .panicked [{ v, recovered := false }] ∧ (∀ c, Z' c → c < w'.heap.size ∧ (Z c ∨ w.heap.size ≤ c)) ∧ RdV w' Z' d v
/-- THE CONTRACT of such a function: the box is named 900 in the arguments -/
def FnM (I : World → Prop) (P : Program) (f : FuncId) (T : TypeId) (cs : List D) (args : List SV) (out : Out) : Prop :=
  Enters P f ∧ ∀ (w : World) (Z : Nat → Prop) (b : Nat) (us vs : List Value), I w → (∀ w', Aft b w w' → I w') → (∀ c, Z c → c < w.heap.size ∧ c ≠ b) → w.heap[b]? = some (.cells (List.toArray us) T (0, 0)) → RdL w Z cs us → DenL (lentE b Z) w args vs →
    Calls P f vs.toArray w fun e w' => Aft b w w' ∧ OutOf out b T w Z e w'
section
variable {C : Ctx} {E : Env} {s : Sy} {a : Act} {w w' : World}
theorem HpE.ownM (h : HpE C E s.L s.O w) {key : Nat} {x : TypeId × List SV} (hL : s.L key = some x) {k : Nat} (hk : k < C.w0.heap.size) (hm : ¬ C.M k) : k ≠ E.β key := fun e =>
  (h.locN key x hL).1.elim (fun h5 => by have := h5.2; omega) (fun h5 => hm (by rw [e]; exact h5.2))
theorem BelM.aft (h : BelM C w) {b : Nat} (hb : ∀ k, k < C.w0.heap.size → ¬ C.M k → k ≠ b) (ha : Aft b w w') : BelM C w' :=
  ⟨ha.os.trans h.os, ha.tape.trans h.tape, ha.output.trans h.output, Nat.le_trans h.size ha.size, fun k hk hm => (ha.block k (Nat.lt_of_lt_of_le hk h.size) (hb k hk hm)).trans (h.block k hk hm)⟩
theorem SatE.keepB (h : SatE C E s a w) {key : Nat} {x : TypeId × List SV} (hL : s.L key = some x) {Z' : Nat → Prop} (ha : Aft (E.β key) w w') : Keeps w E.Z w' (fun b => E.Z b ∨ Z' b) :=
  ⟨fun _ hz => .inl hz, fun b hz => ha.block b (h.hp.z b hz).1 fun e => (h.hp.locN key x hL).2 (e ▸ hz)⟩
/-- a box is lent, and comes back written -/
theorem SatE.boxTo (h : SatE C E s a w) {key : Nat} {T : TypeId} {cs0 : List SV} (hL : s.L key = some (T, cs0)) {d : Option Tmp} (hd : ∀ t, d = some t → t < s.N) {Z' : Nat → Prop} (ha : Aft (E.β key) w w') (hz : ∀ c, Z' c → c < w'.heap.size ∧ (E.Z c ∨ w.heap.size ≤ c))
    {us : List Value} {cs : List D} (hb : w'.heap[E.β key]? = some (.cells (List.toArray us) T (0, 0))) (hcs : RdL w' Z' cs us) {res : D} {v : Value} (hv : RdV w' Z' res v) :
    SatE C { E with Z := fun b => E.Z b ∨ Z' b } (apply d ⟨.d res, [(key, T, cs.map SV.d)], [], [], []⟩ s) (a.put d v) w' := by
  have hN := h.hp.locN key _ hL
  have hlt := h.hp.lt hL
  have hk := h.keepB (Z' := Z') hL ha
  have hk2 : Keeps w' Z' w' (fun b => E.Z b ∨ Z' b) := ⟨fun _ h => .inr h, fun _ _ => rfl⟩
  have hno : ∀ b, b < w.heap.size → ¬ E.Z b → ¬ (E.Z b ∨ Z' b) := fun b h1 h2 h3 => h3.elim h2 fun h4 => (hz b h4).2.elim h2 fun h5 => by omega
  have hL1 : ∀ key' x, (apply d ⟨.d res, [(key, T, cs.map SV.d)], [], [], []⟩ s).L key' = some x → (key' = key ∧ x = (T, cs.map SV.d)) ∨ (key' ≠ key ∧ s.L key' = some x) := fun key' x hx => by
    simp only [apply, klook] at hx
    by_cases hkd : key' = key
    · left; simp [hkd] at hx; exact ⟨hkd, hx.symm⟩
    · right; simp [hkd, killE_nil] at hx; exact ⟨hkd, hx⟩
  have hL2 : ∀ key' x, (apply d ⟨.d res, [(key, T, cs.map SV.d)], [], [], []⟩ s).L key' = some x → ∃ y, s.L key' = some y := fun key' x hx => (hL1 key' x hx).elim (fun h => ⟨(T, cs0), by rw [h.1]; exact hL⟩) (fun h => ⟨x, h.2⟩)
  have hO : ∀ key', (apply d ⟨.d res, [(key, T, cs.map SV.d)], [], [], []⟩ s).O key' = s.O key' := fun key' => by simp [apply, klook]
  have hs0 := h.hp.bel.size
  refine h.step (E' := { E with Z := fun b => E.Z b ∨ Z' b }) hd (r := ⟨.d res, [(key, T, cs.map SV.d)], [], [], []⟩) (fun sv v hv => by rw [kill_nil]; exact DenV.mono (E' := { E with Z := fun b => E.Z b ∨ Z' b }) hk rfl rfl hv) (by simp only [DenV]; exact hv.mono hk2)
    ⟨h.hp.bel.aft (fun k h1 h2 => h.hp.ownM hL h1 h2) ha, fun b hb1 => ?_, fun key' T' cs' he => ?_, fun key' x he => ?_, fun k1 k2 x x' he he' heq => ?_, fun key' o he => ?_, fun key' x g he hg => ?_, fun k1 k2 x x' g he he' hg hg' => ?_⟩ (fun b o hb' => ?_)
  · have hs := ha.size
    rcases hb1 with hb1 | hb1
    · have := h.hp.z b hb1; exact ⟨by omega, this.2⟩
    · have h2 := hz b hb1
      rcases h2.2 with h3 | h3
      · exact ⟨h2.1, (h.hp.z b h3).2⟩
      · exact ⟨h2.1, fun _ => by omega, .inr (by omega)⟩
  · rcases hL1 key' _ he with ⟨rfl, e1⟩ | ⟨hne, h1⟩
    · cases e1; exact ⟨us, hb, DenL_of_RdL (hcs.mono hk2)⟩
    · obtain ⟨us', h2, h3⟩ := h.hp.loc key' _ _ h1
      exact ⟨us', (ha.block _ (h.hp.lt h1) fun e => hne (h.hp.locD key' key _ _ h1 hL e)).trans h2, DenL.mono (E' := { E with Z := fun b => E.Z b ∨ Z' b }) hk rfl rfl h3⟩
  · obtain ⟨y, hy⟩ := hL2 key' x he
    have h1 := h.hp.locN key' y hy
    exact ⟨h1.1, hno _ (h.hp.lt hy) h1.2⟩
  · obtain ⟨y, hy⟩ := hL2 k1 x he
    obtain ⟨y', hy'⟩ := hL2 k2 x' he'
    exact h.hp.locD k1 k2 y y' hy hy' heq
  · rw [hO] at he
    obtain ⟨h0, h1⟩ := h.hp.own key' o he
    refine ⟨h0, h1.imp id ?_⟩
    rintro ⟨g, cap, us', h2, h3, h4, h5, h6, h7⟩
    exact ⟨g, cap, us', h2, h3, h4, (ha.block g (Array.getElem?_eq_some_iff.1 h5).1 fun e => (h.hp.ownN key' o g he (by rw [h2]; rfl)).2.2 key _ hL e.symm).trans h5, h6, fun i hi => (h7 i hi).mono hk⟩
  · rw [hO] at he
    have h1 := h.hp.ownN key' x g he hg
    refine ⟨h1.1, hno _ (h.hp.ltO he hg) h1.2.1, fun k2 e2 he2 => ?_⟩
    obtain ⟨y, hy⟩ := hL2 k2 e2 he2
    exact h1.2.2 k2 y hy
  · rw [hO] at he he'
    exact h.hp.ownD k1 k2 x x' g he he' hg hg'
  · obtain ⟨p1, p2, p3, p4, p5⟩ := h.pins b o hb'
    have hblt : b < w.heap.size := (Array.getElem?_eq_some_iff.1 p1).1
    refine ⟨(ha.block b hblt fun e => p4 key _ hL e.symm).trans p1, p2, hno _ hblt p3, fun key' x he => ?_, fun key' x he => ?_⟩
    · obtain ⟨y, hy⟩ := hL2 key' x he; exact p4 key' y hy
    · rw [hO] at he; exact p5 key' x he
end
section
variable {C : Ctx} {E : Env} {s : Stt} {a : Act} {w w' : World}
/-- a box is lent, and is not asked for any more -/
theorem SatE.boxLost (h : SatE C E s.sy a w) {key : Nat} {x : TypeId × List SV} (hL : klook key s.L = some x) {Z' : Nat → Prop} (ha : Aft (E.β key) w w') (hz : ∀ c, Z' c → c < w'.heap.size ∧ (E.Z c ∨ w.heap.size ≤ c)) :
    SatE C { E with Z := fun b => E.Z b ∨ Z' b } (Stt.mk s.N s.df s.S (delK key s.L) s.O s.fz s.pin).sy a w' := by
  have hL' : s.sy.L key = some x := hL
  have hk := h.keepB (Z' := Z') hL' ha
  have hno : ∀ b, b < w.heap.size → ¬ E.Z b → ¬ (E.Z b ∨ Z' b) := fun b h1 h2 h3 => h3.elim h2 fun h4 => (hz b h4).2.elim h2 fun h5 => by omega
  have hL1 : ∀ key' x, klook key' (delK key s.L) = some x → key' ≠ key ∧ s.sy.L key' = some x := fun key' x hx => by
    rw [look_delK] at hx
    by_cases e : key' = key
    · simp [e] at hx
    · rw [if_neg e] at hx; exact ⟨e, hx⟩
  have hm : ∀ sv v, DenV E w sv v → DenV { E with Z := fun b => E.Z b ∨ Z' b } w' sv v := fun sv v hv => DenV.mono (E' := { E with Z := fun b => E.Z b ∨ Z' b }) hk rfl rfl hv
  have hs0 := h.hp.bel.size
  refine ⟨h.sz, h.df, fun t sv ht => let ⟨v, h1, h2⟩ := h.slots t sv ht; ⟨v, h1, hm _ _ h2⟩, ⟨h.hp.bel.aft (fun k h1 h2 => h.hp.ownM hL' h1 h2) ha, fun b hb1 => ?_, fun key' T' cs' he => ?_, fun key' x he => ?_, fun k1 k2 x x' he he' heq => ?_, fun key' o he => ?_, fun key' x g he hg => ?_, h.hp.ownD⟩, fun b o hb' => ?_, h.waits.mono hm⟩
  · have hs := ha.size
    rcases hb1 with hb1 | hb1
    · have := h.hp.z b hb1; exact ⟨by omega, this.2⟩
    · have h2 := hz b hb1
      rcases h2.2 with h3 | h3
      · exact ⟨h2.1, (h.hp.z b h3).2⟩
      · exact ⟨h2.1, fun _ => by omega, .inr (by omega)⟩
  · obtain ⟨hne, h1⟩ := hL1 key' _ he
    obtain ⟨us', h2, h3⟩ := h.hp.loc key' _ _ h1
    exact ⟨us', (ha.block _ (h.hp.lt h1) fun e => hne (h.hp.locD key' key _ _ h1 hL' e)).trans h2, DenL.mono (E' := { E with Z := fun b => E.Z b ∨ Z' b }) hk rfl rfl h3⟩
  · obtain ⟨_, hy⟩ := hL1 key' x he
    have h1 := h.hp.locN key' _ hy
    exact ⟨h1.1, hno _ (h.hp.lt hy) h1.2⟩
  · exact h.hp.locD k1 k2 _ _ (hL1 k1 x he).2 (hL1 k2 x' he').2 heq
  · obtain ⟨h0, h1⟩ := h.hp.own key' o he
    refine ⟨h0, h1.imp id ?_⟩
    rintro ⟨g, cap, us', h2, h3, h4, h5, h6, h7⟩
    exact ⟨g, cap, us', h2, h3, h4, (ha.block g (Array.getElem?_eq_some_iff.1 h5).1 fun e => (h.hp.ownN key' o g he (by rw [h2]; rfl)).2.2 key _ hL' e.symm).trans h5, h6, fun i hi => (h7 i hi).mono hk⟩
  · have h1 := h.hp.ownN key' x g he hg
    exact ⟨h1.1, hno _ (h.hp.ltO he hg) h1.2.1, fun k2 e2 he2 => h1.2.2 k2 _ (hL1 k2 e2 he2).2⟩
  · obtain ⟨p1, p2, p3, p4, p5⟩ := h.pins b o hb'
    have hblt : b < w.heap.size := (Array.getElem?_eq_some_iff.1 p1).1
    exact ⟨(ha.block b hblt fun e => p4 key _ hL' e.symm).trans p1, p2, hno _ hblt p3, fun key' x he => p4 key' _ (hL1 key' x he).2, p5⟩
end
/-! ### what is called, with what -/
def callAll : SV → List SV → Option (Nat × List SV)
  | .fn f caps, svs => some (f, svs ++ caps)
  | .mv f first, svs => some (f, first ++ svs)
  | .d (.fn f ds), svs => some (f, svs ++ ds.map SV.d)
  | _, _ => none
theorem callAll_run {P : Program} {E : Env} {w : World} {sv : SV} {svs all : List SV} {g : Nat} (hc : callAll sv svs = some (g, all)) (hg : Enters P g) {v : Value} {vs : List Value} (hv : DenV E w sv v) (hvs : DenL E w svs vs) :
    ∃ us : List Value, DenL E w all us ∧ (Deferred.ofValue v vs.toArray >>= fun d => invoke d.target d.args).run P w = .ok (.enter g us.toArray) w := by
  cases sv with
  | fn f caps =>
    simp [callAll] at hc; obtain ⟨rfl, rfl⟩ := hc
    simp only [DenV] at hv
    obtain ⟨cs, rfl, h⟩ := hv
    exact ⟨vs ++ cs, DenL_append hvs h, by simp [Deferred.ofValue, invoke, hg.run]⟩
  | mv f first =>
    simp [callAll] at hc; obtain ⟨rfl, rfl⟩ := hc
    simp only [DenV] at hv
    obtain ⟨cs, rfl, h⟩ := hv
    exact ⟨cs ++ vs, DenL_append h hvs, by simp [Deferred.ofValue, invoke, hg.run]⟩
  | d x =>
    cases x with
    | fn f ds =>
      simp [callAll] at hc; obtain ⟨rfl, rfl⟩ := hc
      simp only [DenV, RdV] at hv
      obtain ⟨cs, rfl, h⟩ := hv
      exact ⟨vs ++ cs, DenL_append hvs (DenL_of_RdL h), by simp [Deferred.ofValue, invoke, hg.run]⟩
    | _ => simp [callAll] at hc
  | _ => simp [callAll] at hc
mutual
/-- an argument as the callee names it -/
def lendV (key : Nat) : SV → Option SV
  | .d x => some (.d x)
  | .lp k off => if k = key then some (.lp 900 off) else none
  | .fn f caps => match lendL key caps with | some l => some (.fn f l) | none => none
  | .mv f caps => match lendL key caps with | some l => some (.mv f l) | none => none
  | _ => none
def lendL (key : Nat) : List SV → Option (List SV)
  | [] => some []
  | sv :: r => match lendV key sv, lendL key r with | some x, some l => some (x :: l) | _, _ => none
end
mutual
theorem lendV_den {E : Env} {w : World} {key : Nat} : ∀ {sv sv' : SV} {v : Value}, lendV key sv = some sv' → DenV E w sv v → DenV (lentE (E.β key) E.Z) w sv' v
  | .d x, sv', v, h, hv => by simp [lendV] at h; subst h; simp only [DenV, lentE] at hv ⊢; exact hv
  | .lp k off, sv', v, h, hv => by
    simp only [lendV] at h
    split at h
    · rename_i e; subst e; cases h; simp only [DenV, lentE] at hv ⊢; exact hv
    · cases h
  | .fn f caps, sv', v, h, hv => by
    simp only [lendV] at h
    split at h
    · rename_i l hl; cases h
      simp only [DenV] at hv ⊢
      obtain ⟨vs, h1, h2⟩ := hv
      exact ⟨vs, h1, lendL_den hl h2⟩
    · cases h
  | .mv f caps, sv', v, h, hv => by
    simp only [lendV] at h
    split at h
    · rename_i l hl; cases h
      simp only [DenV] at hv ⊢
      obtain ⟨vs, h1, h2⟩ := hv
      exact ⟨vs, h1, lendL_den hl h2⟩
    · cases h
  | .own _, _, _, h, _ => by simp [lendV] at h
  | .oa _ _ _ _, _, _, h, _ => by simp [lendV] at h
  | .op _ _, _, _, h, _ => by simp [lendV] at h
  | .sg _, _, _, h, _ => by simp [lendV] at h
  | .junk, _, _, h, _ => by simp [lendV] at h
theorem lendL_den {E : Env} {w : World} {key : Nat} : ∀ {svs svs' : List SV} {vs : List Value}, lendL key svs = some svs' → DenL E w svs vs → DenL (lentE (E.β key) E.Z) w svs' vs
  | [], svs', vs, h, hv => by simp [lendL] at h; subst h; simpa [DenL] using hv
  | sv :: r, svs', vs, h, hv => by
    simp only [lendL] at h
    split at h
    · rename_i x l hx hl; cases h
      simp only [DenL] at hv ⊢
      obtain ⟨v, vs', e, h1, h2⟩ := hv
      exact ⟨v, vs', e, lendV_den hx h1, lendL_den hl h2⟩
    · cases h
end
/-! ### calls of such functions -/
section
variable {I : World → Prop} {P : Program} {C : Ctx} {o : Oper}
/-- what is known where such a call is made -/
theorem lend_call (hI : ∀ w, BelM C w → I w) {s : Sy} {E : Env} {a : Act} {w : World} (hE : SatE C E s a w) {g : Nat} {T : TypeId} {ds : List D} {args' : List SV} {out : Out} (h : FnM I P g T ds args' out) {key : Nat} {cells : List SV} (hL : s.L key = some (T, cells)) (hds : allD cells = some ds)
    {all : List SV} {us : List Value} (hl : lendL key all = some args') (hu : DenL E w all us) : Calls P g us.toArray w fun e w' => Aft (E.β key) w w' ∧ OutOf out (E.β key) T w E.Z e w' := by
  obtain ⟨bs, hb1, hb2⟩ := h_loc hE hL
  exact h.2 w E.Z (E.β key) bs us (hI w hE.hp.bel) (fun w' ha => hI w' (hE.hp.bel.aft (fun k h1 h2 => hE.hp.ownM hL h1 h2) ha)) (fun c hc => ⟨(hE.hp.z c hc).1, fun e => (hE.hp.locN key _ hL).2 (e ▸ hc)⟩) hb1 (RdL_of_DenL hds hb2) (lendL_den hl hu)
where h_loc {s : Sy} {E : Env} {a : Act} {w : World} (hE : SatE C E s a w) {key : Nat} {T : TypeId} {cells : List SV} (hL : s.L key = some (T, cells)) := hE.hp.loc key T cells hL
theorem argsO_den {s s' : Sy} {E : Env} {a : Act} {w : World} (hext : Ext o s s') (hE : SatE C E s' a w) : ∀ {l : List Operand} {svs : List SV}, (∀ x ∈ l, x ∈ o.op.operands) → l.mapM (evalO s.S) = some svs → DenL E w svs (l.map a.eval) := fun hm h => mapM_den hext hE hm h
theorem argsV_mapM {S : List (Nat × SV)} : ∀ {l : List Operand} {svs : List SV}, argsV S l = some svs → l.mapM (evalO fun t => klook t S) = some svs
  | [], svs, h => by simp [argsV] at h; subst h; rfl
  | x :: r, svs, h => by
    simp only [argsV] at h
    split at h
    · rename_i sv l h1 h2
      cases h
      rw [evalL_eq] at h1
      simp [h1, argsV_mapM h2]
    · cases h
theorem ok_callM (hI : ∀ w, BelM C w → I w) {st : Stt} {f : Operand} {args : Array Operand} {ts : Array TypeId} {sv : SV} {svs all : List SV} {g key : Nat} {T : TypeId} {cells : List SV} {ds cs' : List D} {args' : List SV} {res : D} (ho : o.op = .call { callee := .value f, args := args, argTypes := ts })
    (ht : ∀ t, o.dst = some t → t < st.N) (hf : evalL st.S f = some sv) (hargs : argsV st.S args.toList = some svs) (hc : callAll sv svs = some (g, all)) (hl : lendL key all = some args') (hL : klook key st.L = some (T, cells)) (hds : allD cells = some ds) (h : FnM I P g T ds args' (.ret cs' res)) :
    Ok1 P C o st.sy ⟨.d res, [(key, T, cs'.map SV.d)], [], [], []⟩ := by
  refine ⟨by simp [ho], fun s' hext a w ⟨E, hE⟩ => ?_⟩
  have hfv := hext.ev hE (x := f) (by simp [ho, Op.operands, Call.operands]) ((evalL_eq _ _).symm.trans hf)
  have hav := argsO_den hext hE (l := args.toList) (fun x hx => by simp [ho, Op.operands, Call.operands] at hx ⊢; exact .inr hx) (argsV_mapM hargs)
  obtain ⟨us, h1, h2⟩ := callAll_run (P := P) hc h.1 hfv hav
  have hL' : s'.L key = some (T, cells) := by rw [hext.l key (by rw [show st.sy.L key = _ from hL]; simp)]; exact hL
  have hr : (execOp a.eval o).run P w = .ok (.enter g us.toArray) w := by
    have e1 : args.map a.eval = (args.toList.map a.eval).toArray := Array.ext' (by simp)
    rw [← h2, ← e1]
    simp only [execOp, ho, resolve]
  have hcl := lend_call hI hE h hL' hds hl h1
  unfold gives
  rw [hr]
  refine hcl.mono ?_
  rintro e w' ⟨ha, v, Z', bs, rfl, hz, hb, hcs, hv⟩
  exact ⟨v, rfl, _, hE.boxTo hL' (fun t e => by rw [hext.n]; exact ht t e) ha hz hb hcs hv⟩
theorem kcallM (key : Nat) {ops : Array Oper} {r : List Oper} {i : Nat} {dl : List (Option Tmp)} {st : Stt} {Q : Sy → Prop} {te : TE} (hI : ∀ w, BelM C w → I w) (hte : TEok P te) (hw : wantR i dl st.S o = some true) (hd : dstOk o st.N = true) {f : Operand} {args : Array Operand} {ts : Array TypeId} {sv : SV} {svs all : List SV} {g : Nat} {T : TypeId} {cells : List SV} {ds cs' : List D} {args' : List SV} {res : D}
    (ho : o.op = .call { callee := .value f, args := args, argTypes := ts }) (hf : evalL st.S f = some sv) (hargs : argsV st.S args.toList = some svs) (hc : callAll sv svs = some (g, all)) (hl : lendL key all = some args') (hL : klook key st.L = some (T, cells)) (hds : allD cells = some ds)
    (h : FnM I P g T ds args' (.ret cs' res)) (hr : runL P C te ops (i + 1) (o.dst :: dl) r (applyL o.dst ⟨.d res, [(key, T, cs'.map SV.d)], [], [], []⟩ st) Q) : WalkI P C ops i dl (o :: r) st.sy Q :=
  walkI_step (fun _ hi => ok2_run (ok_callM hI ho (dstOk_spec hd) hf hargs hc hl hL hds h) (wantR_spec hi hw)) (runL_walk hte hr)
end
/-! ### the body of such a function -/
def FnTM (P : Program) (f : FuncId) (cs : List Frame) (w : World) (Z : Nat → Prop) (b : Nat) (T : TypeId) (out : Out) (m : Machine) : Prop :=
  ∃ e w' fr, m = lone fr cs w' ∧ fr.fn = f ∧ fr.leaving P w' e ∧ Aft b w w' ∧ OutOf out b T w Z e w'
structure FnRunM (R : Rn) (I : World → Prop) (P : Program) (f : FuncId) (fn : Func) (T : TypeId) (out : Out) (b0 : Nat) : Prop where
  p : R.P = P
  bfn : R.b.fn = f
  kind : R.b.kind = .normal
  round : R.b.roundOf = none
  m : ∀ k, R.C.M k ↔ k = b0
  inv : ∀ w, BelM R.C w → I w
  func : P.funcs[f]? = some fn
  t : R.T = FnTM P f R.cs R.C.w0 R.C.Z0 b0 T out
theorem FnM_of {I : World → Prop} {P : Program} {f : FuncId} {fn : Func} {c : Code} {T : TypeId} {cs : List D} {args : List SV} {out : Out} {N : Nat} (hf : P.funcs[f]? = some fn) (hN : fn.ntmps = N) (hb : fn.body = some c) (hn : (fn.name == "runtime.NumGoroutine") = false) (hl : args.length ≤ N)
    (h : ∀ R b0, FnRunM R I P f fn T out b0 → Exec R [.code c] (Stt.mk N [] (slotsV 0 args) [(900, T, cs.map SV.d)] [] [] []).sy) : FnM I P f T cs args out := by
  subst hN
  refine ⟨⟨fn, hf, by simp [hb], hn⟩, fun w Z b0 us vs hi hi' hZ hb0 hus hv => ?_⟩
  intro fs
  let b : Frame := { (default : Frame) with fn := f, kind := .normal, roundOf := none }
  have hlen := DenL_length hv
  have henter : Frame.enter P f vs.toArray .normal = b.atR { tmps := vs.toArray ++ Array.replicate (fn.ntmps - vs.toArray.size) undef, defers := [] } [.code c] := by
    simp [Frame.enter, Frame.atR, hf, hb, b]
  have hblt : b0 < w.heap.size := (Array.getElem?_eq_some_iff.1 hb0).1
  have hx := h ⟨P, b, fs, FnTM P f fs w Z b0 T out, ⟨w, Z, fun k => k = b0⟩⟩ b0 ⟨rfl, rfl, rfl, rfl, fun _ => Iff.rfl, fun w' hb => hi' w' ⟨hb.os, hb.tape, hb.output, hb.size, fun k hk hne => hb.block k hk hne⟩, hf, rfl⟩
  obtain ⟨m', ⟨e, w', fr, rfl, h1, h2, h3, h4⟩, hst⟩ := hx { tmps := vs.toArray ++ Array.replicate (fn.ntmps - vs.toArray.size) undef, defers := [] } w (by
    refine ⟨lentE b0 Z, ?_, rfl, fun t sv hs => ?_, ⟨⟨rfl, rfl, rfl, Nat.le_refl _, fun _ _ _ => rfl⟩, fun b hb => ⟨(hZ b hb).1, fun _ h => (hZ b hb).2 h, .inl hb⟩, fun key T' cs' hk => ?_, fun key e hk => ?_, fun key key' e e' hk hk' _ => ?_, ?_, ?_, ?_⟩, fun b o hb => (nomatch hb), fun p hp => (nomatch hp)⟩
    · simp [Stt.sy]; omega
    · simp only [Stt.sy, look_slotsV, Nat.zero_le, if_true, Nat.sub_zero] at hs
      obtain ⟨v, h1, h2⟩ := DenL_get hv hs
      have hlt : t < vs.length := (List.getElem?_eq_some_iff.1 h1).1
      refine ⟨v, ?_, h2⟩
      rw [Array.getElem?_append_left (by simpa using hlt)]
      simpa using h1
    · simp only [Stt.sy, klook] at hk
      split at hk
      · cases hk; exact ⟨us, hb0, DenL_of_RdL hus⟩
      · cases hk
    · simp only [Stt.sy, klook] at hk
      split at hk
      · rename_i e1; subst e1; exact ⟨.inr ⟨by decide, rfl⟩, fun hz => (hZ b0 hz).2 rfl⟩
      · cases hk
    · simp only [Stt.sy, klook] at hk hk'
      split at hk
      · split at hk'
        · rename_i e1 e2; rw [e1, e2]
        · cases hk'
      · cases hk
    all_goals (intros; simp_all [Stt.sy, klook]))
  refine ⟨e, w', fr, ⟨h3, h4⟩, ?_, h1, h2⟩
  rw [henter]
  cases e with
  | returned v => exact hst
  | panicked ch => exact hst
  | outgrown => cases out <;> simp [OutOf] at h4
/-- a return from such a function -/
theorem Exec.retsMu {te : TE} {I : World → Prop} {P : Program} {b : Frame} {cs : List Frame} {T : Machine → Prop} {C : Ctx} {f : FuncId} {fn : Func} {Ty : TypeId} {out : Out} {b0 : Nat} (hR : FnRunM ⟨P, b, cs, T, C⟩ I P f fn Ty out b0) (hte : TEok P te) {s : Stt} {rv : List ResultVar} (hrv : fn.results.toList = rv) (hdf : Marks s.df s.pin) {k : List Item} {ds : List D} (hr : resV te s rv = some ds)
    {cells : List SV} (hL : klook 900 s.L = some (Ty, cells)) {cs1 : List D} (hcs : toD1s (fun k => klook k s.O) cells = some cs1) (he : ∃ cs' res, out = .ret cs' res ∧ LeXs cs1 cs' ∧ LeX (resD ds) res) (hk : k = [] ∨ ∃ k', k = .code .ret :: k') : Exec ⟨P, b, cs, T, C⟩ k s.sy := by
  subst hrv
  obtain ⟨cs', res, rfl, he⟩ := he
  intro a w ⟨E0, hE0⟩
  obtain ⟨a, w, pin, hE, hst⟩ := hdf.run (P := P) (b := b) (cs := cs) (k := k) hE0
  have hr : resV te (Stt.mk s.N [] s.S s.L s.O s.fz pin) fn.results.toList = some ds := by rw [← hr]; exact resV_same (s := Stt.mk s.N [] s.S s.L s.O s.fz pin) (s' := s) rfl rfl rfl
  obtain ⟨vs, h1, h2⟩ := resV_run (P := P) (s := Stt.mk s.N [] s.S s.L s.O s.fz pin) hte hE hr
  have hb0 : E0.β 900 = b0 := by
    rcases (hE.hp.locN 900 _ hL).1 with ⟨h3, _⟩ | ⟨_, h3⟩
    · exact absurd h3 (by decide)
    · exact (hR.m _).1 h3
  obtain ⟨us, h3, h4⟩ := hE.hp.loc 900 _ _ hL
  rw [hb0] at h3
  have h5 := toD1s_den (s := (Stt.mk s.N [] s.S s.L s.O s.fz pin).sy) hE hcs h4
  have hres : ∃ v, (results fn a.tmps).run P w = .ok v w ∧ RdV w (Zf E0 s.sy.L s.sy.O) res v := by
    have hm : (fn.results.mapM (rvSem a.tmps)).run P w = .ok vs.toArray w := by
      rw [Array.mapM_eq_mapM_toList]
      simp [Sem.run_bind, h1]
    refine (?_ : ∃ v, (results fn a.tmps).run P w = .ok v w ∧ RdV w (Zf E0 s.sy.L s.sy.O) (resD ds) v).imp fun v hv => ⟨hv.1, he.2.le _ _ _ hv.2⟩
    have hlen := RdL_length h2
    match ds, vs, hlen, h2, hm with
    | [d], [v], _, h2, hm =>
      refine ⟨v, ?_, by simp only [RdL] at h2; obtain ⟨v', vs', e, h3, _⟩ := h2; simp at e; rw [e.1]; exact h3⟩
      rw [results_eq]
      simp only [Sem.run_bind, hm, Result.andThen_ok]
      rfl
    | [], [], _, h2, hm =>
      refine ⟨.tuple #[], ?_, by simp only [resD, RdV]; exact ⟨[], rfl, h2⟩⟩
      rw [results_eq]
      simp only [Sem.run_bind, hm, Result.andThen_ok]
      rfl
    | d :: d' :: ds, v :: v' :: vs, _, h2, hm =>
      refine ⟨.tuple (v :: v' :: vs).toArray, ?_, by simp only [resD, RdV]; exact ⟨_, rfl, h2⟩⟩
      rw [results_eq]
      simp only [Sem.run_bind, hm, Result.andThen_ok]
      simp
  obtain ⟨v, h6, h7⟩ := hres
  have hbel := hE.hp.bel
  refine ⟨lone { b.atR a k with mode := .returning } cs w, ?_, ?_⟩
  · rw [show T = _ from hR.t]
    refine ⟨.returned v, w, _, rfl, hR.bfn, ⟨rfl, hE.df, hR.kind, fn, ?_, h6⟩, ⟨hbel.os, hbel.tape, hbel.output, hbel.size, fun k hk hne => hbel.block k hk fun hm => hne ((hR.m k).1 hm)⟩, v, _, us, rfl, fun c hc => Zf_lt hE hc, h3, (LeXs.le he.1).rd h5, h7⟩
    show P.funcs[b.fn]? = some fn
    rw [hR.bfn]; exact hR.func
  · rcases hk with rfl | ⟨k', rfl⟩
    · exact .head (stepR_end hR.round) hst
    · exact .head (stepR_ret hR.round) hst
attribute [go_sem] callAll lendV lendL
end Go.Kin
