/- Steps of a function body on data, and contracts of the functions of the seat, walked. -/
import Derived.Test.YtgnhhjojiipmgaaGreatDoorKRun
set_option linter.unusedSimpArgs false
set_option linter.unusedVariables false
set_option linter.unusedSectionVars false
namespace Go.Kin
open Go.RowKit
variable {I : World → Prop}
/-! ### the drawn region, on states written out -/
mutual
def cleanSV (ks : List Nat) : SV → Bool
  | .lp k _ => !ks.contains k
  | .fn _ caps => cleanL ks caps
  | .mv _ caps => cleanL ks caps
  | .sg caps => cleanL ks caps
  | .op _ sv => cleanSV ks sv
  | _ => true
def cleanL (ks : List Nat) : List SV → Bool
  | [] => true
  | sv :: r => cleanSV ks sv && cleanL ks r
end
mutual
theorem clean_kill {ks : List Nat} {d : Nat} (hd : d ∈ ks) : ∀ (sv : SV), cleanSV ks sv = true → kill [] [d] sv = sv
  | .d _, _ => rfl
  | .own _, _ => rfl
  | .oa _ _ _ _, _ => rfl
  | .junk, _ => rfl
  | .lp k off, h => by
    simp only [cleanSV, Bool.not_eq_true', List.contains_eq_mem, decide_eq_false_iff_not] at h
    have : k ≠ d := fun e => h (e ▸ hd)
    simp [kill, this]
  | .fn f caps, h => by simp only [cleanSV] at h; simp only [kill, clean_killL hd caps h]
  | .op cs sv, h => by simp only [cleanSV] at h; simp only [kill, clean_kill hd sv h]
  | .mv f caps, h => by simp only [cleanSV] at h; simp only [kill, clean_killL hd caps h]
  | .sg caps, h => by simp only [cleanSV] at h; simp only [kill, clean_killL hd caps h]
theorem clean_killL {ks : List Nat} {d : Nat} (hd : d ∈ ks) : ∀ (svs : List SV), cleanL ks svs = true → killL [] [d] svs = svs
  | [], _ => rfl
  | sv :: r, h => by simp only [cleanL, Bool.and_eq_true] at h; simp only [killL, clean_kill hd sv h.1, clean_killL hd r h.2]
end
mutual
theorem kill_clean {ks : List Nat} : ∀ (sv : SV), cleanSV ks (kill [] ks sv) = true
  | .d _ => rfl
  | .own k => by simp [kill, cleanSV]
  | .oa _ _ _ _ => by simp [kill, cleanSV]
  | .junk => rfl
  | .lp k off => by
    simp only [kill]
    split
    · rfl
    · rename_i h; simpa [cleanSV] using h
  | .fn f caps => by simp only [kill, cleanSV]; exact killL_clean caps
  | .op cs sv => by simp only [kill, cleanSV]; exact kill_clean sv
  | .mv f caps => by simp only [kill, cleanSV]; exact killL_clean caps
  | .sg caps => by simp only [kill, cleanSV]; exact killL_clean caps
theorem killL_clean {ks : List Nat} : ∀ (svs : List SV), cleanL ks (killL [] ks svs) = true
  | [] => rfl
  | sv :: r => by simp only [killL, cleanL, kill_clean sv, killL_clean r, Bool.and_self]
end
theorem killL_map_d (d : Nat) : ∀ (ds : List D), killL [] [d] (ds.map SV.d) = ds.map SV.d
  | [] => rfl
  | x :: r => by simp only [List.map_cons, killL, kill, killL_map_d d r]
theorem mapS_clean {ks : List Nat} {d : Nat} (hd : d ∈ ks) : ∀ (S : List (Nat × SV)), mapS [] [d] (mapS [] ks S) = mapS [] ks S
  | [] => rfl
  | (k, x) :: r => by simp only [mapS, clean_kill hd _ (kill_clean x), mapS_clean hd r]
theorem mapF_clean {ks : List Nat} {d : Nat} (hd : d ∈ ks) : ∀ (fz : List (Act × List (Nat × SV))), mapF [] [d] (mapF [] ks fz) = mapF [] ks fz
  | [] => rfl
  | (k, x) :: r => by simp only [mapF, mapS_clean hd, mapF_clean hd r]
theorem killF_clean {ks : List Nat} {d : Nat} (hd : d ∈ ks) (fz : List (Act × List (Nat × SV))) : killF [] [d] (mapF [] ks fz) = mapF [] ks fz := mapF_clean hd fz
def preL (ks : List Nat) (st : Stt) : Stt := ⟨st.N, st.df, killS ⟨.junk, [], [], [], ks⟩ st.S, delKs ks (killLs ⟨.junk, [], [], [], ks⟩ st.L), st.O, mapF [] ks st.fz, st.pin⟩
theorem Sat.pre {C : Ctx} {st : Stt} {a : Act} {w : World} (ks : List Nat) (h : Sat C st.sy a w) : Sat C (preL ks st).sy a w := by
  obtain ⟨E, hE⟩ := h
  have hkk : Keeps w E.Z w E.Z := ⟨fun _ h => h, fun _ _ => rfl⟩
  have hL : ∀ key T cs, (preL ks st).sy.L key = some (T, cs) → ∃ cs0, st.sy.L key = some (T, cs0) ∧ cs = killL [] ks cs0 := fun key T cs hk => by
    simp only [preL, Stt.sy, look_delKs, look_killLs] at hk
    split at hk
    · cases hk
    · show ∃ cs0, klook key st.L = _ ∧ _
      cases hx : klook key st.L with
      | none => simp [hx, killE] at hk
      | some x => obtain ⟨T', cs'⟩ := x; simp [hx, killE] at hk; obtain ⟨rfl, rfl⟩ := hk; exact ⟨cs', rfl, rfl⟩
  refine ⟨E, hE.sz, hE.df, fun t sv hs => ?_, ⟨hE.hp.bel, hE.hp.z, fun key T cs hk => ?_, fun key e hk => ?_, fun key key' e e' hk hk' heq => ?_, hE.hp.own, fun key e g hO hg => ?_, hE.hp.ownD⟩, fun b o hb => ?_, fun p hp t sv ht => ?_⟩
  · simp only [preL, Stt.sy, look_killS] at hs
    cases hx : klook t st.S with
    | none => simp [hx] at hs
    | some x =>
      simp [hx] at hs; subst hs
      obtain ⟨v, h1, h2⟩ := hE.slots t x hx
      exact ⟨v, h1, h2.kill hkk (fun _ _ => rfl) (fun _ _ => rfl)⟩
  · obtain ⟨cs0, h1, rfl⟩ := hL _ _ _ hk
    obtain ⟨vs, h2, h3⟩ := hE.hp.loc key T cs0 h1
    exact ⟨vs, h2, h3.kill hkk (fun _ _ => rfl) (fun _ _ => rfl)⟩
  · obtain ⟨T, cs⟩ := e; obtain ⟨cs0, h1, _⟩ := hL _ _ _ hk; exact hE.hp.locN key _ h1
  · obtain ⟨T, cs⟩ := e; obtain ⟨cs0, h1, _⟩ := hL _ _ _ hk
    obtain ⟨T', cs'⟩ := e'; obtain ⟨cs0', h1', _⟩ := hL _ _ _ hk'
    exact hE.hp.locD key key' _ _ h1 h1' heq
  · have := hE.hp.ownN key e g hO hg
    refine ⟨this.1, this.2.1, fun key' e' hk' => ?_⟩
    obtain ⟨T', cs'⟩ := e'; obtain ⟨cs0', h1', _⟩ := hL _ _ _ hk'
    exact this.2.2 key' _ h1'
  · obtain ⟨p1, p2, p3, p4, p5⟩ := hE.pins b o hb
    refine ⟨p1, p2, p3, fun key e he => ?_, p5⟩
    obtain ⟨T, cs⟩ := e
    obtain ⟨cs0, h1, _⟩ := hL _ _ _ he
    exact p4 key _ h1
  · obtain ⟨S, h1, h2⟩ := mem_mapF hp
    rw [h2, look_mapS] at ht
    cases hx : klook t S with
    | none => simp [hx] at ht
    | some x =>
      simp [hx] at ht; subst ht
      obtain ⟨v, h3, h4⟩ := hE.waits _ h1 t x hx
      exact ⟨v, h3, h4.kill hkk (fun _ _ => rfl) (fun _ _ => rfl)⟩
def putS (d : Option Tmp) (sv : SV) (S : List (Nat × SV)) : List (Nat × SV) := match d with | some d => (d, sv) :: S | none => S
theorem look_putS (d : Option Tmp) (sv : SV) (S : List (Nat × SV)) (t : Nat) : klook t (putS d sv S) = if d = some t then some sv else klook t S := by
  cases d with
  | none => simp [putS]
  | some d =>
    simp only [putS, klook, Option.some.injEq]
    by_cases h : t = d
    · subst h; simp
    · simp [h, Ne.symm h]
/-- keys of boxes that the forced tail leaves alone: told as numbers from 100000 on -/
def kpF (lates : List Nat) (key : Nat) : Bool := lates.contains (key + 100000)
def keepL (lates : List Nat) : List (Nat × TypeId × List SV) → List (Nat × TypeId × List SV)
  | [] => []
  | (k, x) :: r => bif lates.contains (k + 100000) then (k, x) :: keepL lates r else keepL lates r
theorem look_keepL (lates : List Nat) (key : Nat) : ∀ l : List (Nat × TypeId × List SV), klook key (keepL lates l) = if kpF lates key = true then klook key l else none
  | [] => by simp [keepL, klook]
  | (k, x) :: r => by
    have ih := look_keepL lates key r
    simp only [keepL]
    by_cases hk : key = k
    · subst hk
      cases hc : lates.contains (key + 100000) with
      | true =>
        have : kpF lates key = true := hc
        simp [klook, this]
      | false => simp only [cond_false]; rw [ih]; simp only [kpF, hc]; simp
    · cases hc : lates.contains (k + 100000) with
      | true => simp only [cond_true, klook, if_neg hk]; exact ih
      | false => simp only [cond_false, klook, if_neg hk]; exact ih
def nlOk (lates : List Nat) : List (Nat × TypeId × List SV) → Bool
  | [] => true
  | (k, _) :: r => !lates.contains (k + 100000) && nlOk lates r
theorem nlOk_spec {lates : List Nat} : ∀ {l : List (Nat × TypeId × List SV)}, nlOk lates l = true → ∀ key, kpF lates key = true → klook key l = none
  | [], _, _, _ => rfl
  | (k, x) :: r, h, key, hk => by
    simp only [nlOk, Bool.and_eq_true, Bool.not_eq_true'] at h
    simp only [klook]
    rw [if_neg (fun e => by subst e; unfold kpF at hk; rw [h.1] at hk; cases hk)]
    exact nlOk_spec h.2 key hk
/-- the state as one of the first operations sees it -/
def baseL (b : Stt) (lt : Bool) (lates : List Nat) (S : List (Nat × SV)) : Stt := ⟨b.N, b.df, S, (match lt with | true => keepL lates b.L | false => b.L), (match lt with | true => [] | false => b.O), b.fz, b.pin⟩
theorem baseL_sy (b : Stt) (lt : Bool) (lates : List Nat) (S : List (Nat × SV)) : (baseL b lt lates S).sy = ⟨b.sy.N, b.sy.df, fun t => klook t S, (if lt = true then fun key => if kpF lates key = true then b.sy.L key else none else b.sy.L), (if lt = true then fun _ => none else b.sy.O), b.sy.fz, b.sy.pin⟩ := by
  cases lt
  · rfl
  · unfold baseL Stt.sy
    simp only [if_true, look_keepL]
    rfl
theorem Sat.less {C : Ctx} {s s' : Sy} {a : Act} {w : World} (hN : s'.N = s.N) (hdf : s'.df = s.df) (hS : ∀ t sv, s'.S t = some sv → s.S t = some sv) (hL : ∀ t e, s'.L t = some e → s.L t = some e) (hO : ∀ t e, s'.O t = some e → s.O t = some e) (hfz : s'.fz = s.fz) (hpin : s'.pin = s.pin) (h : Sat C s a w) : Sat C s' a w := by
  obtain ⟨E, hE⟩ := h
  exact ⟨E, hE.sz.trans hN.symm, hE.df.trans hdf.symm, fun t sv hs => hE.slots t sv (hS t sv hs), ⟨hE.hp.bel, hE.hp.z, fun key T cs hk => hE.hp.loc key T cs (hL _ _ hk), fun key e hk => hE.hp.locN key e (hL _ _ hk),
    fun key key' e e' hk hk' heq => hE.hp.locD key key' e e' (hL _ _ hk) (hL _ _ hk') heq, fun key e hk => hE.hp.own key e (hO _ _ hk), fun key e g hk hg => let h := hE.hp.ownN key e g (hO _ _ hk) hg; ⟨h.1, h.2.1, fun key' e' hk' => h.2.2 key' e' (hL _ _ hk')⟩,
    fun key key' e e' g hk hk' => hE.hp.ownD key key' e e' g (hO _ _ hk) (hO _ _ hk')⟩, fun b o hb => (by
      rw [hpin] at hb
      obtain ⟨p1, p2, p3, p4, p5⟩ := hE.pins b o hb
      exact ⟨p1, p2, p3, fun key e he => p4 key e (hL _ _ he), fun key e he => p5 key e (hO _ _ he)⟩), by rw [hfz]; exact hE.waits⟩
/-- the first operations of a drawn region, in the order of the text -/
def SemD (P : Program) (C : Ctx) (te : TE) (ks lates : List Nat) (b : Stt) : Nat → List (Option Tmp) → List Oper → List (Nat × SV) → List (Nat × TypeId × List SV) → (List (Nat × SV) → List (Nat × TypeId × List SV) → List (Option Tmp) → Prop) → Prop
  | _, ds, [], S, bs, Q => Q S bs ds
  | i, ds, o :: r, S, bs, Q =>
    if isAlloc o = true then
      match o.op, o.dst with
      | .alloc t, some d => match klook t te with
        | some ty => (d < b.N ∧ d < 900) ∧ SemD P C te ks lates b (i + 1) (o.dst :: ds) r (putS (some d) (.lp d 0) S) ((d, t, ty.zero.map SV.d) :: bs) Q
        | none => False
      | _, _ => False
    else ∃ sv, Ok2I P C i ds o (baseL b (lates.contains i) lates S).sy ⟨sv, [], [], [], []⟩ ∧ cleanSV ks sv = true ∧ SemD P C te ks lates b (i + 1) (o.dst :: ds) r (putS o.dst sv S) bs Q
/-- what only makes a value -/
def pureR : Option (Res × Prop) → Option (SV × Prop)
  | some (⟨sv, [], [], [], []⟩, ob) => some (sv, ob)
  | _ => none
theorem pureR_some {x : Option (Res × Prop)} {sv : SV} {ob : Prop} (h : pureR x = some (sv, ob)) : x = some (⟨sv, [], [], [], []⟩, ob) := by
  unfold pureR at h
  split at h
  · cases h; rfl
  · cases h
abbrev QD := List (Nat × SV) → List (Nat × TypeId × List SV) → List (Option Tmp) → Prop
/-- what is to be done with an operation: nothing is known; a box; a value -/
inductive Pend where
  | stop
  | box (d : Nat) (t : TypeId) (cs : List SV)
  | val (sv : SV) (ob : Prop)
/-- a slice literal that is read alone -/
def bsD (te : TE) (N : Nat) (S : List (Nat × SV)) (o : Oper) : Option (SV × Prop) := match o.op with
  | .buildSlice t len parts => match o.dst, klook t te with
    | some _, some i => match i.u with
      | .slice e => match klook e te, partsD (fun t => klook t S) parts.toList with
        | some j, some ps => match fillS (fun i => some (i * j.size, j.size)) (repD j.zero len) ps with
          | some out => if j.zero.length = j.size ∧ len * j.size ≤ 16777216 ∧ out.length = len * j.size ∧ lfR out = true ∧ dstOk o N = true then some (.d (.sl j.size len len (lstR (chunk j.size len out))), len ≤ 140737488355328) else none
          | none => none
        | _, _ => none
      | _ => none
    | _, _ => none
  | _ => none
theorem bsD_ok {P : Program} {C : Ctx} {te : TE} (hte : TEok P te) {s : Sy} {S : List (Nat × SV)} (hS : s.S = fun t => klook t S) {o : Oper} {sv : SV} {ob : Prop} (h : bsD te s.N S o = some (sv, ob)) (hob : ob) : Ok1 P C o s ⟨sv, [], [], [], []⟩ := by
  unfold bsD at h
  split at h
  · rename_i t len parts hop
    split at h
    · rename_i d i hd hi
      split at h
      · rename_i e hu
        split at h
        · rename_i j ps hj hps
          split at h
          · rename_i out hf
            split at h
            · rename_i hc; cases h
              exact ok_buildSliceD hop hd (dstOk_spec hc.2.2.2.2 d hd) (hte _ _ hi) hu (hte _ _ hj) hc.1 hc.2.1 hob (by rw [hS]; exact hps) hf hc.2.2.1 hc.2.2.2.1
            · cases h
          · cases h
        · cases h
      · cases h
    · cases h
  · cases h
def pendD (te : TE) (lates : List Nat) (b : Stt) (i : Nat) (ds : List (Option Tmp)) (S : List (Nat × SV)) (o : Oper) : Pend :=
  if isAlloc o = true then
    match o.op, o.dst with
    | .alloc t, some d => match klook t te with
      | some ty => .box d t (ty.zero.map SV.d)
      | none => .stop
    | _, _ => .stop
  else match pureR (step2 te i ds (baseL b (lates.contains i) lates S) o) with
    | some (sv, ob) => .val sv ob
    | none => match bsD te b.N S o with
      | some (sv, ob) => match wantR i ds S o with
        | some true => .val sv ob
        | _ => .stop
      | none => .stop
/-- the same, by the table of steps -/
def runDX (P : Program) (C : Ctx) (te : TE) (ks lates : List Nat) (b : Stt) : List Oper → Nat → List (Option Tmp) → Pend → Oper → List (Nat × SV) → List (Nat × TypeId × List SV) → QD → Prop
  | [], i, ds, x, o, S, bs, Q => match x with
    | .stop => SemD P C te ks lates b i ds [o] S bs Q
    | .box d t cs => (d < b.N ∧ d < 900) ∧ Q (putS (some d) (.lp d 0) S) ((d, t, cs) :: bs) (o.dst :: ds)
    | .val sv ob => ob ∧ cleanSV ks sv = true ∧ Q (putS o.dst sv S) bs (o.dst :: ds)
  | o' :: r, i, ds, x, o, S, bs, Q => match x with
    | .stop => SemD P C te ks lates b i ds (o :: o' :: r) S bs Q
    | .box d t cs => (d < b.N ∧ d < 900) ∧ runDX P C te ks lates b r (i + 1) (o.dst :: ds) (pendD te lates b (i + 1) (o.dst :: ds) (putS (some d) (.lp d 0) S) o') o' (putS (some d) (.lp d 0) S) ((d, t, cs) :: bs) Q
    | .val sv ob => ob ∧ cleanSV ks sv = true ∧ runDX P C te ks lates b r (i + 1) (o.dst :: ds) (pendD te lates b (i + 1) (o.dst :: ds) (putS o.dst sv S) o') o' (putS o.dst sv S) bs Q
def runD (P : Program) (C : Ctx) (te : TE) (ks lates : List Nat) (b : Stt) (i : Nat) (ds : List (Option Tmp)) (l : List Oper) (S : List (Nat × SV)) (bs : List (Nat × TypeId × List SV)) (Q : QD) : Prop := match l with
  | [] => Q S bs ds
  | o :: r => runDX P C te ks lates b r i ds (pendD te lates b i ds S o) o S bs Q
section
variable {P : Program} {C : Ctx} {te : TE} {ks lates : List Nat} {b : Stt} {i : Nat} {ds : List (Option Tmp)} {o o' : Oper} {r : List Oper} {S : List (Nat × SV)} {bs : List (Nat × TypeId × List SV)} {Q : QD}
theorem runD_nil : runD P C te ks lates b i ds [] S bs Q = Q S bs ds := rfl
theorem runD_cons : runD P C te ks lates b i ds (o :: r) S bs Q = runDX P C te ks lates b r i ds (pendD te lates b i ds S o) o S bs Q := rfl
theorem runDX_stop : runDX P C te ks lates b r i ds .stop o S bs Q = SemD P C te ks lates b i ds (o :: r) S bs Q := by cases r <;> rfl
theorem runDX_nil_box {d t cs} : runDX P C te ks lates b [] i ds (.box d t cs) o S bs Q = ((d < b.N ∧ d < 900) ∧ Q (putS (some d) (.lp d 0) S) ((d, t, cs) :: bs) (o.dst :: ds)) := rfl
theorem runDX_nil_val {sv ob} : runDX P C te ks lates b [] i ds (.val sv ob) o S bs Q = (ob ∧ cleanSV ks sv = true ∧ Q (putS o.dst sv S) bs (o.dst :: ds)) := rfl
theorem runDX_cons_box {d t cs} : runDX P C te ks lates b (o' :: r) i ds (.box d t cs) o S bs Q = ((d < b.N ∧ d < 900) ∧ runDX P C te ks lates b r (i + 1) (o.dst :: ds) (pendD te lates b (i + 1) (o.dst :: ds) (putS (some d) (.lp d 0) S) o') o' (putS (some d) (.lp d 0) S) ((d, t, cs) :: bs) Q) := rfl
theorem runDX_cons_val {sv ob} : runDX P C te ks lates b (o' :: r) i ds (.val sv ob) o S bs Q = (ob ∧ cleanSV ks sv = true ∧ runDX P C te ks lates b r (i + 1) (o.dst :: ds) (pendD te lates b (i + 1) (o.dst :: ds) (putS o.dst sv S) o') o' (putS o.dst sv S) bs Q) := rfl
theorem runDX_box {d t cs} : runDX P C te ks lates b r i ds (.box d t cs) o S bs Q = ((d < b.N ∧ d < 900) ∧ runD P C te ks lates b (i + 1) (o.dst :: ds) r (putS (some d) (.lp d 0) S) ((d, t, cs) :: bs) Q) := by cases r <;> rfl
theorem runDX_val {sv ob} : runDX P C te ks lates b r i ds (.val sv ob) o S bs Q = (ob ∧ cleanSV ks sv = true ∧ runD P C te ks lates b (i + 1) (o.dst :: ds) r (putS o.dst sv S) bs Q) := by cases r <;> rfl
end
theorem runD_sem {P : Program} {C : Ctx} {te : TE} (hte : TEok P te) {ks lates : List Nat} {b : Stt} {Q : QD} : ∀ {l : List Oper} {i : Nat} {ds : List (Option Tmp)} {S : List (Nat × SV)} {bs : List (Nat × TypeId × List SV)},
    runD P C te ks lates b i ds l S bs Q → SemD P C te ks lates b i ds l S bs Q
  | [], _, _, _, _, h => h
  | o :: r, i, ds, S, bs, h => by
    rw [runD_cons] at h
    by_cases ha : isAlloc o = true
    · have haa := ha
      unfold isAlloc at haa
      split at haa
      · rename_i t hop hg
        cases hd : o.dst with
        | none =>
          have hp : pendD te lates b i ds S o = .stop := by simp only [pendD, ha, if_true, hop, hd]
          rw [hp, runDX_stop] at h; exact h
        | some d =>
          cases hty : klook t te with
          | none =>
            have hp : pendD te lates b i ds S o = .stop := by simp only [pendD, ha, if_true, hop, hd, hty]
            rw [hp, runDX_stop] at h; exact h
          | some ty =>
            have hp : pendD te lates b i ds S o = .box d t (ty.zero.map SV.d) := by simp only [pendD, ha, if_true, hop, hd, hty]
            rw [hp, runDX_box] at h
            unfold SemD
            rw [if_pos ha]
            simp only [hop, hd, hty]
            rw [hd] at h
            exact ⟨h.1, runD_sem hte h.2⟩
      · cases haa
    · unfold pendD at h
      rw [if_neg ha] at h
      cases hx : pureR (step2 te i ds (baseL b (lates.contains i) lates S) o) with
      | none =>
        rw [hx] at h
        simp only at h
        cases hy : bsD te b.N S o with
        | none => rw [hy] at h; simp only [runDX_stop] at h; exact h
        | some y =>
          obtain ⟨sv, ob⟩ := y
          rw [hy] at h
          simp only at h
          split at h
          · rename_i hw
            rw [runDX_val] at h
            unfold SemD
            rw [if_neg ha]
            exact ⟨sv, fun ops hi => ok2_run (bsD_ok hte (s := (baseL b (lates.contains i) lates S).sy) rfl hy h.1) (wantR_spec hi hw), h.2.1, runD_sem hte h.2.2⟩
          · rw [runDX_stop] at h; exact h
      | some x =>
        obtain ⟨sv, ob⟩ := x
        rw [hx, runDX_val] at h
        unfold SemD
        rw [if_neg ha]
        exact ⟨sv, step2_ok hte (pureR_some hx) h.1, h.2.1, runD_sem hte h.2.2⟩
theorem SemD.mono {P : Program} {C : Ctx} {te : TE} {ks lates : List Nat} {b : Stt} {Q Q' : QD} (hq : ∀ S bs ds, Q S bs ds → Q' S bs ds) : ∀ {l : List Oper} {i : Nat} {ds : List (Option Tmp)} {S : List (Nat × SV)} {bs : List (Nat × TypeId × List SV)}, SemD P C te ks lates b i ds l S bs Q → SemD P C te ks lates b i ds l S bs Q'
  | [], _, _, _, _, h => hq _ _ _ h
  | o :: r, i, ds, S, bs, h => by
    unfold SemD at h ⊢
    split at h
    · rename_i ha
      rw [if_pos ha]
      split at h
      · rename_i t d h1 h2
        split at h
        · exact ⟨h.1, SemD.mono hq h.2⟩
        · exact h.elim
      · exact h.elim
    · rename_i ha
      rw [if_neg ha]
      obtain ⟨sv, h1, h2, h3⟩ := h
      exact ⟨sv, h1, h2, SemD.mono hq h3⟩
theorem semD_step {P : Program} {C : Ctx} {te : TE} {ks lates : List Nat} {b : Stt} {i : Nat} {ds : List (Option Tmp)} {r : List Oper} {o : Oper} {S : List (Nat × SV)} {bs : List (Nat × TypeId × List SV)} {Q : List (Nat × SV) → List (Nat × TypeId × List SV) → List (Option Tmp) → Prop}
    (ha : isAlloc o = false) {sv : SV} (h : Ok2I P C i ds o (baseL b (lates.contains i) lates S).sy ⟨sv, [], [], [], []⟩) (hc : cleanSV ks sv = true) (hr : SemD P C te ks lates b (i + 1) (o.dst :: ds) r (putS o.dst sv S) bs Q) : SemD P C te ks lates b i ds (o :: r) S bs Q := by
  unfold SemD
  rw [if_neg (by simp [ha])]
  exact ⟨sv, h, hc, hr⟩
theorem baseL_S (b : Stt) (lt : Bool) (lates : List Nat) (S : List (Nat × SV)) : (baseL b lt lates S).S = S := rfl
theorem kdcall {P : Program} {C : Ctx} {te : TE} (hI : ∀ w, BelM C w → I w) (hte : TEok P te) {ks lates : List Nat} {b : Stt} {i : Nat} {ds : List (Option Tmp)} {r : List Oper} {o : Oper} {S : List (Nat × SV)} {bs : List (Nat × TypeId × List SV)} {Q : List (Nat × SV) → List (Nat × TypeId × List SV) → List (Option Tmp) → Prop}
    (hg : o.guard = none) (hd : dstOk o b.N = true) {f : Operand} {args : Array Operand} {ts : Array TypeId} {g : FuncId} {caps xs all : List D} {res : D}
    (ho : o.op = .call { callee := .value f, args := args, argTypes := ts }) (hf : evalO (fun t => klook t S) f = some (.d (.fn g caps))) (hargs : argsD (fun t => klook t S) args.toList = some xs) (hall : xs ++ caps = all)
    (h : FnOK I P g all res) (hr : runD P C te ks lates b (i + 1) (o.dst :: ds) r (putS o.dst (.d res) S) bs Q) : SemD P C te ks lates b i ds (o :: r) S bs Q := by
  subst hall
  exact semD_step (by simp [isAlloc, ho]) (ok2_call hI (st := baseL b (lates.contains i) lates S) hg hd ho hf hargs h) rfl (runD_sem hte hr)
theorem kdcallG {P : Program} {C : Ctx} {te : TE} (hI : ∀ w, BelM C w → I w) (hte : TEok P te) {ks lates : List Nat} {b : Stt} {i : Nat} {ds : List (Option Tmp)} {r : List Oper} {o : Oper} {S : List (Nat × SV)} {bs : List (Nat × TypeId × List SV)} {Q : List (Nat × SV) → List (Nat × TypeId × List SV) → List (Option Tmp) → Prop}
    {q : Bool} (hw : wantR i ds S o = some q) (hd : dstOk o b.N = true) {f : Operand} {args : Array Operand} {ts : Array TypeId} {g : FuncId} {caps xs all : List D} {res : D}
    (ho : o.op = .call { callee := .value f, args := args, argTypes := ts }) (hf : evalO (fun t => (klook t S).map unop) f = some (.d (.fn g caps))) (hargs : argsD (fun t => (klook t S).map unop) args.toList = some xs) (hall : xs ++ caps = all)
    (hc : q = true → cndsS S (opTmps o.op.operands.toList)) (h : q = true → FnOK I P g all res) (hr : runD P C te ks lates b (i + 1) (o.dst :: ds) r (putS o.dst (.op q (.d res)) S) bs Q) : SemD P C te ks lates b i ds (o :: r) S bs Q := by
  subst hall
  exact semD_step (by simp [isAlloc, ho]) (ok2_callG hI (st := baseL b (lates.contains i) lates S) hw hd ho hf hargs hc h) rfl (runD_sem hte hr)
def ksOk (ops : Array Oper) (n : Nat) (ks : List Nat) : Bool := (List.range n).all fun i => !allocAt ops i || (match dstAt ops i with | some d => ks.contains d | none => false)
def WalkTI (P : Program) (C : Ctx) (ops : Array Oper) (lt : Nat → Bool) (kl : List Nat) (i : Nat) (ds : List (Option Tmp)) (l : List Oper) (s : Sy) (Q : Sy → Prop) : Prop := GInv ops i ds → l = ops.toList.drop i → WalkT P C ops lt (kpF kl) i l s Q
def runTX (P : Program) (C : Ctx) (te : TE) (ops : Array Oper) (lt : Nat → Bool) (kl : List Nat) : List Oper → Nat → List (Option Tmp) → Option (Res × Prop) → Oper → Stt → (Sy → Prop) → Prop
  | [], i, ds, x, o, st, Q => match x with
    | some (res, ob) => ob ∧ (lt (i + 1) && !(res.dl.isEmpty && res.dk.isEmpty && nlOk kl res.nl)) = false ∧ Q (applyL o.dst res st).sy
    | none => WalkTI P C ops lt kl i ds [o] st.sy Q
  | o' :: r, i, ds, x, o, st, Q => match x with
    | some (res, ob) => ob ∧ (lt (i + 1) && !(res.dl.isEmpty && res.dk.isEmpty && nlOk kl res.nl)) = false ∧ runTX P C te ops lt kl r (i + 1) (o.dst :: ds) (step2 te (i + 1) (o.dst :: ds) (applyL o.dst res st) o') o' (applyL o.dst res st) Q
    | none => WalkTI P C ops lt kl i ds (o :: o' :: r) st.sy Q
def runT (P : Program) (C : Ctx) (te : TE) (ops : Array Oper) (lt : Nat → Bool) (kl : List Nat) (i : Nat) (ds : List (Option Tmp)) (l : List Oper) (st : Stt) (Q : Sy → Prop) : Prop := match l with
  | [] => Q st.sy
  | o :: r => runTX P C te ops lt kl r i ds (step2 te i ds st o) o st Q
section
variable {P : Program} {C : Ctx} {te : TE} {ops : Array Oper} {lt : Nat → Bool} {kl : List Nat} {i : Nat} {ds : List (Option Tmp)} {o o' : Oper} {r : List Oper} {st : Stt} {Q : Sy → Prop}
theorem runT_nil : runT P C te ops lt kl i ds [] st Q = Q st.sy := rfl
theorem runT_cons : runT P C te ops lt kl i ds (o :: r) st Q = runTX P C te ops lt kl r i ds (step2 te i ds st o) o st Q := rfl
theorem runTX_none : runTX P C te ops lt kl r i ds none o st Q = WalkTI P C ops lt kl i ds (o :: r) st.sy Q := by cases r <;> rfl
theorem runTX_nil {res : Res} {ob : Prop} : runTX P C te ops lt kl [] i ds (some (res, ob)) o st Q = (ob ∧ (lt (i + 1) && !(res.dl.isEmpty && res.dk.isEmpty && nlOk kl res.nl)) = false ∧ Q (applyL o.dst res st).sy) := rfl
theorem runTX_cons {res : Res} {ob : Prop} : runTX P C te ops lt kl (o' :: r) i ds (some (res, ob)) o st Q = (ob ∧ (lt (i + 1) && !(res.dl.isEmpty && res.dk.isEmpty && nlOk kl res.nl)) = false ∧ runTX P C te ops lt kl r (i + 1) (o.dst :: ds) (step2 te (i + 1) (o.dst :: ds) (applyL o.dst res st) o') o' (applyL o.dst res st) Q) := rfl
theorem runTX_some {res : Res} {ob : Prop} : runTX P C te ops lt kl r i ds (some (res, ob)) o st Q = (ob ∧ (lt (i + 1) && !(res.dl.isEmpty && res.dk.isEmpty && nlOk kl res.nl)) = false ∧ runT P C te ops lt kl (i + 1) (o.dst :: ds) r (applyL o.dst res st) Q) := by cases r <;> rfl
end
theorem walkTI_step {P : Program} {C : Ctx} {ops : Array Oper} {lt : Nat → Bool} {kl : List Nat} {i : Nat} {ds : List (Option Tmp)} {o : Oper} {r : List Oper} {st : Stt} {Q : Sy → Prop} {res : Res} (h : Ok2I P C i ds o st.sy res) (hl : (lt (i + 1) && !(res.dl.isEmpty && res.dk.isEmpty && nlOk kl res.nl)) = false)
    (hr : WalkTI P C ops lt kl (i + 1) (o.dst :: ds) r (applyL o.dst res st).sy Q) : WalkTI P C ops lt kl i ds (o :: r) st.sy Q := fun hi hd => by
  obtain ⟨ho, hr'⟩ := drop_cons hd
  refine ⟨res, h ops hi, fun hlt => ?_, ?_⟩
  · simp [hlt] at hl; exact ⟨hl.1.1, hl.1.2, nlOk_spec hl.2⟩
  · rw [← applyL_sy]
    exact hr (hi.cons ho) hr'
theorem runT_walk {P : Program} {C : Ctx} {te : TE} (hte : TEok P te) {ops : Array Oper} {lt : Nat → Bool} {kl : List Nat} : ∀ {l : List Oper} {i : Nat} {ds : List (Option Tmp)} {st : Stt} {Q : Sy → Prop}, runT P C te ops lt kl i ds l st Q → WalkTI P C ops lt kl i ds l st.sy Q
  | [], _, _, _, _, h => fun _ _ => h
  | o :: r, i, ds, st, Q, h => by
    rw [runT_cons] at h
    cases hx : step2 te i ds st o with
    | none => rw [hx, runTX_none] at h; exact h
    | some x =>
      obtain ⟨res, ob⟩ := x
      rw [hx, runTX_some] at h
      exact walkTI_step (step2_ok hte hx h.1) h.2.1 (runT_walk hte h.2.2)
theorem ktcall {P : Program} {C : Ctx} {te : TE} (hI : ∀ w, BelM C w → I w) (hte : TEok P te) {ops : Array Oper} {lt : Nat → Bool} {kl : List Nat} {i : Nat} {ds : List (Option Tmp)} {r : List Oper} {o : Oper} {st : Stt} {Q : Sy → Prop}
    (hg : o.guard = none) (hd : dstOk o st.N = true) {f : Operand} {args : Array Operand} {ts : Array TypeId} {g : FuncId} {caps xs all : List D} {res : D}
    (ho : o.op = .call { callee := .value f, args := args, argTypes := ts }) (hf : evalO (fun t => klook t st.S) f = some (.d (.fn g caps))) (hargs : argsD (fun t => klook t st.S) args.toList = some xs) (hall : xs ++ caps = all)
    (h : FnOK I P g all res) (hr : runT P C te ops lt kl (i + 1) (o.dst :: ds) r (applyL o.dst ⟨.d res, [], [], [], []⟩ st) Q) : WalkTI P C ops lt kl i ds (o :: r) st.sy Q := by
  subst hall
  exact walkTI_step (ok2_call hI hg hd ho hf hargs h) (by simp [nlOk]) (runT_walk hte hr)
section
variable {P : Program} {C : Ctx} {te : TE} {ops : Array Oper} {ks lates : List Nat} {b : Stt} {f n : Nat}
def EntOk (ks : List Nat) (o : Oper) (e : En) : Prop :=
  if isAlloc o = true then ∃ d T ds, o.dst = some d ∧ e = ⟨.lp d 0, some (T, List.map SV.d ds)⟩ else e.bx = none ∧ cleanSV ks e.sv = true
structure BxC (ops : Array Oper) (es : List En) (bs : List (Nat × TypeId × List SV)) (j : Nat) : Prop where
  at' : ∀ i e key, i < j → dstAt ops i = some key → allocAt ops i = true → es[i]? = some e → klook key bs = e.bx
  not' : ∀ key, (¬ ∃ i, i < j ∧ dstAt ops i = some key ∧ allocAt ops i = true) → klook key bs = none
theorem Char.ext {es es' : List En} {s0 : Sy} {j : Nat} {S : FS} (h : Char ops es s0 j S) (he : ∀ i, i < j → es'[i]? = es[i]?) : Char ops es' s0 j S :=
  ⟨fun i e t hi hd he' => h.at' i e t hi hd (by rw [← he i hi]; exact he'), h.not'⟩
theorem BxC.ext {es es' : List En} {bs : List (Nat × TypeId × List SV)} {j : Nat} (h : BxC ops es bs j) (he : ∀ i, i < j → es'[i]? = es[i]?) : BxC ops es' bs j :=
  ⟨fun i e t hi hd ha he' => h.at' i e t hi hd ha (by rw [← he i hi]; exact he'), h.not'⟩
theorem Char.step {late : Nat → Bool} (hck : Checked ops f n late) {es : List En} {s0 : Sy} {S : List (Nat × SV)} {o : Oper} {e : En} (ho : ops[es.length]? = some o) (h : Char ops es s0 es.length (fun t => klook t S)) :
    Char ops (es ++ [e]) s0 (es.length + 1) (fun t => klook t (putS o.dst e.sv S)) := by
  constructor
  · intro i e' t hi hd he
    simp only [look_putS]
    by_cases hij : i = es.length
    · subst hij
      simp at he; subst he
      obtain ⟨o', h1, h2⟩ := dstAt_some hd
      rw [ho] at h1; cases h1
      rw [if_pos h2]
    · have hil : i < es.length := by omega
      rw [List.getElem?_append_left hil] at he
      rw [if_neg (fun hdt => hij (dstAt_uniq hck hd (dstAt_of ho hdt)))]
      exact h.at' i e' t hil hd he
  · intro t ht
    simp only [look_putS]
    rw [if_neg (fun hdt => ht ⟨es.length, by omega, dstAt_of ho hdt⟩)]
    exact h.not' t (fun ⟨i, h1, h2⟩ => ht ⟨i, by omega, h2⟩)
theorem BxC.step {es : List En} {bs : List (Nat × TypeId × List SV)} {o : Oper} {e : En} (ho : ops[es.length]? = some o) (h : BxC ops es bs es.length) (ha : isAlloc o = false) :
    BxC ops (es ++ [e]) bs (es.length + 1) := by
  constructor
  · intro i e' t hi hd hal he
    by_cases hij : i = es.length
    · subst hij; simp [allocAt, ho, ha] at hal
    · have hil : i < es.length := by omega
      rw [List.getElem?_append_left hil] at he
      exact h.at' i e' t hil hd hal he
  · intro t ht
    exact h.not' t (fun ⟨i, h1, h2⟩ => ht ⟨i, by omega, h2⟩)
theorem BxC.stepA {late : Nat → Bool} (hck : Checked ops f n late) {es : List En} {bs : List (Nat × TypeId × List SV)} {o : Oper} {d : Nat} {sv : SV} {x : TypeId × List SV} (ho : ops[es.length]? = some o) (h : BxC ops es bs es.length) (hd : o.dst = some d) :
    BxC ops (es ++ [⟨sv, some x⟩]) ((d, x) :: bs) (es.length + 1) ∨ isAlloc o = false := by
  by_cases ha : isAlloc o = true
  · left
    constructor
    · intro i e' t hi hdi hal he
      simp only [klook]
      by_cases hij : i = es.length
      · subst hij
        simp at he; subst he
        obtain ⟨o', h1, h2⟩ := dstAt_some hdi
        rw [ho] at h1; cases h1
        rw [hd] at h2; cases h2
        simp
      · have hil : i < es.length := by omega
        rw [List.getElem?_append_left hil] at he
        rw [if_neg (fun htd => hij (dstAt_uniq hck hdi (dstAt_of ho (by rw [hd, htd]))))]
        exact h.at' i e' t hil hdi hal he
    · intro t ht
      simp only [klook]
      rw [if_neg (fun htd => ht ⟨es.length, by omega, dstAt_of ho (by rw [hd, htd]), by simp [allocAt, ho, ha]⟩)]
      exact h.not' t (fun ⟨i, h1, h2⟩ => ht ⟨i, by omega, h2⟩)
  · right; simpa using ha
theorem runD_spec (hte : TEok P te) (hck : Checked ops f n (fun i => lates.contains i)) {Q : List (Nat × SV) → List (Nat × TypeId × List SV) → List (Option Tmp) → Prop} :
    ∀ (l : List Oper) (es : List En) (rev : List (Option Tmp)) (S : List (Nat × SV)) (bs : List (Nat × TypeId × List SV)), GInv ops es.length rev → l = (ops.toList.take n).drop es.length → es.length ≤ n → Char ops es b.sy es.length (fun t => klook t S) → BxC ops es bs es.length →
    SemD P C te ks lates b es.length rev l S bs Q →
    ∃ (es1 : List En) (S' : List (Nat × SV)) (bs' : List (Nat × TypeId × List SV)) (rev' : List (Option Tmp)), GInv ops n rev' ∧ (es ++ es1).length = n ∧
      (∀ j o e, es.length ≤ j → j < n → ops[j]? = some o → (es ++ es1)[j]? = some e → GoodAt P C ops (fun i => lates.contains i) (kpF lates) (es ++ es1) b.sy j o e ∧ EntOk ks o e) ∧
      Char ops (es ++ es1) b.sy n (fun t => klook t S') ∧ BxC ops (es ++ es1) bs' n ∧ Q S' bs' rev'
  | [], es, rev, S, bs, hv, hl, hle, hS, hB, h => by
    have hlen : es.length = n := by
      have := congrArg List.length hl
      simp [Nat.min_eq_left hck.le] at this
      omega
    refine ⟨[], S, bs, rev, hlen ▸ hv, by simpa using hlen, fun j o e h1 h2 => by omega, ?_, ?_, by simpa [SemD] using h⟩
    · rw [List.append_nil, ← hlen]; exact hS
    · rw [List.append_nil, ← hlen]; exact hB
  | o :: r, es, rev, S, bs, hv, hl, hle, hS, hB, h => by
    have hlt : es.length < n := by
      have := congrArg List.length hl
      simp [Nat.min_eq_left hck.le] at this
      omega
    have hget : (ops.toList.take n)[es.length]? = some o := by
      have h1 : ((ops.toList.take n).drop es.length)[0]? = some o := by rw [← hl]; rfl
      simpa using h1
    have ho : ops[es.length]? = some o := (get_take hget).2
    have hr : ∀ e : En, r = (ops.toList.take n).drop (es ++ [e]).length := fun e => by
      rw [List.length_append, List.length_singleton, ← List.drop_drop, ← hl]; rfl
    have hfin : ∀ (e : En) (bs1 : List (Nat × TypeId × List SV)), BxC ops (es ++ [e]) bs1 (es ++ [e]).length → EntOk ks o e → (∀ es1 : List En, GoodAt P C ops (fun i => lates.contains i) (kpF lates) (es ++ e :: es1) b.sy es.length o e) →
        SemD P C te ks lates b (es.length + 1) (o.dst :: rev) r (putS o.dst e.sv S) bs1 Q →
        ∃ (es1 : List En) (S' : List (Nat × SV)) (bs' : List (Nat × TypeId × List SV)) (rev' : List (Option Tmp)), GInv ops n rev' ∧ (es ++ es1).length = n ∧
          (∀ j o e, es.length ≤ j → j < n → ops[j]? = some o → (es ++ es1)[j]? = some e → GoodAt P C ops (fun i => lates.contains i) (kpF lates) (es ++ es1) b.sy j o e ∧ EntOk ks o e) ∧
          Char ops (es ++ es1) b.sy n (fun t => klook t S') ∧ BxC ops (es ++ es1) bs' n ∧ Q S' bs' rev' := fun e bs1 hB1 hE hG hrun => by
      have hl1 : (es ++ [e]).length = es.length + 1 := by simp
      obtain ⟨es1, S', bs', rev', h0, h1, h2, h3, h4, h5⟩ := runD_spec hte hck (Q := Q) r (es ++ [e]) (o.dst :: rev) (putS o.dst e.sv S) bs1 (by rw [hl1]; exact hv.cons ho) (hr e) (by rw [hl1]; omega) (by rw [hl1]; exact Char.step hck ho hS) hB1 (by rw [hl1]; exact hrun)
      rw [List.append_assoc, List.singleton_append] at h1 h2 h3 h4
      refine ⟨e :: es1, S', bs', rev', h0, h1, fun j o' e' hj hjn ho' he' => ?_, h3, h4, h5⟩
      by_cases hje : j = es.length
      · subst hje
        rw [ho] at ho'; cases ho'
        simp at he'; subst he'
        exact ⟨hG es1, hE⟩
      · exact h2 j o' e' (by rw [hl1]; omega) hjn ho' he'
    have hchar : ∀ (e : En) (es1 : List En), Char ops (es ++ e :: es1) b.sy es.length (fun t => klook t S) := fun e es1 => hS.ext fun i hi => List.getElem?_append_left hi
    unfold SemD at h
    by_cases ha : isAlloc o = true
    · rw [if_pos ha] at h
      have haa := ha
      unfold isAlloc at haa
      split at haa
      · rename_i t hop hg
        simp only [hop] at h
        cases hd : o.dst with
        | none => simp [hd] at h
        | some d =>
          simp only [hd] at h
          cases hty : klook t te with
          | none => simp [hty] at h
          | some ty =>
            simp only [hty] at h
            refine hfin ⟨.lp d 0, some (t, ty.zero.map SV.d)⟩ _ ?_ ?_ ?_ (by rw [hd]; exact h.2)
            · rw [List.length_append, List.length_singleton]
              exact (BxC.stepA hck ho hB hd).resolve_right (by simp [ha])
            · simp only [EntOk, ha, if_true]; exact ⟨d, t, ty.zero, hd, rfl⟩
            · intro es1
              simp only [GoodAt, ha, if_true, resE, hd]
              exact ok_alloc hop hd h.1.1 (lentK_lt h.1.2) (hte _ _ hty)
      · cases haa
    · have ha' : isAlloc o = false := by simpa using ha
      rw [if_neg ha] at h
      obtain ⟨sv, h1, hc, hrun⟩ := h
      refine hfin ⟨sv, none⟩ bs ?_ ?_ ?_ hrun
      · rw [List.length_append, List.length_singleton]
        exact BxC.step ho hB ha'
      · simp only [EntOk, ha', Bool.false_eq_true, if_false]; exact ⟨trivial, hc⟩
      · intro es1
        simp only [GoodAt, ha', Bool.false_eq_true, if_false]
        refine ⟨_, hchar _ es1, ?_⟩
        rw [← baseL_sy]; exact h1 ops hv
end
/-- **A region that draws its order.** n: how many operations stand before the forced tail; lates: those of them that may come behind an effect; ks: the boxes that they make. -/
theorem Exec.draw0 {R : Rn} {k : List Item} {te : TE} {id : Nat} {ops : Array Oper} {st : Stt} (f n : Nat) (ks lates : List Nat) (hte : TEok R.P te) (hm : R.P.follows .mixedOrders = true) (hck : okRegion ops f n (fun i => lates.contains i) = true) (hks : ksOk ops n ks = true)
    {lt : Nat → Bool} (hlt : LtOk ops f n (fun i => lates.contains i) lt)
    (h : ∀ ops', SemD R.P R.C te ks lates (preL ks st) 0 [] (ops.toList.take n) (preL ks st).S [] fun S bs rev => runT R.P R.C te ops' lt lates n rev (ops.toList.drop n) ⟨st.N, st.df, S, bs ++ (preL ks st).L, st.O, (preL ks st).fz, st.pin⟩ (Exec R k) ∨ EndsT R k ops n (Stt.mk st.N st.df S (bs ++ (preL ks st).L) st.O (preL ks st).fz st.pin).sy) : Exec R (.code (.region id ops true) :: k) st.sy := by
  have hc := okRegion_spec hck
  have hkey : ∀ d, isKey ops n d → d ∈ ks := fun d ⟨i, hi, hd, ha⟩ => by
    unfold ksOk at hks
    have := List.all_eq_true.1 hks i (by simpa using hi)
    simpa [ha, hd] using this
  suffices hx : Exec R (.code (.region id ops true) :: k) (preL ks st).sy from fun a w hs => hx a w (hs.pre ks)
  obtain ⟨es, S', bs', rev', h0, h1, h2, h3, h4, h5⟩ := runD_spec (b := preL ks st) hte hc (ops.toList.take n) [] [] _ [] GInv.nil (by simp) (by simp) ⟨fun i e t hi => by simp at hi, fun t _ => rfl⟩ ⟨fun i e t hi => by simp at hi, fun t _ => rfl⟩ (h ops)
  simp only [List.nil_append] at h1 h2 h3 h4
  have hlk : ∀ key, key ∈ ks → (preL ks st).sy.L key = none := fun key hk => by
    simp [preL, Stt.sy, look_delKs, hk]
  have hcl : Clean ops n es (preL ks st).sy := by
    refine ⟨h1, fun d hd t sv hs => ?_, fun d hd => hlk d (hkey d hd), fun d hd key T cs hL => ?_, fun i o e hi ho he ha => ?_, fun i o e d hi ho he ha hd => ?_, fun d hd => killF_clean (hkey d hd) st.fz, fun i o hi ho ha => ?_⟩
    · simp only [preL, Stt.sy, look_killS] at hs
      cases hx : klook t st.S with
      | none => simp [hx] at hs
      | some x => simp [hx] at hs; subst hs; exact clean_kill (hkey d hd) _ (kill_clean x)
    · simp only [preL, Stt.sy, look_delKs, look_killLs] at hL
      split at hL
      · cases hL
      · cases hx : klook key st.L with
        | none => simp [hx, killE] at hL
        | some x => obtain ⟨T', cs'⟩ := x; simp [hx, killE] at hL; obtain ⟨rfl, rfl⟩ := hL; exact clean_killL (hkey d hd) _ (killL_clean cs')
    · have := (h2 i o e (by simp) hi ho he).2
      simp only [EntOk, ha, Bool.false_eq_true, if_false] at this
      exact ⟨this.1, fun d hd => clean_kill (hkey d hd) _ this.2⟩
    · have := (h2 i o e (by simp) hi ho he).2
      simp only [EntOk, ha, if_true] at this
      obtain ⟨d', T, ds, h6, rfl⟩ := this
      rw [hd] at h6; cases h6
      exact ⟨rfl, T, _, rfl, fun d => killL_map_d d ds⟩
    · obtain ⟨e, he⟩ : ∃ e, es[i]? = some e := ⟨es[i]'(by rw [h1]; exact hi), by simp [h1, hi]⟩
      have := (h2 i o e (by simp) hi ho he).2
      simp only [EntOk, ha, if_true] at this
      obtain ⟨d', T, ds, h6, _⟩ := this
      exact ⟨d', h6⟩
  have hend : (Stt.mk st.N st.df S' (bs' ++ (preL ks st).L) st.O (preL ks st).fz st.pin).sy = partS ops n es (preL ks st).sy (Array.replicate ops.size true) := by
    have hen : ∀ i, i < n → ∃ e, es[i]? = some e := fun i hi => ⟨es[i]'(by rw [h1]; exact hi), by simp [h1, hi]⟩
    have hrep : ∀ i : Nat, (Array.replicate ops.size true).getD i true = true := fun i => by
      rcases Nat.lt_or_ge i ops.size with h | h <;> simp [h]
    refine Sy.ext' rfl rfl (fun t => ?_) (fun t => ?_) (fun _ => rfl) rfl rfl
    · by_cases hx : ∃ i, i < n ∧ dstAt ops i = some t
      · obtain ⟨i, hi, hd⟩ := hx
        obtain ⟨e, he⟩ := hen i hi
        rw [partS_at hc hi hd he, hrep, if_pos rfl]
        exact h3.at' i e t hi hd he
      · rw [partS_not hx]
        exact h3.not' t hx
    · show klook t (bs' ++ (preL ks st).L) = _
      rw [look_append]
      by_cases hx : ∃ i, i < n ∧ dstAt ops i = some t ∧ allocAt ops i = true
      · obtain ⟨i, hi, hd, ha⟩ := hx
        obtain ⟨e, he⟩ := hen i hi
        rw [partL_at hc hi hd ha he, hrep, if_pos rfl, h4.at' i e t hi hd ha he]
        cases hbx : e.bx with
        | some x => rfl
        | none => exact hlk t (hkey t ⟨i, hi, hd, ha⟩)
      · rw [partL_not hx, h4.not' t hx]; rfl
  have hp := dph1 (R := R) (k := k) (lt := lt) (kp := kpF lates) hc hcl hlt (fun j o e hj ho he => (h2 j o e (by simp) hj ho he).1) (by rw [← hend]; exact h5.imp (fun h5 => runT_walk hte h5 h0 rfl) (fun h => h)) ops.size (Array.replicate ops.size false) (by simp)
    (fun j o ho hl => by
      have hjl : j < ops.size := (Array.getElem?_eq_some_iff.1 ho).1
      simp [hjl] at hl) (fun j _ hj => getD_replicate.2 hj) (by
      unfold cnt
      exact Nat.le_trans (List.length_filter_le _ _) (by simp))
  -- nothing is done yet: this says less than the state
  have hls : ∀ i : Nat, i < n → ¬ (Array.replicate ops.size false).getD i true = true := fun i hi => by rw [getD_replicate.2 (Nat.lt_of_lt_of_le hi hc.le)]; simp
  intro a w hs
  refine exec_draw hm hp a w (Sat.less (s := (preL ks st).sy) (s' := partS ops n es (preL ks st).sy (Array.replicate ops.size false)) rfl rfl (fun t sv ht => ?_) (fun t e ht => ?_) (fun _ _ h => h) rfl rfl hs)
  · by_cases hx : ∃ i, i < n ∧ dstAt ops i = some t
    · obtain ⟨i, hi, hd⟩ := hx
      obtain ⟨e, he⟩ : ∃ e, es[i]? = some e := ⟨es[i]'(by rw [h1]; exact hi), by simp [h1, hi]⟩
      rw [partS_at hc hi hd he, if_neg (hls i hi)] at ht; cases ht
    · rwa [partS_not hx] at ht
  · by_cases hx : ∃ i, i < n ∧ dstAt ops i = some t ∧ allocAt ops i = true
    · obtain ⟨i, hi, hd, ha⟩ := hx
      obtain ⟨e', he⟩ : ∃ e, es[i]? = some e := ⟨es[i]'(by rw [h1]; exact hi), by simp [h1, hi]⟩
      rw [partL_at hc hi hd ha he, if_neg (hls i hi)] at ht; cases ht
    · rwa [partL_not hx] at ht
theorem Exec.draw {P : Program} {b : Frame} {cs : List Frame} {T : Machine → Prop} {C : Ctx} {k : List Item} {te : TE} {id : Nat} {ops : Array Oper} {st st' : Stt} (f n : Nat) (ks lates : List Nat) (hte : TEok P te) (hm : P.follows .mixedOrders = true) (hck : okRegion ops f n (fun i => lates.contains i) = true) (hks : ksOk ops n ks = true)
    (h : ∀ ops' (Q : Sy → Prop), Q st'.sy → runD P C te ks lates (preL ks st) 0 [] (ops.toList.take n) (preL ks st).S [] fun S bs ds => runT P C te ops' (fun _ => !lates.isEmpty) lates n ds (ops.toList.drop n) ⟨st.N, st.df, S, bs ++ (preL ks st).L, st.O, (preL ks st).fz, st.pin⟩ Q) (hk : Exec ⟨P, b, cs, T, C⟩ k st'.sy) : Exec ⟨P, b, cs, T, C⟩ (.code (.region id ops true) :: k) st.sy :=
  Exec.draw0 (lt := fun _ => !lates.isEmpty) f n ks lates hte hm hck hks ⟨fun kk i _ _ hl hb => by cases lates with | nil => simp at hl | cons x xs => simp at hb, fun _ h => h⟩ (fun ops' => SemD.mono (fun _ _ _ h => .inl h) (runD_sem hte (h ops' _ hk)))
/-- late ones have come at the latest ahead of place p + 1 -/
def pOk (ops : Array Oper) (f n : Nat) (lates : List Nat) (p : Nat) : Bool := (List.range n).all fun i => !lates.contains i || (List.range (p + 1)).any fun j => decide (n ≤ j) && reach ops f j i
theorem pOk_spec {ops : Array Oper} {f n : Nat} {lates : List Nat} {p : Nat} (h : pOk ops f n lates p = true) : LtOk ops f n (fun i => lates.contains i) (fun kk => decide (kk ≤ p)) := by
  refine ⟨fun kk i _ hi hl hb => ?_, fun kk h => by simp at h ⊢; omega⟩
  unfold pOk at h
  have h1 := List.all_eq_true.1 h i (by simpa using hi)
  simp only [hl, Bool.not_true, Bool.false_or] at h1
  obtain ⟨j, h2, h3⟩ := List.any_eq_true.1 h1
  simp at h2 h3 hb
  exact ⟨j, h3.1, by omega, h3.2⟩
/-- the same, where late ones come ahead of place p + 1 -/
theorem Exec.drawP {P : Program} {b : Frame} {cs : List Frame} {T : Machine → Prop} {C : Ctx} {k : List Item} {te : TE} {id : Nat} {ops : Array Oper} {st st' : Stt} (f n : Nat) (ks lates : List Nat) (p : Nat) (hte : TEok P te) (hm : P.follows .mixedOrders = true) (hck : okRegion ops f n (fun i => lates.contains i) = true) (hks : ksOk ops n ks = true) (hp : pOk ops f n lates p = true)
    (h : ∀ ops' (Q : Sy → Prop), Q st'.sy → runD P C te ks lates (preL ks st) 0 [] (ops.toList.take n) (preL ks st).S [] fun S bs ds => runT P C te ops' (fun kk => decide (kk ≤ p)) lates n ds (ops.toList.drop n) ⟨st.N, st.df, S, bs ++ (preL ks st).L, st.O, (preL ks st).fz, st.pin⟩ Q) (hk : Exec ⟨P, b, cs, T, C⟩ k st'.sy) : Exec ⟨P, b, cs, T, C⟩ (.code (.region id ops true) :: k) st.sy :=
  Exec.draw0 f n ks lates hte hm hck hks (pOk_spec hp) (fun ops' => SemD.mono (fun _ _ _ h => .inl h) (runD_sem hte (h ops' _ hk)))
theorem Exec.rets {te : TE} {P : Program} {b : Frame} {cs : List Frame} {T : Machine → Prop} {C : Ctx} {f : FuncId} {fn : Func} {res : D} (hR : FnRun ⟨P, b, cs, T, C⟩ I P f fn res) (hte : TEok P te) {s : Stt} {rv : List ResultVar} (hrv : fn.results.toList = rv) (hdf : s.df = []) {k : List Item} {ds : List D} (hr : resV te s rv = some ds) (he : LeD (resD ds) res) (hk : k = [] ∨ ∃ k', k = .code .ret :: k') :
    Exec ⟨P, b, cs, T, C⟩ k s.sy := Exec.ret hR hte hdf (by rw [hrv]; exact hr) he hk
end Go.Kin
