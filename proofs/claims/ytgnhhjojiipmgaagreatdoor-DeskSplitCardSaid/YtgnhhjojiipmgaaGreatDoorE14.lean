/- Steps of a function body on data, and contracts of the functions of the seat, walked. -/
import Derived.Test.YtgnhhjojiipmgaaGreatDoorE11
set_option linter.unusedSimpArgs false
set_option linter.unusedVariables false
set_option linter.unusedSectionVars false
namespace Go.Cev
open Go.RowKit
noncomputable section
/-! ### what goes through maps and strings -/
def memN (n : Nat) : List Nat → Bool
  | [] => false
  | x :: l => cond (Nat.beq x n) true (memN n l)
def rangeA (tb : PT TyI) (t : TypeId) (v : Value) : M Value := (tyI tb t).bd fun i => match i.und, v with
  | .string, .string s => (nw (.sit s 0)).bd fun b => .ret (.pointer (some ⟨b, 0, none⟩))
  | .map _ _, .map none => (nw (.mit none 0 [] 0)).bd fun b => .ret (.pointer (some ⟨b, 0, none⟩))
  | .map _ _, .map (some m) => (gt m).bd fun o => match o with
    | .map _ c => (nw (.mit (some m) c [] c)).bd fun b => .ret (.pointer (some ⟨b, 0, none⟩))
    | _ => .no
  | _, _ => .no
/-- the entries that were not seen -/
def leftA (seen : List Nat) : List MapEntry → List MapEntry
  | [] => []
  | e :: es => cond (memN e.born seen) (leftA seen es) (e :: leftA seen es)
def anyOld (n : Nat) : List MapEntry → Bool
  | [] => false
  | e :: es => cond (Nat.blt e.born n) true (anyOld n es)
def nextA (v : Value) (str : Bool) : M Value := match v with
  | .pointer (some ⟨r, 0, none⟩) => (gt r).bd fun o => match o, str with
    | .sit s pos, true => match nth (bl s) pos with
      | none => .ret (.tuple #[.bool false])
      | some b => cond (Nat.blt b.toNat 128) ((st r (.sit s (pos + 1))).bd fun _ => .ret (.tuple #[.bool true, .int .i64 pos, .int .i32 b.toNat])) .no
    | .mit none _ _ _, false => .ret (.tuple #[.bool false])
    | .mit (some m) since seen last, false => (gt m).bd fun o => match o with
      | .map es c => cond (match seen, es with
        | [], _ => true
        | _, [] => true
        | _, _ => anyOld last es) (match leftA seen es with
          | [] => .ret (.tuple #[.bool false])
          | [e] => cond (Nat.blt e.born since) ((st r (.mit (some m) since (seen ++ [e.born]) c)).bd fun _ => .ret (.tuple #[.bool true, e.key, e.val])) .no
          | _ => .no) .no
      | _ => .no
    | _, _ => .no
  | _ => .no
def lastN : List Nat → Option Nat
  | [] => none
  | [x] => some x
  | _ :: l => lastN l
def bornA (n : Nat) : List MapEntry → Option MapEntry
  | [] => none
  | e :: es => cond (Nat.beq e.born n) (some e) (bornA n es)
def entryA (v : Value) : M Value := match v with
  | .pointer (some ⟨r, 0, none⟩) => (gt r).bd fun o => match o with
    | .mit (some m) _ seen last => (M.opt (lastN seen)).bd fun s => (gt m).bd fun o => match o with
      | .map es c => (M.ok (Nat.beq c last)).bd fun _ => (M.opt (bornA s es)).bd fun e => .ret (.tuple #[e.key, e.val])
      | _ => .no
    | _ => .no
  | _ => .no
end
section
variable {P : Program} {H : Nat} {w0 : World} {ω : Om} {α β γ δ : Type} {tb : PT TyI}
theorem ptr_of {b r : Nat} (h : ω b = some (r, 0)) : VR ω (.pointer (some ⟨b, 0, none⟩)) (.pointer (some ⟨r, 0, none⟩)) := by simpa using VR.ptr (o := 0) h
theorem sim_range (ht : TbOk P tb) {t : TypeId} {v v' : Value} (h : VR ω v v') : Sim P H w0 ω (rangeA tb t v) (Instr.range t v') VR := by
  unfold rangeA Instr.range
  refine Sim.ty ht fun i hi => ?_
  split
  · rename_i s he
    cases h
    refine Sim.runR (ht.und hi) ?_
    rw [he]
    exact Sim.new (rm := ((0, 0), 0)) (.str s 0) fun ω' _ r r' hr _ => Sim.ret (ptr_of hr)
  · rename_i kt et he
    cases h
    refine Sim.runR (ht.und hi) ?_
    rw [he]
    exact Sim.new (rm := ((0, 0), 0)) (.iter0 0 [] 0) fun ω' _ r r' hr _ => Sim.ret (ptr_of hr)
  · rename_i kt et m he
    cases h with
    | @map _ r' hb =>
      refine Sim.runR (ht.und hi) ?_
      rw [he]
      refine Sim.getMap hb (fun o ho => ?_) fun es es' c hes => ?_
      · cases o <;> first | rfl | exact absurd rfl (ho _ _)
      · exact Sim.new (rm := ((0, 0), 0)) (.iter hb c [] c) fun ω' _ r r' hr _ => Sim.ret (ptr_of hr)
  · exact Sim.no
theorem leftA_ok {seen : List Nat} : ∀ {es es' : List MapEntry}, ERs ω es es' → ERs ω (leftA seen es) (es'.filter fun e => !seen.toArray.contains e.born)
  | _, _, .nil => .nil
  | _, _, .cons (k := k) (v := v) born hk hv hs => by
    have hm : ∀ (l : List Nat), memN born l = l.contains born := by
      intro l
      induction l with
      | nil => rfl
      | cons x l ih =>
        rw [memN, List.contains_cons, ih]
        have : Nat.beq x born = (born == x) := by rw [Bool.eq_iff_iff, Nat.beq_eq, beq_iff_eq]; exact eq_comm
        rw [this]; cases (born == x) <;> rfl
    rw [leftA, List.filter_cons]
    simp only [List.contains_toArray]
    rw [hm]
    cases seen.contains born with
    | true => simpa using leftA_ok hs
    | false => simpa using ERs.cons born hk hv (leftA_ok hs)
theorem anyOld_ok {n : Nat} : ∀ {es es' : List MapEntry}, ERs ω es es' → anyOld n es = true → (es'.all fun e => decide (e.born ≥ n)) = false
  | _, _, .nil, h => by cases h
  | _, _, .cons born hk hv hs, h => by
    rw [anyOld] at h
    rw [List.all_cons]
    cases hc : Nat.blt born n with
    | true =>
      have : born < n := by simpa [Nat.blt_eq] using hc
      have : decide (born ≥ n) = false := by simp; omega
      rw [this]; rfl
    | false => rw [hc] at h; rw [anyOld_ok hs h]; simp
theorem Sim.base0 {r r' base : Nat} {f : AO → M α} {s : Sem β} {R : Om → α → β → Prop} (hb : ω r = some (r', base)) (h : base = 0 → Sim P H w0 ω ((gt r).bd f) s R) : Sim P H w0 ω ((gt r).bd f) s R := fun W w hw x W' hr => by
  obtain ⟨o, o', q1, q2, q3⟩ := hw.obj _ _ _ hb
  obtain ⟨o1, W1, h1, h2⟩ := bd_some hr
  have hob : o.obj = true := by
    unfold gt at h1; simp only [q1] at h1
    cases ho : o.obj with
    | true => rfl
    | false => rw [ho] at h1; cases h1
  exact h (q3.notCells hob).1 W w hw x W' hr
theorem sim_nextS {v v' : Value} {t : TypeId} (h : VR ω v v') : Sim P H w0 ω (nextA v true) (Instr.next v' true t) VR := by
  unfold nextA
  split
  · rename_i r
    cases h with
    | @ptr _ r' base _ hb =>
      refine Sim.base0 hb fun h0 => ?_
      subst h0
      refine Sim.getObj hb fun o o' ho => ?_
      cases ho ((0, 0), 0) with
      | str s pos =>
        simp only
        cases hn : nth (bl s) pos with
        | none =>
          simp only
          refine Sim.optV (o := some _) fun u hu => ?_
          cases hu
          refine ⟨_, fun w => ?_, .tuple (cs := [.bool false]) (cs' := [.bool false]) (.cons (.bool _) .nil)⟩
          have : ¬ pos < s.size := by
            rw [nth_eq, List.getElem?_eq_none_iff] at hn
            have : (bl s).length = s.size := rfl
            omega
          simp only [pure, Sem.bind]
          rw [if_neg this]; rfl
        | some b =>
          simp only
          rw [nth_eq] at hn
          have hlt : pos < s.size := (List.getElem?_eq_some_iff.1 hn).1
          cases hc : Nat.blt b.toNat 128 with
          | false => exact Sim.no
          | true =>
            have hb128 : b.toNat < 128 := by simpa [Nat.blt_eq] using hc
            have hd : Utf8.decode s pos = (b.toNat, 1) := by
              have hg : s.get! (pos + 0) = b := by
                unfold ByteArray.get!
                have h2 : s.data[pos]? = some b := by simpa [bl] using hn
                simp [getElem!_def, h2]
              unfold Utf8.decode
              simp only [hg]
              rw [if_pos hb128]
            show Sim P H w0 ω _ (if pos < s.size then _ else _) VR
            rw [if_pos hlt, hd]
            simp only [cond_true]
            exact Sim.setObj hb (fun _ => .str s (pos + 1)) (Sim.ret (.tuple (cs := [.bool true, .int .i64 pos, .int .i32 b.toNat]) (cs' := [.bool true, .int .i64 pos, .int .i32 b.toNat]) (.cons (.bool _) (.cons (.int _ _) (.cons (.int _ _) .nil)))))
      | _ => exact Sim.no
  · exact Sim.no
theorem sim_nextM {v v' : Value} {t : TypeId} (h : VR ω v v') : Sim P H w0 ω (nextA v false) (Instr.next v' false t) VR := by
  unfold nextA
  split
  · rename_i r
    cases h with
    | @ptr _ r' base _ hb =>
      refine Sim.base0 hb fun h0 => ?_
      subst h0
      refine Sim.getObj hb fun o o' ho => ?_
      have hover : Sim P H w0 ω (.ret (.tuple #[.bool false]) : M Value) (pure (.tuple #[.bool false])) VR := Sim.ret (.tuple (cs := [.bool false]) (cs' := [.bool false]) (.cons (.bool _) .nil))
      cases ho ((0, 0), 0) with
      | iter0 since seen st => exact hover
      | @iter m m' hm since seen last =>
        simp only
        refine Sim.getMap hm (fun o ho => ?_) fun es es' c hes => ?_
        · cases o <;> first | rfl | exact absurd rfl (ho _ _)
        · simp only
          have hlen := hes.length
          have hcond : ∀ {b : Bool} {x : M Value} {s : Sem Value}, (b = true → Sim P H w0 ω x s VR) → Sim P H w0 ω (cond b x .no) s VR := fun {b x s} h => by cases b with | true => exact h rfl | false => exact Sim.no
          refine hcond fun hc => ?_
          have hgo : (!seen.toArray.isEmpty && !es'.toArray.isEmpty && es'.toArray.all (·.born ≥ last)) = false := by
            cases seen with
            | nil => rfl
            | cons x l =>
              cases es with
              | nil => cases hes; rfl
              | cons e es =>
                have := anyOld_ok hes hc
                have h2 : es'.toArray.all (fun e => decide (e.born ≥ last)) = false := by rw [← this]; simp
                rw [h2]; simp
          have hL := leftA_ok (seen := seen) hes
          have hleft : (es'.toArray.filter fun e => !seen.toArray.contains e.born) = (es'.filter fun e => !seen.toArray.contains e.born).toArray := by simp
          rw [if_neg (by rw [hgo]; simp)]
          generalize hLe : leftA seen es = L at hL
          generalize hLe' : (es'.filter fun e => !seen.toArray.contains e.born) = L' at hL hleft
          simp only [hleft]
          cases hL with
          | nil =>
            have hcand : ((if (Array.filter (fun x => decide (x.born < since)) (List.toArray ([] : List MapEntry))).isEmpty = true then #[none] else #[]) ++ Array.map some (Array.filter (fun x => decide (x.born < since)) (List.toArray ([] : List MapEntry)) ++ Array.filter (fun x => decide (x.born ≥ since)) (List.toArray ([] : List MapEntry)))) = (#[none] : Array (Option MapEntry)) := by simp
            simp only [hcand]
            exact Sim.forced rfl hover
          | @cons k k' v v' es1 es1' born hk hv hs =>
            cases hs with
            | cons => exact Sim.no
            | nil =>
              simp only
              refine hcond fun hc2 => ?_
              have hlt : born < since := by simpa [Nat.blt_eq] using hc2
              have hcand : ((if (Array.filter (fun x => decide (x.born < since)) (List.toArray [(⟨k', v', born⟩ : MapEntry)])).isEmpty = true then #[none] else #[]) ++ Array.map some (Array.filter (fun x => decide (x.born < since)) (List.toArray [(⟨k', v', born⟩ : MapEntry)]) ++ Array.filter (fun x => decide (x.born ≥ since)) (List.toArray [(⟨k', v', born⟩ : MapEntry)]))) = (#[some ⟨k', v', born⟩] : Array (Option MapEntry)) := by
                have h2 : ¬ since ≤ born := by omega
                simp [hlt, h2]
              simp only [hcand]
              refine Sim.forced rfl ?_
              refine Sim.setObj hb (o := .mit (some m) since (seen ++ [born]) c) (o' := .mapIter (some m') since (seen.toArray.push born) c) ?_ (Sim.ret (.tuple (cs := [.bool true, k, v]) (cs' := [.bool true, k', v']) (.cons (.bool _) (.cons hk (.cons hv .nil)))))
              intro rm
              have := OR.iter (rm := rm) hm since (seen ++ [born]) c
              simpa using this
      | _ => exact Sim.no
  · exact Sim.no
end
end Go.Cev
namespace Go.Cev
open Go.RowKit
noncomputable section
/-! ### builtins -/
def lenA (tb : PT TyI) (t : TypeId) (v : Value) : M Value := (tyI tb t).bd fun i => match i.und, v with
  | .string, .string s => .ret (.int .i64 (len (bl s)))
  | .slice _, .slice _ n _ => .ret (.int .i64 n)
  | .array n _, _ => .ret (.int .i64 n)
  | .map _ _, .map none => .ret (.int .i64 0)
  | .map _ _, .map (some r) => (gt r).bd fun o => match o with
    | .map es _ => .ret (.int .i64 (len es))
    | _ => .no
  | _, _ => .no
/-- of a slice that has no room -/
def capA (tb : PT TyI) (t : TypeId) (v : Value) : M Value := (tyI tb t).bd fun i => match i.und, v with
  | .slice _, .slice none _ _ => .ret (.int .i64 0)
  | _, _ => .no
def minF (k : IntKind) : List Value → Int → Option Value
  | [], a => some (.int k a)
  | .int _ b :: l, a => minF k l (if b < a then b else a)
  | _, _ => none
def maxF (k : IntKind) : List Value → Int → Option Value
  | [], a => some (.int k a)
  | .int _ b :: l, a => maxF k l (if b > a then b else a)
  | _, _ => none
def minA : List Value → Option Value
  | .int k a :: l => minF k l a
  | _ => none
def maxA : List Value → Option Value
  | .int k a :: l => maxF k l a
  | _ => none
/-- a row of zeros is put into a slice -/
def clearA (tb : PT TyI) (t : TypeId) (v : Value) : M Value := (tyI tb t).bd fun i => match i.und, v with
  | .slice _, .slice none _ _ => .ret (.tuple #[])
  | .slice _, .slice (some _) 0 _ => .ret (.tuple #[])
  | .slice e, .slice (some a) n _ => (tyI tb e).bd fun j => (M.opt j.zero).bd fun z => (wrN a (rep z.cells.toList n) 0).bd fun _ => .ret (.tuple #[])
  | _, _ => .no
end
section
variable {P : Program} {H : Nat} {w0 : World} {ω : Om} {α β γ δ : Type} {tb : PT TyI}
theorem lastN_eq : ∀ (l : List Nat), lastN l = l.getLast?
  | [] => rfl
  | [x] => rfl
  | x :: y :: l => by rw [lastN, lastN_eq (y :: l), List.getLast?_cons_cons]; simp
theorem bornA_ok {n : Nat} : ∀ {es es' : List MapEntry} {e : MapEntry}, ERs ω es es' → bornA n es = some e → ∃ e', es'.find? (fun e => e.born == n) = some e' ∧ VR ω e.key e'.key ∧ VR ω e.val e'.val
  | _, _, e, .nil, h => by cases h
  | _, _, e, .cons born hk hv hs, h => by
    rw [bornA] at h
    rw [List.find?_cons]
    cases hc : Nat.beq born n with
    | true =>
      rw [hc] at h; cases h
      have : (born == n) = true := by rw [beq_iff_eq]; exact Nat.eq_of_beq_eq_true hc
      simp only [this]
      exact ⟨_, rfl, hk, hv⟩
    | false =>
      rw [hc] at h
      have : (born == n) = false := by rw [beq_eq_false_iff_ne]; intro h; subst h; simp at hc
      simp only [this]
      exact bornA_ok hs h
theorem sim_entry {v v' : Value} (h : VR ω v v') : Sim P H w0 ω (entryA v) (Instr.entry v') VR := by
  unfold entryA
  split
  · rename_i r
    cases h with
    | @ptr _ r' base _ hb =>
      refine Sim.base0 hb fun h0 => ?_
      subst h0
      refine Sim.getObj hb fun o o' ho => ?_
      cases ho ((0, 0), 0) with
      | @iter m m' hm since seen last =>
        refine Sim.opt fun s hs => ?_
        rw [lastN_eq] at hs
        have hs' : seen.toArray.back? = some s := by simpa using hs
        simp only [Sem.bind, hs']
        refine Sim.getMap hm (fun o ho => ?_) fun es es' c hes => ?_
        · cases o <;> first | rfl | exact absurd rfl (ho _ _)
        · refine Sim.okL fun hc => Sim.opt fun e he => ?_
          have hcl : c = last := Nat.eq_of_beq_eq_true hc
          subst hcl
          obtain ⟨e', g1, g2, g3⟩ := bornA_ok hes he
          have g1' : es'.toArray.find? (fun e => e.born == s) = some e' := by simpa using g1
          simp only [bne_self_eq_false, Bool.false_eq_true, if_false, g1']
          exact Sim.ret (.tuple (cs := [e.key, e.val]) (cs' := [e'.key, e'.val]) (.cons g2 (.cons g3 .nil)))
      | _ => exact Sim.no
  · exact Sim.no
theorem sim_len (ht : TbOk P tb) {t ty : TypeId} {ts : Array TypeId} (hts : ts[0]? = some t) {v v' : Value} (h : VR ω v v') : Sim P H w0 ω (lenA tb t v) (Builtin.len_ ts ty #[v']) VR := by
  unfold lenA Builtin.len_
  have e1 : (#[v'] : Array Value)[0]? = some v' := rfl
  simp only [hts, e1]
  refine Sim.ty ht fun i hi => Sim.runR (ht.und hi) ?_
  split
  · rename_i s he; rw [he]; cases h; rw [len_bl]; exact Sim.ret (.int _ _)
  · rename_i he; rw [he]
    cases h <;> exact Sim.ret (.int _ _)
  · rename_i he; rw [he]; exact Sim.ret (.int _ _)
  · rename_i he; rw [he]; cases h; exact Sim.ret (.int _ _)
  · rename_i r he; rw [he]
    cases h with
    | @map _ r' hb =>
      refine Sim.getMap hb (fun o ho => ?_) fun es es' c hes => ?_
      · cases o <;> first | rfl | exact absurd rfl (ho _ _)
      · simp only
        rw [len_eq, hes.length]
        exact Sim.ret (.int .i64 _)
  · exact Sim.no
theorem sim_cap (ht : TbOk P tb) {t ty : TypeId} {ts : Array TypeId} (hts : ts[0]? = some t) {v v' : Value} (h : VR ω v v') : Sim P H w0 ω (capA tb t v) (Builtin.cap_ ts ty #[v']) VR := by
  unfold capA Builtin.cap_
  have e1 : (#[v'] : Array Value)[0]? = some v' := rfl
  simp only [hts, e1]
  refine Sim.ty ht fun i hi => Sim.runR (ht.und hi) ?_
  split
  · rename_i he; rw [he]; cases h; exact Sim.ret (.int _ _)
  · exact Sim.no
theorem minF_ok {k : IntKind} : ∀ {l l' : List Value} {a : Int} {v : Value}, VRs ω l l' → minF k l a = some v → (∀ w, (l'.foldlM Builtin.min2 (.int k a)).run P w = .ok v w) ∧ VR ω v v
  | [], _, a, v, .nil, h => by cases h; exact ⟨fun w => rfl, .int _ _⟩
  | y :: l, _, a, v, .cons h3 h4, h => by
    cases y <;> try (cases h; done)
    rename_i k' b
    rw [minF] at h
    cases h3
    obtain ⟨q2, q3⟩ := minF_ok h4 h
    refine ⟨fun w => ?_, q3⟩
    rw [List.foldlM_cons]
    simp only [bind, Sem.run_bind' P, Builtin.min2, pure, Sem.run, Result.andThen]
    exact q2 w
theorem minA_ok {l l' : List Value} {v : Value} (hl : VRs ω l l') (h : minA l = some v) : (∃ x r, l' = x :: r ∧ ∀ w, (r.foldlM Builtin.min2 x).run P w = .ok v w) ∧ VR ω v v := by
  unfold minA at h
  split at h
  · cases hl with
    | cons h1 h2 =>
      cases h1
      obtain ⟨q1, q2⟩ := minF_ok (P := P) h2 h
      exact ⟨⟨_, _, rfl, q1⟩, q2⟩
  · cases h
theorem maxF_ok {k : IntKind} : ∀ {l l' : List Value} {a : Int} {v : Value}, VRs ω l l' → maxF k l a = some v → (∀ w, (l'.foldlM Builtin.max2 (.int k a)).run P w = .ok v w) ∧ VR ω v v
  | [], _, a, v, .nil, h => by cases h; exact ⟨fun w => rfl, .int _ _⟩
  | y :: l, _, a, v, .cons h3 h4, h => by
    cases y <;> try (cases h; done)
    rename_i k' b
    rw [maxF] at h
    cases h3
    obtain ⟨q2, q3⟩ := maxF_ok h4 h
    refine ⟨fun w => ?_, q3⟩
    rw [List.foldlM_cons]
    simp only [bind, Sem.run_bind' P, Builtin.max2, pure, Sem.run, Result.andThen]
    exact q2 w
theorem maxA_ok {l l' : List Value} {v : Value} (hl : VRs ω l l') (h : maxA l = some v) : (∃ x r, l' = x :: r ∧ ∀ w, (r.foldlM Builtin.max2 x).run P w = .ok v w) ∧ VR ω v v := by
  unfold maxA at h
  split at h
  · cases hl with
    | cons h1 h2 =>
      cases h1
      obtain ⟨q1, q2⟩ := maxF_ok (P := P) h2 h
      exact ⟨⟨_, _, rfl, q1⟩, q2⟩
  · cases h
theorem sim_min {ts : Array TypeId} {ty : TypeId} {l l' : List Value} (hl : VRs ω l l') : Sim P H w0 ω (.opt (minA l)) (Builtin.min_ ts ty l'.toArray) VR := Sim.optV fun v hv => by
  obtain ⟨⟨x, r, rfl, h2⟩, h3⟩ := minA_ok (P := P) hl hv
  exact ⟨v, fun w => h2 w, h3⟩
theorem sim_max {ts : Array TypeId} {ty : TypeId} {l l' : List Value} (hl : VRs ω l l') : Sim P H w0 ω (.opt (maxA l)) (Builtin.max_ ts ty l'.toArray) VR := Sim.optV fun v hv => by
  obtain ⟨⟨x, r, rfl, h2⟩, h3⟩ := maxA_ok (P := P) hl hv
  exact ⟨v, fun w => h2 w, h3⟩
theorem zeroCells_eq (z : Array Value) (n : Nat) : (Builtin.zeroCells z n).toList = rep z.toList n := by
  by_cases hz : 0 < z.size
  · exact rep_eq z hz n
  · have h0 : z.size = 0 := by omega
    have h1 : z = #[] := by simpa using h0
    subst h1
    have : ∀ n, rep ([] : List Value) n = [] := by
      intro n; induction n with
      | zero => rfl
      | succ n ih => rw [rep, ih]; rfl
    rw [this]; simp [Builtin.zeroCells]
theorem sim_clear (ht : TbOk P tb) {t ty : TypeId} {ts : Array TypeId} (hts : ts[0]? = some t) {v v' : Value} (h : VR ω v v') : Sim P H w0 ω (clearA tb t v) (Builtin.clear_ ts ty #[v']) VR := by
  unfold clearA Builtin.clear_
  have e1 : (#[v'] : Array Value)[0]? = some v' := rfl
  simp only [hts, e1]
  refine Sim.ty ht fun i hi => Sim.runR (ht.und hi) ?_
  split
  · rename_i he; rw [he]; cases h; exact Sim.ret (.tuple .nil)
  · rename_i he; rw [he]
    cases h <;> exact Sim.ret (.tuple .nil)
  · rename_i e a n c hn he
    rw [he]
    have hv : ∃ a' c', v' = .slice (some a') n c' ∧ AR ω a a' ∧ n ≠ 0 := by
      cases h with
      | sl hb hc => exact ⟨_, _, rfl, .ptr hb, fun h => hn (by rw [h])⟩
      | sle => exact absurd rfl (hn)
    obtain ⟨a', c', rfl, ha, hn0⟩ := hv
    refine Sim.ty ht fun j hj => Sim.opt fun z hz => ?_
    cases n with
    | zero => exact absurd rfl hn0
    | succ n =>
      refine Sim.runR (ht.zero hj hz) ?_
      rw [zeroCells_eq]
      exact Sim.bnd (Sim.wrN 0 ha (rep_VR (ht.zeroV hj hz).cells _)) fun _ _ _ _ _ => Sim.ret (.tuple .nil)
  · exact Sim.no
end
end Go.Cev
namespace Go.Cev
open Go.RowKit
noncomputable section
def isInt : TypeDesc → Bool
  | .int _ => true
  | _ => false
/-- what is put behind: how many elements, and their cells -/
def srcA (zeros : Bool) (j : TyI) (x : Value) : M (Nat × List Value) := match zeros, x with
  | true, .int _ (.ofNat n) => cond (Nat.ble (n * (j.bytes + 1)) 1000000) ((M.opt j.zero).bd fun z => (M.ok (Nat.beq (len z.cells.toList) j.size)).bd fun _ => .ret (n, rep z.cells.toList n)) .no
  | false, .slice none _ _ => .ret (0, [])
  | false, .slice (some _) 0 _ => .ret (0, [])
  | false, .slice (some a) n _ => (rdN a (n * j.size)).bd fun l => .ret (n, l)
  | false, .string s => (M.ok (Nat.beq j.size 1)).bd fun _ => .ret (len (bl s), (bl s).map fun b => .int .u8 b.toNat)
  | _, _ => .no
def nwS (k : Nat) (e : TypeId) (l : List Value) (m : Nat) : M Value := (nw (.cells l (k, e + 1) 0)).bd fun b => .ret (.slice (some ⟨b, 0, none⟩) m m)
def allOne : List Value → Bool
  | [] => true
  | v :: l => one v && allOne l
def grwA (b o n m k : Nat) (te : TypeId) (new : List Value) : M Value := fun W => match W.heap.get b with
  | some (.cells cs k' fz) => cond (Nat.beq k'.1 k && Nat.beq k'.2 (te + 1) && Nat.ble fz (len cs) && Nat.beq (o + n * k) (len cs) && allOne new)
      (some (.slice (some ⟨W.next, 0, none⟩) (n + m) (n + m), ⟨(W.heap.set b (some (.cells cs (k, te + 1) (len cs + 1)))).set W.next (some (.cells (cs.drop o ++ new) (k, te + 1) (n * k))), W.next + 1⟩)) none
  | _ => none
def zOk (j : TyI) : Bool := match j.zero with
  | some z => Nat.beq (len z.cells.toList) j.size
  | none => false
def appB (tb : PT TyI) (e : TypeId) (zeros : Bool) (base : Option Addr) (n c : Nat) (s x : Value) : M Value := (tyI tb e).bd fun j => (M.ok (Nat.blt 0 j.size)).bd fun _ => (srcA zeros j x).bd fun y =>
  cond (Nat.beq y.1 0) ((M.ok (Nat.ble n c)).bd fun _ => .ret s) ((M.ok (Nat.ble ((n + y.1) * (j.bytes + 1)) 1000000000)).bd fun _ => (M.ok (zOk j)).bd fun _ => match base with
    | none => nwS j.size e y.2 y.1
    | some ⟨b, o, sp⟩ => match sp with
      | some _ => nwS j.size e y.2 y.1
      | none => cond (Nat.ble (n + y.1) c) ((wrN (move ⟨b, o, none⟩ (n * j.size)) y.2 0).bd fun _ => .ret (.slice (some ⟨b, o, none⟩) (n + y.1) c)) (grwA b o n y.1 j.size e y.2))
def appA (tb : PT TyI) (ts : List TypeId) (s x : Value) : M Value := match ts with
  | [t, t2] => (tyI tb t).bd fun i => (tyI tb t2).bd fun i2 => match i.und, s with
    | .slice e, .slice base n c => appB tb e (isInt i2.und) base n c s x
    | _, _ => .no
  | _ => .no
end
section
variable {P : Program} {H : Nat} {w0 : World} {ω : Om} {α β γ δ : Type} {tb : PT TyI}
theorem sizeOf_run {e : TypeId} {info : TypeInfo} (hi : P.info? e = some info) (w : World) : (sizeOf e).run P w = .ok info.size w := by
  simp [sizeOf, typeInfo, program, bind, Sem.bind, Sem.run, pure, hi]
theorem typeInfo_run {e : TypeId} {info : TypeInfo} (hi : P.info? e = some info) (w : World) : (typeInfo e).run P w = .ok info w := by
  simp [typeInfo, program, bind, Sem.bind, Sem.run, pure, hi]
theorem zeroValue_run {e : TypeId} {info : TypeInfo} {z : Value} (hi : P.info? e = some info) (hz : info.zero = some z) (w : World) : (zeroValue e).run P w = .ok z w := by
  simp [zeroValue, typeInfo, program, bind, Sem.bind, Sem.run, pure, hi, hz]
theorem askRoom_run (n : Nat) (w : World) : (askRoom n).run P w = .ok () w := by
  unfold askRoom; split <;> rfl
section
variable {w : World} {t t2 ty e : TypeId} {d2 : TypeDesc} {info : TypeInfo} {z : Value} {base : Option Addr} {sLen sCap m : Nat} {x : Value} {new : List Value} (ht : P.underlying t = some (.slice e)) (h2 : P.underlying t2 = some d2) (hi : P.info? e = some info)
include ht h2 hi
/-- the model's append of a row, when there is room -/
theorem app_room (hd : isInt d2 = false) (hl : ∀ w, (Builtin.lenOf x).run P w = .ok m w) (hroom : sLen + m ≤ sCap) (hn : ∀ w', w'.heap = w.heap → (Builtin.firstCells info.size m x).run P w' = .ok new.toArray w') :
    (Builtin.append_ #[t, t2] ty #[.slice base sLen sCap, x]).run P w = (do (match base with | some a => storeCells (a.add (sLen * info.size)) new | none => pure ()); pure (.slice base (sLen + m) sCap) : Sem Value).run P w := by
  have e1 : (#[t, t2] : Array TypeId)[0]? = some t := rfl
  have e2 : (#[t, t2] : Array TypeId)[1]? = some t2 := rfl
  have e3 : (#[Value.slice base sLen sCap, x] : Array Value)[0]? = some (.slice base sLen sCap) := rfl
  have e4 : (#[Value.slice base sLen sCap, x] : Array Value)[1]? = some x := rfl
  unfold Builtin.append_
  simp only [e1, e2, e3, e4]
  simp only [bind, Sem.run_bind' P, run_underlying ht, run_underlying h2, Result.andThen, sizeOf_run hi]
  cases d2
  case int => cases hd
  all_goals
    simp only [pure, Sem.run, Sem.bind, Bool.false_eq_true, if_false, Sem.run_bind' P, hl, Result.andThen]
    rw [if_pos hroom]
    simp only [Sem.run_bind' P, Bool.not_false, if_true, hn w rfl]
    cases base <;> first | rfl | (simp only [Result.andThen, Sem.run_bind' P]; rfl)
theorem app_grow (hz : info.zero = some z) (hd : isInt d2 = false) (hl : ∀ w, (Builtin.lenOf x).run P w = .ok m w) (hroom : sCap < sLen + m) (hn : ∀ w', w'.heap = w.heap → (Builtin.firstCells info.size m x).run P w' = .ok new.toArray w')
    (h63 : ¬ (((sLen + m : Nat) : Int) > IntKind.i64.max)) (hby : ¬ Builtin.nextslicecap (sLen + m) sCap * info.bytes > 2 ^ 48) {old : List Value} (hold : ∀ w', w'.heap = w.heap → (Builtin.firstCells info.size sLen (.slice base sLen sCap)).run P w' = .ok old.toArray w') :
    ∃ cap, sLen + m ≤ cap ∧ (Builtin.append_ #[t, t2] ty #[.slice base sLen sCap, x]).run P w = .ok (.slice (some ⟨w.heap.size, 0, none⟩) (sLen + m) cap) { w with drawn := w.drawn + 1, heap := w.heap.push (.cells (old.toArray ++ new.toArray ++ Builtin.zeroCells z.cells (cap - (sLen + m))) e) } := by
  refine ⟨(Question.appendCap (sLen + m) sCap e).cut (w.tape w.drawn (.appendCap (sLen + m) sCap e)), Nat.le_add_right _ _, ?_⟩
  have e1 : (#[t, t2] : Array TypeId)[0]? = some t := rfl
  have e2 : (#[t, t2] : Array TypeId)[1]? = some t2 := rfl
  have e3 : (#[Value.slice base sLen sCap, x] : Array Value)[0]? = some (.slice base sLen sCap) := rfl
  have e4 : (#[Value.slice base sLen sCap, x] : Array Value)[1]? = some x := rfl
  unfold Builtin.append_
  simp only [e1, e2, e3, e4]
  simp only [bind, Sem.run_bind' P, run_underlying ht, run_underlying h2, Result.andThen, sizeOf_run hi]
  cases d2
  case int => cases hd
  all_goals
    simp only [pure, Sem.run, Sem.bind, Bool.false_eq_true, if_false, Sem.run_bind' P, hl, Result.andThen]
    rw [if_neg (by omega)]
    simp only [Sem.run_bind' P, typeInfo_run hi, Result.andThen]
    rw [if_neg (fun hh => h63 hh.1)]
    simp only [Sem.run_bind' P, typeInfo_run hi, Result.andThen]
    rw [if_neg hby]
    simp only [Sem.run_bind' P, choose, Sem.run, Question.forced, Bool.false_eq_true, if_false, typeInfo_run hi, Result.andThen, askRoom_run, hold { w with drawn := w.drawn + 1 } rfl, Bool.not_false, if_true, hn { w with drawn := w.drawn + 1 } rfl, zeroValue_run hi hz, run_newRow]
theorem app_room0 (hz : info.zero = some z) (hd : isInt d2 = true) {k : IntKind} (hm : (m : Int) * info.bytes ≤ 2 ^ 48) (hm2 : m ≤ 2 ^ 60) (hroom : sLen + m ≤ sCap) (hn : new.toArray = (if m * info.size = 0 then #[] else Builtin.zeroCells z.cells m)) :
    (Builtin.append_ #[t, t2] ty #[.slice base sLen sCap, .int k m]).run P w = (do (match base with | some a => storeCells (a.add (sLen * info.size)) new | none => pure ()); pure (.slice base (sLen + m) sCap) : Sem Value).run P w := by
  have e1 : (#[t, t2] : Array TypeId)[0]? = some t := rfl
  have e2 : (#[t, t2] : Array TypeId)[1]? = some t2 := rfl
  have e3 : (#[Value.slice base sLen sCap, .int k m] : Array Value)[0]? = some (.slice base sLen sCap) := rfl
  have e4 : (#[Value.slice base sLen sCap, .int k m] : Array Value)[1]? = some (.int k m) := rfl
  have hw : IntKind.i64.wrap (m : Int) = m := by simp [IntKind.wrap, IntKind.bits, IntKind.signed]; omega
  unfold Builtin.append_
  simp only [e1, e2, e3, e4]
  simp only [bind, Sem.run_bind' P, run_underlying ht, run_underlying h2, Result.andThen, sizeOf_run hi]
  cases d2
  case int =>
    simp only [pure, Sem.run, Sem.bind, if_true, Sem.run_bind' P, asInt, asIntOf, bind, Result.andThen, hw]
    rw [if_neg (by omega)]
    simp only [Sem.run_bind' P, typeInfo_run hi, Result.andThen]
    rw [if_neg (by omega)]
    simp only [Int.toNat_natCast, Sem.run, Result.andThen]
    rw [if_pos hroom]
    simp only [Bool.not_true, Bool.false_eq_true, if_false]
    split at hn
    · rename_i h0
      rw [if_pos h0]
      have : new = [] := by simpa using hn
      subst this
      simp only [Sem.run_bind' P, Sem.run, Result.andThen]
      cases base <;> first | rfl | (simp only [Result.andThen, Sem.run_bind' P]; rfl)
    · rename_i h0
      rw [if_neg h0]
      simp only [Sem.run_bind' P, Sem.run, Result.andThen, zeroValue_run hi hz, ← hn]
      cases base <;> first | rfl | (simp only [Result.andThen, Sem.run_bind' P]; rfl)
  all_goals cases hd
theorem app_grow0 (hz : info.zero = some z) (hd : isInt d2 = true) {k : IntKind} (hm : (m : Int) * info.bytes ≤ 2 ^ 48) (hm2 : m ≤ 2 ^ 60) (hroom : sCap < sLen + m) (hn : new.toArray = (if m * info.size = 0 then #[] else Builtin.zeroCells z.cells m))
    (h63 : ¬ (((sLen + m : Nat) : Int) > IntKind.i64.max)) (hby : ¬ Builtin.nextslicecap (sLen + m) sCap * info.bytes > 2 ^ 48) {old : List Value} (hold : ∀ w', w'.heap = w.heap → (Builtin.firstCells info.size sLen (.slice base sLen sCap)).run P w' = .ok old.toArray w') :
    ∃ cap, sLen + m ≤ cap ∧ (Builtin.append_ #[t, t2] ty #[.slice base sLen sCap, .int k m]).run P w = .ok (.slice (some ⟨w.heap.size, 0, none⟩) (sLen + m) cap) { w with drawn := w.drawn + 1, heap := w.heap.push (.cells (old.toArray ++ new.toArray ++ Builtin.zeroCells z.cells (cap - (sLen + m))) e) } := by
  refine ⟨(Question.appendCap (sLen + m) sCap e).cut (w.tape w.drawn (.appendCap (sLen + m) sCap e)), Nat.le_add_right _ _, ?_⟩
  have e1 : (#[t, t2] : Array TypeId)[0]? = some t := rfl
  have e2 : (#[t, t2] : Array TypeId)[1]? = some t2 := rfl
  have e3 : (#[Value.slice base sLen sCap, .int k m] : Array Value)[0]? = some (.slice base sLen sCap) := rfl
  have e4 : (#[Value.slice base sLen sCap, .int k m] : Array Value)[1]? = some (.int k m) := rfl
  have hw : IntKind.i64.wrap (m : Int) = m := by simp [IntKind.wrap, IntKind.bits, IntKind.signed]; omega
  unfold Builtin.append_
  simp only [e1, e2, e3, e4]
  simp only [bind, Sem.run_bind' P, run_underlying ht, run_underlying h2, Result.andThen, sizeOf_run hi]
  cases d2
  case int =>
    simp only [pure, Sem.run, Sem.bind, if_true, Sem.run_bind' P, asInt, asIntOf, bind, Result.andThen, hw]
    rw [if_neg (by omega)]
    simp only [Sem.run_bind' P, typeInfo_run hi, Result.andThen]
    rw [if_neg (by omega)]
    simp only [Int.toNat_natCast, Sem.run, Result.andThen]
    rw [if_neg (by omega)]
    simp only [Sem.run_bind' P, typeInfo_run hi, Result.andThen]
    rw [if_neg (fun hh => h63 hh.1)]
    simp only [Sem.run_bind' P, typeInfo_run hi, Result.andThen]
    rw [if_neg hby]
    simp only [Sem.run_bind' P, choose, Sem.run, Question.forced, Bool.false_eq_true, if_false, typeInfo_run hi, Result.andThen, askRoom_run, hold { w with drawn := w.drawn + 1 } rfl, Bool.not_true]
    split at hn
    · rename_i h0
      rw [if_pos h0]
      simp only [Sem.run_bind' P, Sem.run, Result.andThen, zeroValue_run hi hz, run_newRow, ← hn]
    · rename_i h0
      rw [if_neg h0]
      simp only [Sem.run_bind' P, Sem.run, Result.andThen, zeroValue_run hi hz, run_newRow, ← hn]
  all_goals cases hd
end
end
end Go.Cev
