/- Steps of a function body on data, and contracts of the functions of the seat, walked. -/
import Derived.Test.YtgnhhjojiipmgaaGreatDoorE30
import Derived.Lib.Fields
import Derived.Lib.ConvBytes
import Derived.Lib.Atoi
import Derived.Lib.ItoaMem
import Derived.Laws.StandIn
import Derived.Calls
import Derived.Test.YtgnhhjojiipmgaaGreatDoorE24
set_option linter.unusedSimpArgs false
set_option linter.unusedVariables false
set_option linter.unusedSectionVars false
namespace Go.Cev
open Go.RowKit
/-! ### Go's own, by names -/
noncomputable section
def dgt (n : Nat) : UInt8 := UInt8.ofNat (48 + n)
def itoaS : Int → Option (List UInt8)
  | .ofNat n => cond (Nat.blt n 10) (some [dgt n]) (cond (Nat.blt n 100) (some [dgt (n / 10), dgt (n % 10)]) none)
  | _ => none
def itoaA (args : List Value) : M Value := match args with
  | [.int .i64 n] => (M.opt (itoaS n)).bd fun l => .ret (.string (ofBl l))
  | _ => .no
def atoiS : List UInt8 → Option Nat
  | [a] => cond (Nat.ble 48 a.toNat && Nat.ble a.toNat 57) (some (a.toNat - 48)) none
  | _ => none
def atoiA (args : List Value) : M Value := match args with
  | [.string s] => (M.opt (atoiS (bl s))).bd fun n => .ret (.tuple #[.int .i64 (n : Int), .nilIface])
  | _ => .no
def asciiA : List UInt8 → Bool
  | [] => true
  | b :: l => Nat.blt b.toNat 128 && asciiA l
def fieldsA (e : TypeId) (args : List Value) : M Value := match args with
  | [.string s] => (M.ok (asciiA (bl s) && Nat.blt (len (bl s)) 4294967281)).bd fun _ => nwS 1 e ((Lib.fields (bl s)).map fun l => .string (ofBl l)) (len (Lib.fields (bl s)))
  | _ => .no
def idxB (c : Nat) : List UInt8 → Nat → Int
  | [], _ => -1
  | b :: l, n => cond (Nat.beq b.toNat c) (n : Int) (idxB c l (n + 1))
def indexByteA (args : List Value) : M Value := match args with
  | [.string s, .int .u8 (.ofNat c)] => (M.ok (Nat.blt c 256)).bd fun _ => .ret (.int .i64 (idxB c (bl s) 0))
  | _ => .no
def selfA (args : List Value) : M Value := match args with
  | [x] => .ret x
  | _ => .no
def cloneA (args : List Value) : M Value := match args with
  | [.iface t (.map (some r))] => (gt r).bd fun o => match o with
    | .map es c => (nw (.map es c)).bd fun b => .ret (.iface t (.map (some b)))
    | _ => .no
  | _ => .no
end
section
variable {P : Program} {H : Nat} {w0 : World} {ω : Om} {g : FuncId}
theorem out_of_calls {args : Array Value} {w : World} {v' : Value} {S : World → Prop} (h : Calls P g args w fun e w' => e = .returned v' ∧ S w') (cs : List Frame) : ∃ w' fr, S w' ∧ Steps P (lone (Frame.enter P g args .normal) cs w) (lone fr cs w') ∧ Out P g .normal fr v' w' := by
  obtain ⟨e, w', fr, ⟨rfl, hS⟩, hC, hfn, h1, h2, h3, fn, h4, h5⟩ := h cs
  exact ⟨w', fr, hS, hC, h1, h2, h3, hfn, fn, by rw [← hfn]; exact h4, h5⟩
theorem VRs.str1 {s : ByteArray} {l : List Value} (h : VRs ω [.string s] l) : l = [.string s] := by
  cases h with | cons h hs => cases h; cases hs; rfl
theorem decDigits_small (n : Nat) (hn : n < 100) (l : List UInt8) (h : itoaS (.ofNat n) = some l) : l = Lib.decDigits n := by
  have h : cond (Nat.blt n 10) (some [dgt n]) (cond (Nat.blt n 100) (some [dgt (n / 10), dgt (n % 10)]) none) = some l := h
  by_cases h1 : n < 10
  · rw [Lib.decDigits_one h1]
    rw [show Nat.blt n 10 = true by rw [Nat.blt_eq]; exact h1] at h
    cases h; rfl
  · rw [Lib.decDigits_two h1 hn]
    rw [show Nat.blt n 10 = false by rw [Bool.eq_false_iff]; intro h; rw [Nat.blt_eq] at h; omega, show Nat.blt n 100 = true by rw [Nat.blt_eq]; exact hn] at h
    cases h; rfl
theorem lb_itoa (hC : ∀ i : Nat, i < 100 → ∀ w, Calls P g #[.int .i64 i] w fun e w' => e = .returned (.string ⟨(Lib.decDigits i).toArray⟩) ∧ w' = w) : LbOk P H w0 g itoaA := by
  intro args W v W' h ω w args' hw hargs cs
  unfold itoaA at h
  split at h
  · rename_i n
    obtain ⟨l, W1, h0, h2⟩ := bd_some h
    obtain ⟨h1, e1⟩ := optS h0
    clear h0
    cases h2
    have ha : args' = [.int .i64 n] := by
      cases hargs with | cons h hs => cases h; cases hs; rfl
    subst ha
    have hn : ∃ m : Nat, n = (m : Int) ∧ m < 100 := by
      unfold itoaS at h1
      split at h1
      · rename_i m
        refine ⟨m, rfl, ?_⟩
        cases hc : Nat.blt m 10 with
        | true => have : m < 10 := by simpa [Nat.blt_eq] using hc
                  omega
        | false =>
          rw [hc] at h1
          simp only [cond_false] at h1
          cases hd : Nat.blt m 100 with
          | true => simpa [Nat.blt_eq] using hd
          | false => rw [hd] at h1; cases h1
      · cases h1
    obtain ⟨m, rfl, hm⟩ := hn
    have hl := decDigits_small m hm l h1
    obtain ⟨w', fr, rfl, h3, h4⟩ := out_of_calls (hC m hm w) cs
    rw [e1]
    exact ⟨ω, .string (ofBl l), w', fr, Gr.refl ω _, hw, .string _, h3, by rw [hl]; exact h4⟩
  · cases h
theorem below_bytes (w : World) (e : TypeId) (s : ByteArray) : Below w.heap.size w (Lib.bytesWorld w e s) := by
  unfold Lib.bytesWorld
  exact Lib.below_freeze ((Below.refl w.heap.size w).drew.alloc (Nat.le_refl _) _) (Nat.le_refl _) 1
theorem atoi_small : ∀ a : UInt8, ∀ n, atoiS [a] = some n → Lib.atoi [a] = some (n : Int) := by
  intro a n h
  have h : cond (Nat.ble 48 a.toNat && Nat.ble a.toNat 57) (some (a.toNat - 48)) none = some n := h
  cases hc : (Nat.ble 48 a.toNat && Nat.ble a.toNat 57) with
  | false => rw [hc] at h; cases h
  | true =>
    rw [hc] at h
    cases h
    simp only [Bool.and_eq_true, Nat.ble_eq] at hc
    have key : ∀ m : Fin 10, Lib.atoi [UInt8.ofNat (48 + m.val)] = some (m.val : Int) := by decide
    have := key ⟨a.toNat - 48, by omega⟩
    simp only [show 48 + (a.toNat - 48) = a.toNat by omega, UInt8.ofNat_toNat] at this
    exact this
theorem lb_atoi {tb : TypeId} (hC : ∀ (s : ByteArray) (n : Int), s.size ≤ 18 → Lib.atoi s.data.toList = some n → ∀ w, Calls P g #[.string s] w fun e w' => e = .returned (.tuple #[.int .i64 n, .nilIface]) ∧ ∃ t, w' = Lib.bytesWorld w tb t) : LbOk P H w0 g atoiA := by
  intro args W v W' h ω w args' hw hargs cs
  unfold atoiA at h
  split at h
  · rename_i s
    obtain ⟨n, W1, h0, h2⟩ := bd_some h
    obtain ⟨h1, e1⟩ := optS h0
    clear h0
    cases h2
    have ha := hargs.str1
    subst ha
    have hs : ∃ a, bl s = [a] := by
      cases hb : bl s with
      | nil => rw [hb] at h1; cases h1
      | cons a l =>
        cases l with
        | nil => exact ⟨a, rfl⟩
        | cons b l => rw [hb] at h1; cases h1
    obtain ⟨a, hs⟩ := hs
    rw [hs] at h1
    have h5 := atoi_small a n h1
    have hsz : s.size = 1 := by rw [← len_bl, hs]; rfl
    obtain ⟨w', fr, ⟨t, rfl⟩, h3, h4⟩ := out_of_calls (hC s n (by omega) (by show Lib.atoi (bl s) = _; rw [hs]; exact h5) w) cs
    rw [e1]
    exact ⟨ω, _, _, fr, Gr.refl ω _, hw.grow (below_bytes w tb t), .tuple (cs := [.int .i64 n, .nilIface]) (cs' := [.int .i64 n, .nilIface]) (.cons (.int _ _) (.cons .nilIface .nil)), h3, h4⟩
  · cases h
theorem asciiA_ok : ∀ {l : List UInt8}, asciiA l = true → ∀ (j : Nat) b, l[j]? = some b → b.toNat < 128
  | [], _, j, b, h => by simp at h
  | a :: l, h, j, b, hb => by
    simp only [asciiA, Bool.and_eq_true] at h
    cases j with
    | zero => simp at hb; subst hb; simpa [Nat.blt_eq] using h.1
    | succ j => exact asciiA_ok h.2 j b (by simpa using hb)
theorem lb_fields {e : TypeId} (hC : ∀ (s : ByteArray) (w : World), s.size < 4294967281 → (∀ (j : Nat) b, s.data.toList[j]? = some b → b.toNat < 128) → Below H w0 w → Calls P g #[.string s] w fun e' w' => e' = .returned (.slice (some ⟨w.heap.size, 0, none⟩) (Lib.fields s.data.toList).length (Lib.fields s.data.toList).length) ∧ w' = w.alloc (.cells ((Lib.fields s.data.toList).map fun l => Value.string ⟨l.toArray⟩).toArray e)) : LbOk P H w0 g (fieldsA e) := by
  intro args W v W' h ω w args' hw hargs cs
  unfold fieldsA at h
  split at h
  · rename_i s
    obtain ⟨u, W1, h1, h2⟩ := bd_some h
    obtain ⟨h1, e1⟩ := okS h1
    rw [e1] at h2
    simp only [Bool.and_eq_true] at h1
    have ha := hargs.str1
    subst ha
    obtain ⟨w', fr, hw', h3, h4⟩ := out_of_calls (hC s w (by have := h1.2; rw [len_bl] at this; simpa [Nat.blt_eq] using this) (asciiA_ok h1.1) hw.below) cs
    have hself : ∀ {l : List (List UInt8)}, VRs ω (l.map fun x => Value.string (ofBl x)) (l.map fun x => Value.string ⟨x.toArray⟩) := fun {l} => by
      induction l with
      | nil => exact .nil
      | cons a l ih => exact .cons (.string _) ih
    rw [len_eq] at h2
    obtain ⟨ω', g1, g2, g3⟩ := nwS_ok (k := 1) (by omega) (rest := []) (c := (Lib.fields (bl s)).length) (e := e) (w' := w') (hself (l := Lib.fields (bl s))) (by simp) (Nat.le_refl _) (by simp) hw h2 (by rw [hw']; show w.heap.push _ = _; rw [List.append_nil]; rfl) (by rw [hw']; rfl) (by rw [hw']; rfl) (by rw [hw']; rfl)
    exact ⟨ω', _, w', fr, g1, g2, g3, h3, h4⟩
  · cases h
/-! #### the model's own -/
theorem ex_of {m : List Value → M Value} {e : Array Value → Sem Value} {fn : Func} (hfn : P.funcs[g]? = some fn) (hname : (fn.name == "runtime.NumGoroutine") = false) (hb : fn.body.isNone = true) (hn : Extern.findNext fn = none) (he : Extern.find fn = some e)
    (h : ∀ ω l l', VRs ω l l' → Sim P H w0 ω (m l) (e l'.toArray) VR) : ∀ ω l l', VRs ω l l' → Sim P H w0 ω (val (m l)) (callFunc g l'.toArray) NR := fun ω l l' hl W w hw a W' hr => by
  obtain ⟨v, W1, h1, h2⟩ := bd_some hr
  cases h2
  obtain ⟨ω', v', w', g1, g2, g3, g4⟩ := h ω l l' hl W w hw _ _ h1
  exact ⟨ω', .value v', w', g1, by rw [run_callFunc_extern hfn hname hb hn he, g2]; rfl, g3, .value g4⟩
theorem sim_same : ∀ ω l l', VRs ω l l' → Sim P H w0 ω (selfA l) (Extern.AbiNoEscape.same l'.toArray) VR := fun ω l l' hl => by
  unfold selfA
  split
  · cases hl with | cons h hs => cases hs; exact Sim.ret h
  · exact Sim.no
theorem sim_clone : ∀ ω l l', VRs ω l l' → Sim P H w0 ω (cloneA l) (Extern.MapsClone.clone l'.toArray) VR := fun ω l l' hl => by
  unfold cloneA
  split
  · rename_i t r
    cases hl with
    | cons h hs =>
      cases hs
      cases h with
      | iface _ h =>
        cases h with
        | @map _ r' hr =>
          show Sim P H w0 ω _ (do
            let .map entries clock ← getObj r' | stuck "maps.clone: a map expected"
            pure (.iface t (.map (some (← newObj (.map entries clock))))))  VR
          refine Sim.getObj hr fun o o' ho => ?_
          cases ho ((0, 0), 0) with
          | @map es es' c hes =>
            exact Sim.new (rm := ((0, 0), 0)) (.map c hes) fun ω' _ b b' hb _ => Sim.ret (.iface t (.map hb))
          | _ => exact Sim.no
  · exact Sim.no
theorem idxB_eq (c : Nat) : ∀ (l : List UInt8) (n : Nat), idxB c l n = match (List.range l.length).find? (fun i => Nat.beq (l.getD i 0).toNat c) with
    | some i => ((n + i : Nat) : Int)
    | none => -1
  | [], n => rfl
  | b :: l, n => by
    rw [List.length_cons, List.range_succ_eq_map, List.find?_cons]
    unfold idxB
    cases hb : Nat.beq b.toNat c with
    | true => simp [hb]
    | false =>
      simp only [cond_false]
      rw [idxB_eq c l (n + 1)]
      have h0 : Nat.beq ((b :: l).getD 0 0).toNat c = false := hb
      rw [h0]
      simp only [List.find?_map]
      have : ((fun i => Nat.beq ((b :: l).getD i 0).toNat c) ∘ Nat.succ) = fun i => Nat.beq (l.getD i 0).toNat c := by
        funext i; simp
      rw [this]
      cases (List.range l.length).find? (fun i => Nat.beq (l.getD i 0).toNat c) with
      | none => rfl
      | some i => show ((n + 1 + i : Nat) : Int) = ((n + (i + 1) : Nat) : Int); congr 1; omega
theorem find_congr {p q : Nat → Bool} : ∀ {l : List Nat}, (∀ i ∈ l, p i = q i) → l.find? p = l.find? q
  | [], _ => rfl
  | a :: l, h => by
    rw [List.find?_cons, List.find?_cons, h a (by simp), find_congr fun i hi => h i (by simp [hi])]
theorem idxB_first (s : ByteArray) (c : Nat) (hc : c < 256) : idxB c (bl s) 0 = firstIdx s (UInt8.ofNat c) := by
  rw [idxB_eq]
  unfold firstIdx
  have hlen : (bl s).length = s.size := by rw [← len_eq, len_bl]
  rw [hlen, find_congr (q := fun i => s[i]! == UInt8.ofNat c)]
  · cases (List.range s.size).find? (fun i => s[i]! == UInt8.ofNat c) with
    | none => rfl
    | some i => simp
  · intro i hi
    have hi : i < s.size := by simpa using hi
    have h1 : s[i]! = s[i] := by simp [getElem!_pos, hi]
    have h2 : (bl s).getD i 0 = s[i] := by
      rw [List.getD_eq_getElem?_getD, List.getElem?_eq_getElem (by rw [hlen]; exact hi)]
      simp [bl]; rfl
    rw [h1, h2, Bool.eq_iff_iff, Nat.beq_eq]
    simp only [beq_iff_eq]
    rw [← UInt8.toNat_inj, UInt8.toNat_ofNat']
    rw [Nat.mod_eq_of_lt (by simpa using hc)]
theorem sim_index1 : ∀ ω l l', VRs ω l l' → Sim P H w0 ω (indexByteA l) (Extern.BytealgIndexByte.indexByte l'.toArray) VR := fun ω l l' hl => by
  unfold indexByteA
  split
  · rename_i s c
    cases hl with
    | cons h hs =>
      cases hs with
      | cons h2 hs =>
        cases hs; cases h; cases h2
        refine Sim.okL fun hc => ?_
        have hc : c < 256 := by simpa [Nat.blt_eq] using hc
        refine Sim.optV (o := some _) fun u hu => ?_
        cases hu
        refine ⟨_, fun w => run_indexByte_string s (Int.ofNat c) w, ?_⟩
        rw [idxB_first s c hc]
        have : (Int.ofNat c).toNat.toUInt8 = UInt8.ofNat c := rfl
        rw [this]
        exact .int _ _
  · exact Sim.no
end
end Go.Cev
namespace Go.Cev
open Go.RowKit
section
variable {P : Program} {H : Nat} {w0 : World}
theorem fnL_ok : ∀ (l : List Func) (n : Nat) (t : PT FnI), (∀ g fi, t.get g = some fi → ∃ fn, P.funcs[g]? = some fn ∧ mkFn fn = some fi) → (∀ j, l[j]? = P.funcs[n + j]?) → ∀ g fi, (fnL l n t).get g = some fi → ∃ fn, P.funcs[g]? = some fn ∧ mkFn fn = some fi
  | [], n, t, ht, hl, g, fi, h => ht g fi h
  | f :: l, n, t, ht, hl, g, fi, h => by
    refine fnL_ok l (n + 1) _ (fun g fi hg => ?_) (fun j => ?_) g fi h
    · rw [PT.get_set] at hg
      by_cases he : g = n
      · rw [if_pos he] at hg
        subst he
        have := hl 0
        exact ⟨f, by simpa using this.symm, hg⟩
      · rw [if_neg he] at hg; exact ht g fi hg
    · have := hl (j + 1)
      rw [List.getElem?_cons_succ] at this
      rw [this]; congr 1; omega
theorem fn_ok (hname : (P.funcs.toList.all fun f => !(f.name == "runtime.NumGoroutine")) = true) (g : Nat) (fi : FnI) (h : (fnL P.funcs.toList 0 .leaf).get g = some fi) : ∃ fn, P.funcs[g]? = some fn ∧ fn.body = some fi.body ∧ fn.ntmps = fi.nt ∧ fn.results.toList = fi.res ∧ (fn.name == "runtime.NumGoroutine") = false := by
  obtain ⟨fn, h1, h2⟩ := fnL_ok (P := P) P.funcs.toList 0 .leaf (fun g fi h => by cases h) (fun j => by simp) g fi h
  unfold mkFn at h2
  cases hb : fn.body with
  | none => rw [hb] at h2; cases h2
  | some c =>
    rw [hb] at h2; cases h2
    refine ⟨fn, h1, hb, rfl, rfl, ?_⟩
    rw [List.all_eq_true] at hname
    have hm : fn ∈ P.funcs.toList := by
      have := Array.mem_of_getElem? h1
      simpa using this
    simpa using hname fn hm
theorem tyL_ok : ∀ (l : List TypeInfo) (n : Nat) (t : PT TyI) (eqs : List Nat), (∀ k i, t.get k = some i → ∃ info, P.types[k]? = some info ∧ mkTy P eqs k info = some i) → (∀ j, l[j]? = P.types[n + j]?) → ∀ k i, (tyL P eqs l n t).get k = some i → ∃ info, P.types[k]? = some info ∧ mkTy P eqs k info = some i
  | [], n, t, eqs, ht, hl, k, i, h => ht k i h
  | f :: l, n, t, eqs, ht, hl, k, i, h => by
    refine tyL_ok l (n + 1) _ eqs (fun k i hk => ?_) (fun j => ?_) k i h
    · rw [PT.get_set] at hk
      by_cases he : k = n
      · rw [if_pos he] at hk
        subst he
        have := hl 0
        exact ⟨f, by simpa using this.symm, hk⟩
      · rw [if_neg he] at hk; exact ht k i hk
    · have := hl (j + 1)
      rw [List.getElem?_cons_succ] at this
      rw [this]; congr 1; omega
theorem memN_mem {t : Nat} : ∀ {l : List Nat}, memN t l = true → t ∈ l
  | [], h => by cases h
  | a :: l, h => by
    unfold memN at h
    cases hc : Nat.beq a t with
    | true => have := Nat.eq_of_beq_eq_true hc; simp [this]
    | false => rw [hc] at h; simp [memN_mem h]
theorem ty_ok {eqs : List Nat} (he : ∀ t ∈ eqs, P.stoodInHeld t = false ∧ P.eqGuardType P.depth t = false) : TbOk P (tyL P eqs P.types.toList 0 .leaf) := by
  intro t i h
  obtain ⟨info, h1, h2⟩ := tyL_ok (P := P) P.types.toList 0 .leaf eqs (fun k i h => by cases h) (fun j => by simp) t i h
  have h1 : P.info? t = some info := by
    have hlt : t < P.types.size := (Array.getElem?_eq_some_iff.1 h1).1
    show P.toTables.info? t = _
    unfold Tables.info?
    rw [if_pos hlt]; exact h1
  unfold mkTy at h2
  cases hu : undOf P info with
  | none => rw [hu] at h2; cases h2
  | some d =>
    rw [hu] at h2
    cases h2
    refine ⟨?_, info, h1, rfl, rfl, fun v hv => ?_, fun hq => he t (memN_mem hq)⟩
    · show P.underlying t = some d
      unfold Program.underlying
      rw [h1]
      unfold undOf at hu
      obtain ⟨desc⟩ := info
      cases desc with
      | named n u =>
        simp only at hu ⊢
        cases hj : P.info? u with
        | none => rw [hj] at hu; cases hu
        | some j => rw [hj] at hu; exact hu
      | _ => exact hu
    · cases hz : info.zero with
      | none => rw [hz] at hv; cases hv
      | some z =>
        rw [hz] at hv
        have hv : cond (cleanC z) (some z) none = some v := hv
        cases hc : cleanC z with
        | true => rw [hc] at hv; cases hv; exact ⟨rfl, hc⟩
        | false => rw [hc] at hv; cases hv
end
end Go.Cev
namespace Go.Cev
open Go.RowKit
/-! ### a closed run -/
noncomputable def yes : Option (Value × AW) → Bool
  | some (.bool b, _) => b
  | _ => false
section
variable {P : Program} {kn : Kn} {g : FuncId}
theorem WR.start (w : World) : WR w.heap.size w ⟨fun _ => Option.none, fun _ => ((0, 0), 0)⟩ ⟨.leaf, 0⟩ w :=
  ⟨Below.refl _ _, Nat.le_refl _, fun b r base h => (by cases h), fun b x h => (by cases h), fun b r base o h => (by cases h), fun b b' r base base' o o' _ h => (by cases h)⟩
/-- what is so by names is so for the machine -/
theorem closed_run {w : World} (hk : KnOk P w.heap.size w kn) (hmix : P.follows .mixedOrders = true) (n : Nat) (h : yes ((evN kn n).call g [] ⟨.leaf, 0⟩) = true) : Calls P g #[] w fun e w' => e = .returned (.bool true) ∧ Below w.heap.size w w' := fun cs => by
  cases hr : (evN kn n).call g [] ⟨.leaf, 0⟩ with
  | none => rw [hr] at h; cases h
  | some x =>
    rw [hr] at h
    obtain ⟨v, W'⟩ := x
    have hv : v = .bool true := by
      cases v <;> first | (cases h; done) | (rename_i b; have : b = true := h; rw [this])
    subst hv
    obtain ⟨hc, -⟩ := evN_ok hk (draw_ok hk hmix) n
    obtain ⟨ω', v', w', fr, g1, g2, g3, g4, g5, g6, g7, g8, fn, g9, g10⟩ := hc.call g [] _ _ _ hr _ w [] (WR.start w) .nil .normal cs (.inl rfl)
    cases g3
    exact ⟨.returned (.bool true), w', fr, ⟨rfl, g2.below⟩, g4, g8, g5, g6, g7, fn, by rw [g8]; exact g9, g10⟩
end
end Go.Cev
