/- Steps of a function body on data, and contracts of the functions of the seat, walked. -/
import Derived.Test.YtgnhhjojiipmgaaGreatDoorKExec
import Derived.WalkKit
set_option linter.unusedSimpArgs false
set_option linter.unusedVariables false
set_option linter.unusedSectionVars false
namespace Go.Kin
open Go.RowKit
structure TyI where
  u : TypeDesc
  size : Nat
  bytes : Nat
  zero : List D
  kt : Bool
  deriving Inhabited
abbrev TE := List (Nat × TyI)
def aggD : TypeDesc → Bool
  | .struct _ | .array _ _ => true
  | _ => false
def TyOk (P : Program) (t : TypeId) (i : TyI) : Prop :=
  P.underlying t = some i.u ∧ ∃ inf z, P.info? t = some inf ∧ inf.size = i.size ∧ inf.bytes = i.bytes ∧ inf.zero = some z ∧ (∀ w Z, RdL w Z i.zero z.cells.toList) ∧ (i.kt = true → P.keyTypeAt 8 t = true ∧ P.eqGuardType P.depth t = false)
def TEok (P : Program) (te : TE) : Prop := ∀ t i, klook t te = some i → TyOk P t i
theorem TEok.nil {P : Program} : TEok P [] := fun _ _ h => by simp [klook] at h
theorem TEok.cons {P : Program} {t : Nat} {u : TypeDesc} {size bytes : Nat} {z : Value} {zs : List D} {te : TE} (h1 : P.underlying t = some u) (h2 : (P.info? t).map (fun i => (i.size, i.bytes, i.zero)) = some (size, bytes, some z))
    (h3 : ∀ w Z, RdL w Z zs z.cells.toList) {kt : Bool} (h4 : kt = true → P.keyTypeAt 8 t = true ∧ P.eqGuardType P.depth t = false) (h : TEok P te) : TEok P ((t, ⟨u, size, bytes, zs, kt⟩) :: te) := fun t' i hl => by
  simp only [klook] at hl
  by_cases ht : t' = t
  · subst ht
    simp only [if_true, Option.some.injEq] at hl
    subst hl
    cases hi : P.info? t' with
    | none => simp [hi] at h2
    | some inf =>
      simp only [hi, Option.map_some, Option.some.injEq, Prod.mk.injEq] at h2
      exact ⟨h1, inf, z, hi, h2.1, h2.2.1, h2.2.2, h3, h4⟩
  · rw [if_neg ht] at hl; exact h t' i hl
section runs
variable {P : Program} {w : World} {t : TypeId} {i : TyI}
theorem TyOk.under (h : TyOk P t i) : (underlying t).run P w = .ok i.u w := run_underlying h.1 w
theorem TyOk.size (h : TyOk P t i) : (sizeOf t).run P w = .ok i.size w := by
  obtain ⟨_, inf, z, h1, h2, _⟩ := h
  simp [sizeOf, typeInfo, h1, h2]
theorem TyOk.zeroR (h : TyOk P t i) : ∃ z, (zeroValue t).run P w = .ok z w ∧ ∀ w Z, RdL w Z i.zero z.cells.toList := by
  obtain ⟨_, inf, z, h1, _, _, h4, h5⟩ := h
  exact ⟨z, by simp [zeroValue, typeInfo, h1, h4], h5.1⟩
theorem TyOk.agg (h : TyOk P t i) : (isAgg t).run P w = .ok (aggD i.u) w := by
  unfold isAgg
  simp only [Sem.run_bind, h.under, Result.andThen_ok]
  cases i.u <;> simp [aggD]
end runs
theorem addr_add (b off n : Nat) : (⟨b, off, none⟩ : Addr).add n = ⟨b, off + n, none⟩ := by
  unfold Addr.add; split <;> simp_all
/-- as many cells, one behind the other -/
theorem run_loadFrom {P : Program} {w : World} {b off : Nat} : ∀ (n i : Nat) (acc : Array Value) (vs : List Value), vs.length = n → (∀ j, j < n → w.cell? ⟨b, off + (i + j), none⟩ = vs[j]?) →
    (loadCellsFrom ⟨b, off, none⟩ i n acc).run P w = .ok (acc ++ vs.toArray) w
  | 0, i, acc, vs, hl, _ => by
    have : vs = [] := List.eq_nil_of_length_eq_zero hl
    subst this
    simp [loadCellsFrom]
  | n + 1, i, acc, vs, hl, h => by
    cases vs with
    | nil => simp at hl
    | cons v vs =>
      have h0 := h 0 (by omega)
      simp only [List.getElem?_cons_zero, Nat.add_zero] at h0
      unfold loadCellsFrom
      have hld : (load ((⟨b, off, none⟩ : Addr).add i)).run P w = .ok v w := by
        rw [addr_add]
        simp [load, Sem.run, h0]
      simp only [Sem.run_bind, hld, Result.andThen_ok]
      rw [run_loadFrom n (i + 1) (acc.push v) vs (by simpa using hl) (fun j hj => by
        have := h (j + 1) (by omega)
        rw [show i + 1 + j = i + (j + 1) from by omega, this]; simp)]
      simp
theorem run_load {P : Program} {w : World} {t : TypeId} {i : TyI} (ht : TyOk P t i) {b off : Nat} {vs : List Value} (hl : vs.length = i.size) (h : ∀ j, j < i.size → w.cell? ⟨b, off + j, none⟩ = vs[j]?) (h1 : aggD i.u = false → i.size = 1) :
    (loadVar t ⟨b, off, none⟩).run P w = .ok (if aggD i.u then .agg vs.toArray else vs.headD undef) w := by
  unfold loadVar
  simp only [Sem.run_bind, ht.agg, Result.andThen_ok]
  cases ha : aggD i.u with
  | true =>
    have := run_loadFrom (P := P) (w := w) (b := b) (off := off) i.size 0 #[] vs hl (by simpa using h)
    simp [ht.size, loadCells, this]
  | false =>
    have h1' := h1 ha
    rw [h1'] at hl h
    match vs, hl with
    | [v], _ =>
      have := h 0 (by omega)
      simp at this
      simp [load, Sem.run, this]
/-! ### each operation's word -/
section
variable {P : Program} {C : Ctx} {o : Oper} {s s' : Sy} {E : Env} {a : Act} {w : World}
theorem Ext.ev (hx : Ext o s s') (hE : SatE C E s' a w) {x : Operand} (hm : x ∈ o.op.operands) {sv : SV} (he : evalO s.S x = some sv) : DenV E w sv (a.eval x) :=
  evalO_den hE (by rw [hx.ops x hm (by rw [he]; simp)]; exact he)
theorem ok_val {sv : SV} (hd : ∀ c, o.op ≠ .defer c) (ht : ∀ t, o.dst = some t → t < s.N)
    (h : ∀ s' E a w, Ext o s s' → SatE C E s' a w → ∃ u, (execOp a.eval o).run P w = .ok (.value u) w ∧ DenV E w sv u) : Ok1 P C o s ⟨sv, [], [], [], []⟩ := by
  refine ⟨hd, fun s' hx a w ⟨E, hE⟩ => ?_⟩
  obtain ⟨u, h1, h2⟩ := h s' E a w hx hE
  unfold gives
  rw [h1]
  exact ⟨E, hE.slot (fun t e => by rw [hx.n]; exact ht t e) h2⟩
theorem ok_move {x : Operand} {sv : SV} (ho : o.op = .move x ∨ o.op = .assign x) (ht : ∀ t, o.dst = some t → t < s.N) (hx : evalO s.S x = some sv) : Ok1 P C o s ⟨sv, [], [], [], []⟩ := by
  refine ok_val (by rcases ho with ho | ho <;> simp [ho]) ht fun s' E a w hext hE => ?_
  rcases ho with ho | ho <;> exact ⟨a.eval x, by simp [execOp, ho], hext.ev hE (by simp [ho, Op.operands]) hx⟩
theorem ok_extract {x : Operand} {i : Nat} {ds : List D} {d : D} (ho : o.op = .extract x i) (ht : ∀ t, o.dst = some t → t < s.N) (hx : evalO s.S x = some (.d (.tup ds))) (hd : ds[i]? = some d) : Ok1 P C o s ⟨.d d, [], [], [], []⟩ := by
  refine ok_val (by simp [ho]) ht fun s' E a w hext hE => ?_
  have h := hext.ev hE (x := x) (by simp [ho, Op.operands]) hx
  simp only [DenV, RdV] at h
  obtain ⟨vs, h1, h2⟩ := h
  obtain ⟨v, h3, h4⟩ := RdL_get h2 hd
  exact ⟨v, by simp [execOp, ho, h1, Instr.extract, h3], h4⟩
def pickSV (c : Bool) : SV → SV → SV
  | .d (.v (.bool x)), .d (.v (.bool y)) => .d (.v (.bool (bif c then x else y)))
  | sa, sb => if c then sa else sb
theorem pickSV_eq (c : Bool) (sa sb : SV) : pickSV c sa sb = if c then sa else sb := by
  unfold pickSV
  split <;> cases c <;> rfl
theorem ok_pick {c x y : Operand} {b : Bool} {sa sb : SV} (ho : o.op = .pick c x y) (ht : ∀ t, o.dst = some t → t < s.N) (hc : evalO s.S c = some (.d (.v (.bool b)))) (hx : evalO s.S x = some sa) (hy : evalO s.S y = some sb) :
    Ok1 P C o s ⟨pickSV b sa sb, [], [], [], []⟩ := by
  refine ok_val (by simp [ho]) ht fun s' E a w hext hE => ?_
  have h := hext.ev hE (x := c) (by simp [ho, Op.operands]) hc
  have h1 := hext.ev hE (x := x) (by simp [ho, Op.operands]) hx
  have h2 := hext.ev hE (x := y) (by simp [ho, Op.operands]) hy
  simp only [DenV, RdV] at h
  refine ⟨if b then a.eval x else a.eval y, by cases b <;> simp [execOp, ho, h, asBool], ?_⟩
  rw [pickSV_eq]
  cases b
  · exact h2
  · exact h1
/-- an operation of which the model knows the value in whatever world -/
theorem ok_run {sv : SV} (hd : ∀ c, o.op ≠ .defer c) (ht : ∀ t, o.dst = some t → t < s.N) {x : Operand} {v : Value} {u : Value} (hm : x ∈ o.op.operands) (hx : evalO s.S x = some (.d (.v v)))
    (h : ∀ (ρ : Operand → Value) w, ρ x = v → (execOp ρ o).run P w = .ok (.value u) w) (hu : sv = .d (.v u)) : Ok1 P C o s ⟨sv, [], [], [], []⟩ := by
  refine ok_val hd ht fun s' E a w hext hE => ?_
  have h1 := hext.ev hE hm hx
  simp only [DenV, RdV] at h1
  exact ⟨u, h _ w h1, by subst hu; simp [DenV, RdV]⟩
theorem ok_run2 {sv : SV} (hd : ∀ c, o.op ≠ .defer c) (ht : ∀ t, o.dst = some t → t < s.N) {x y : Operand} {v v' : Value} {u : Value} (hm : x ∈ o.op.operands) (hm' : y ∈ o.op.operands) (hx : evalO s.S x = some (.d (.v v))) (hy : evalO s.S y = some (.d (.v v')))
    (h : ∀ (ρ : Operand → Value) w, ρ x = v → ρ y = v' → (execOp ρ o).run P w = .ok (.value u) w) (hu : sv = .d (.v u)) : Ok1 P C o s ⟨sv, [], [], [], []⟩ := by
  refine ok_val hd ht fun s' E a w hext hE => ?_
  have h1 := hext.ev hE hm hx
  have h2 := hext.ev hE hm' hy
  simp only [DenV, RdV] at h1 h2
  exact ⟨u, h _ w h1 h2, by subst hu; simp [DenV, RdV]⟩
/-! strings -/
def bytes (s : ByteArray) : List UInt8 := s.data.toList
def mkS (l : List UInt8) : ByteArray := ⟨l.toArray⟩
@[simp] theorem bytes_mkS (l : List UInt8) : bytes (mkS l) = l := by simp [bytes, mkS]
@[simp] theorem mkS_bytes (s : ByteArray) : mkS (bytes s) = s := by simp [bytes, mkS]
theorem size_bytes (s : ByteArray) : s.size = (bytes s).length := by unfold bytes; rw [Array.length_toList]; rfl
theorem toList_bytes (s : ByteArray) : s.toList = bytes s := ByteArray.toList_eq s
theorem mkS_append (x y : ByteArray) : x ++ y = mkS (bytes x ++ bytes y) := by
  apply ByteArray.ext
  apply Array.ext'
  simp only [mkS, bytes, ByteArray.data_append, Array.toList_append]
/-- what a binary operation makes of two plain values, and what it asks -/
def binV (op : BinOp) : Value → Value → Option (Value × Prop)
  | .int k x, .int k' y =>
    if k = k' then
      match op with
      | .add => some (.int k (k.wrap (x + y)), True)
      | .sub => some (.int k (k.wrap (x - y)), True)
      | .mul => some (.int k (k.wrap (x * y)), True)
      | .quo => some (.int k (k.wrap (x.tdiv y)), y ≠ 0)
      | .rem => some (.int k (x.tmod y), y ≠ 0)
      | .eql => some (.bool (x == y), True)
      | .neq => some (.bool (x != y), True)
      | .lss => some (.bool (decide (x < y)), True)
      | .leq => some (.bool (decide (x ≤ y)), True)
      | .gtr => some (.bool (decide (y < x)), True)
      | .geq => some (.bool (decide (y ≤ x)), True)
      | _ => none
    else none
  | .string x, .string y =>
    match op with
    | .add => some (.string (mkS (bytes x ++ bytes y)), (bytes x).length + (bytes y).length ≤ 9223372036854775807)
    | .eql => some (.bool (bytes x == bytes y), True)
    | .neq => some (.bool (!(bytes x == bytes y)), True)
    | .lss => some (.bool (Op.bytesLess (bytes x) (bytes y)), True)
    | .leq => some (.bool (Op.bytesLess (bytes x) (bytes y) || bytes x == bytes y), True)
    | .gtr => some (.bool (!(Op.bytesLess (bytes x) (bytes y) || bytes x == bytes y)), True)
    | .geq => some (.bool (!Op.bytesLess (bytes x) (bytes y)), True)
    | _ => none
  | _, _ => none
theorem run_binV {op : BinOp} {x y u : Value} {ob : Prop} (h : binV op x y = some (u, ob)) (hob : ob) (t : TypeId) (w : World) : (binOp op t x y).run P w = .ok u w := by
  unfold binV at h
  split at h
  · rename_i k a k' b
    split at h
    · rename_i hk
      subst hk
      cases op <;> simp only [Option.some.injEq, Prod.mk.injEq, reduceCtorEq] at h <;> obtain ⟨rfl, rfl⟩ := h <;>
        first
        | (simp [binOp, Op.intArith, Op.intCmp, Op.intDiv]; done)
        | (have hb : ¬ b = 0 := hob
           simp [binOp, Op.intDiv, hb])
    · cases h
  · rename_i a b
    cases op <;> simp only [Option.some.injEq, Prod.mk.injEq, reduceCtorEq] at h <;> obtain ⟨rfl, rfl⟩ := h <;>
      first
      | (simp [binOp, Op.stringOp, toList_bytes]; done)
      | (have hb : ¬ (9223372036854775807 < ((a.size : Int) + (b.size : Int))) := by have := hob; have h1 := size_bytes a; have h2 := size_bytes b; omega
         simp [binOp, Op.stringOp, IntKind.max, IntKind.signed, IntKind.bits, hb, mkS_append])
  · cases h
theorem ok_bin {op : BinOp} {t t' : TypeId} {x y : Operand} {v v' u : Value} {ob : Prop} (ho : o.op = .binOp op t x y t') (ht : ∀ t, o.dst = some t → t < s.N) (hx : evalO s.S x = some (.d (.v v))) (hy : evalO s.S y = some (.d (.v v')))
    (hb : binV op v v' = some (u, ob)) (hob : ob) : Ok1 P C o s ⟨.d (.v u), [], [], [], []⟩ := by
  refine ok_run2 (by simp [ho]) ht (x := x) (y := y) (u := u) (by simp [ho, Op.operands]) (by simp [ho, Op.operands]) hx hy (fun ρ w hx hy => ?_) rfl
  have hg : (eqGuard op t x y v v').run P w = .ok () w := by
    unfold binV at hb
    unfold eqGuard
    split at hb <;> first | cases hb | (cases op <;> simp)
  simp [execOp, ho, hx, hy, hg, run_binV hb hob]
def unV (op : UnOp) : Value → Option Value
  | .bool b => match op with | .not => some (.bool (!b)) | _ => none
  | .int k n => match op with | .neg => some (.int k (k.wrap (0 - n))) | _ => none
  | _ => none
theorem ok_un {op : UnOp} {t : TypeId} {x : Operand} {v u : Value} (ho : o.op = .unOp op t x) (ht : ∀ t, o.dst = some t → t < s.N) (hx : evalO s.S x = some (.d (.v v))) (hu : unV op v = some u) : Ok1 P C o s ⟨.d (.v u), [], [], [], []⟩ := by
  refine ok_run (by simp [ho]) ht (x := x) (u := u) (by simp [ho, Op.operands]) hx (fun ρ w hx => ?_) rfl
  unfold unV at hu
  split at hu <;> cases op <;> simp only [Option.some.injEq, reduceCtorEq] at hu <;> subst hu <;> simp [execOp, ho, hx, Op.unary, Op.intArith]
theorem run_eqBool {t : TypeId} {b c : Bool} {i : TyI} (hti : TyOk P t i) (hi : i.u = .bool) (w : World) : (Op.equal t (.bool b) (.bool c)).run P w = .ok (b == c) w := by
  have hun := hti.under (w := w)
  rw [hi] at hun
  unfold Op.equal
  rw [show Op.maxDepth = 9999 + 1 from rfl, Op.equalIn]
  simp only [Sem.run_bind, hun, Result.andThen_ok]
  rfl
theorem ok_eqBool {op : BinOp} {t t' : TypeId} {x y : Operand} {b c : Bool} {i : TyI} (ho : o.op = .binOp op t x y t') (hop : op = .eql ∨ op = .neq) (hti : TyOk P t i) (hi : i.u = .bool) (ht : ∀ t, o.dst = some t → t < s.N)
    (hx : evalO s.S x = some (.d (.v (.bool b)))) (hy : evalO s.S y = some (.d (.v (.bool c)))) : Ok1 P C o s ⟨.d (.v (.bool (if op = .eql then b == c else b != c))), [], [], [], []⟩ := by
  refine ok_run2 (by simp [ho]) ht (x := x) (y := y) (u := .bool (if op = .eql then b == c else b != c)) (by simp [ho, Op.operands]) (by simp [ho, Op.operands]) hx hy (fun ρ w hx hy => ?_) rfl
  have hr := run_eqBool (b := b) (c := c) hti hi w
  rcases hop with rfl | rfl
  · have : (binOp .eql t (.bool b) (.bool c)).run P w = .ok (.bool (b == c)) w := by
      unfold binOp; simp only [Sem.run_bind, hr, Result.andThen_ok]; rfl
    unfold execOp
    simp [ho, hx, hy, eqGuard, this]
  · have : (binOp .neq t (.bool b) (.bool c)).run P w = .ok (.bool (b != c)) w := by
      unfold binOp; simp only [Sem.run_bind, hr, Result.andThen_ok]; rfl
    unfold execOp
    simp [ho, hx, hy, eqGuard, this]
/-- a comparison of structs, as the model has it -/
theorem ok_eqAg {op : BinOp} {t t' : TypeId} {x y : Operand} {xs ys : List D} {us vs : List Value} {r : Bool} (ho : o.op = .binOp op t x y t') (ht : ∀ t, o.dst = some t → t < s.N)
    (hx : evalO s.S x = some (.d (.ag xs))) (hy : evalO s.S y = some (.d (.ag ys))) (hxs : xs = us.map D.v) (hys : ys = vs.map D.v)
    (h : ∀ w, (do eqGuard op t x y (.agg us.toArray) (.agg vs.toArray); binOp op t (.agg us.toArray) (.agg vs.toArray)).run P w = .ok (.bool r) w) : Ok1 P C o s ⟨.d (.v (.bool r)), [], [], [], []⟩ := by
  have hpl : ∀ {vs : List Value} {E : Env} {w : World} {ws : List Value}, RdL w E.Z (vs.map D.v) ws → ws = vs := by
    intro vs
    induction vs with
    | nil => intro E w ws h; simpa [RdL] using h
    | cons v vs ih =>
      intro E w ws h
      simp only [List.map_cons, RdL, RdV] at h
      obtain ⟨v', ws', rfl, rfl, h2⟩ := h
      rw [ih h2]
  subst hxs; subst hys
  refine ok_val (by simp [ho]) ht fun s' E a w hext hE => ?_
  have h1 := hext.ev hE (x := x) (by simp [ho, Op.operands]) hx
  have h2 := hext.ev hE (x := y) (by simp [ho, Op.operands]) hy
  simp only [DenV, RdV] at h1 h2
  obtain ⟨us', e1, h1⟩ := h1
  obtain ⟨vs', e2, h2⟩ := h2
  rw [hpl h1] at e1
  rw [hpl h2] at e2
  refine ⟨.bool r, ?_, by simp [DenV, RdV]⟩
  have := h w
  simp only [Sem.run_bind] at this
  simp only [execOp, ho, e1, e2, Sem.run_bind]
  generalize Sem.run P (eqGuard op t x y (.agg us.toArray) (.agg vs.toArray)) w = r1 at *
  cases r1 with
  | halt h w => simp [Result.andThen] at this
  | ok u w1 =>
    simp only [Result.andThen_ok] at this ⊢
    rw [this]
    simp [Result.andThen_ok]
/-! ### is it nil? -/
def nilEq : TypeDesc → SV → Value → Option Bool
  | .func _ _ _, sv, .nilFunc => match sv with
    | .d (.fn _ _) => some false
    | .fn _ _ => some false
    | .d (.v x) => (match x with | .nilFunc => some true | _ => none)
    | _ => none
  | .pointer _, sv, .pointer none => match sv with
    | .d (.ptr _) => some false
    | .lp _ _ => some false
    | .d (.v x) => (match x with | .pointer none => some true | _ => none)
    | _ => none
  | .interface _, sv, .nilIface => match sv with
    | .d (.ifc _ _) => some false
    | .d (.v x) => (match x with | .nilIface => some true | _ => none)
    | _ => none
  | _, _, _ => none
theorem nil_of_eq {t : TypeId} {v nv : Value} {w : World} {b : Bool} (h : (Op.equal t v nv).run P w = .ok b w) (hg : ∀ op x c, (eqGuard op t x (Operand.const c) v nv).run P w = .ok () w)
    (h1 : binOp .eql t v nv = (do pure (.bool (← Op.equal t v nv)))) (h2 : binOp .neq t v nv = (do pure (.bool (!(← Op.equal t v nv))))) :
    (∀ op x c, (eqGuard op t x (Operand.const c) v nv).run P w = .ok () w) ∧ (binOp .eql t v nv).run P w = .ok (.bool b) w ∧ (binOp .neq t v nv).run P w = .ok (.bool (!b)) w := by
  refine ⟨hg, ?_, ?_⟩
  · rw [h1]; simp [h]
  · rw [h2]; simp [h]
theorem run_nilEq {t : TypeId} {i : TyI} (hti : TyOk P t i) {E : Env} {w w' : World} {sv : SV} {nv v : Value} {b : Bool} (h : nilEq i.u sv nv = some b) (hv : DenV E w sv v) :
    (∀ op x c, (eqGuard op t x (Operand.const c) v nv).run P w' = .ok () w') ∧ (binOp .eql t v nv).run P w' = .ok (.bool b) w' ∧ (binOp .neq t v nv).run P w' = .ok (.bool (!b)) w' := by
  have hun := hti.under (w := w')
  have hop : Op.equal t v nv = Op.equalIn (9999 + 1) t v nv := rfl
  cases hu : i.u with
  | func ps rs vr =>
    rw [hu] at h hun
    cases nv <;> simp only [nilEq] at h <;> try (cases h; done)
    split at h
    · cases h
      simp only [DenV, RdV] at hv
      obtain ⟨vs, rfl, _⟩ := hv
      exact nil_of_eq (by rw [hop, Op.equalIn]; simp [Sem.run_bind, hun]) (fun op x c => by cases op <;> rfl) rfl rfl
    · cases h
      simp only [DenV] at hv
      obtain ⟨vs, rfl, _⟩ := hv
      exact nil_of_eq (by rw [hop, Op.equalIn]; simp [Sem.run_bind, hun]) (fun op x c => by cases op <;> rfl) rfl rfl
    · split at h
      · cases h
        simp only [DenV, RdV] at hv
        subst hv
        exact nil_of_eq (by rw [hop, Op.equalIn]; simp [Sem.run_bind, hun]) (fun op x c => by cases op <;> rfl) rfl rfl
      · cases h
    · cases h
  | pointer e =>
    rw [hu] at h hun
    cases nv with
    | pointer p =>
      cases p with
      | some a => simp [nilEq] at h
      | none =>
        simp only [nilEq] at h
        split at h
        · cases h
          simp only [DenV, RdV] at hv
          obtain ⟨b, off, rfl, _⟩ := hv
          exact nil_of_eq (by rw [hop, Op.equalIn]; simp [Sem.run_bind, hun]) (fun op x c => by cases op <;> rfl) rfl rfl
        · cases h
          simp only [DenV] at hv
          subst hv
          exact nil_of_eq (by rw [hop, Op.equalIn]; simp [Sem.run_bind, hun]) (fun op x c => by cases op <;> rfl) rfl rfl
        · split at h
          · cases h
            simp only [DenV, RdV] at hv
            subst hv
            exact nil_of_eq (by rw [hop, Op.equalIn]; simp [Sem.run_bind, hun]) (fun op x c => by cases op <;> rfl) rfl rfl
          · cases h
        · cases h
    | _ => simp [nilEq] at h
  | interface ms =>
    rw [hu] at h hun
    cases nv <;> simp only [nilEq] at h <;> try (cases h; done)
    split at h
    · cases h
      simp only [DenV, RdV] at hv
      obtain ⟨v', rfl, _⟩ := hv
      exact nil_of_eq (by rw [hop, Op.equalIn]; simp [Sem.run_bind, hun]) (fun op x c => by cases op <;> rfl) rfl rfl
    · split at h
      · cases h
        simp only [DenV, RdV] at hv
        subst hv
        exact nil_of_eq (by rw [hop, Op.equalIn]; simp [Sem.run_bind, hun]) (fun op x c => by cases op <;> cases x <;> rfl) rfl rfl
      · cases h
    · cases h
  | _ => rw [hu] at h; simp [nilEq] at h
theorem ok_nilEq {op : BinOp} (hop : op = .eql ∨ op = .neq) {t t' : TypeId} {x : Operand} {nv : Value} {sv : SV} {i : TyI} {b : Bool} (ho : o.op = .binOp op t x (.const nv) t') (hti : TyOk P t i) (ht : ∀ t, o.dst = some t → t < s.N)
    (hx : evalO s.S x = some sv) (h : nilEq i.u sv nv = some b) : Ok1 P C o s ⟨.d (.v (.bool (if op = .eql then b else !b))), [], [], [], []⟩ := by
  refine ok_val (by simp [ho]) ht fun s' E a w hext hE => ?_
  have h1 := hext.ev hE (x := x) (by simp [ho, Op.operands]) hx
  obtain ⟨hg, h2, h3⟩ := run_nilEq (P := P) hti (w' := w) h h1
  refine ⟨.bool (if op = .eql then b else !b), ?_, by simp [DenV, RdV]⟩
  have he : a.eval (.const nv) = nv := rfl
  rcases hop with rfl | rfl
  · simp [execOp, ho, he, hg, h2, Sem.run_bind]
  · simp [execOp, ho, he, hg, h3, Sem.run_bind]
/-! ### structs are equal where all their leaves are -/
def eqFs (te : TE) (rec : TypeId → List D → List D → Option Bool) : List Field → List D → List D → Option Bool
  | [], _, _ => some true
  | f :: r, xs, ys => match klook f.type te with
    | some j => match rec f.type ((xs.drop f.offset).take j.size) ((ys.drop f.offset).take j.size) with
      | some a => match eqFs te rec r xs ys with | some b => some (a && b) | none => none
      | none => none
    | none => none
def eqV (te : TE) : Nat → TypeId → List D → List D → Option Bool
  | 0, _, _, _ => none
  | d + 1, t, xs, ys => match klook t te with
    | some i => match i.u with
      | .struct fs => if i.kt = true then eqFs te (eqV te d) fs.toList xs ys else none
      | .bool => match xs, ys with | [.v (.bool a)], [.v (.bool b)] => some (a == b) | _, _ => none
      | .int _ => match xs, ys with | [.v (.int k a)], [.v (.int k' b)] => if k = k' then some (a == b) else none | _, _ => none
      | .string => match xs, ys with | [.v (.string a)], [.v (.string b)] => some (bytes a == bytes b) | _, _ => none
      | _ => none
    | none => none
def valOf (u : TypeDesc) (us : List Value) : Value := if aggD u = true then .agg us.toArray else us.headD undef
theorem RdL_one {w : World} {Z : Nat → Prop} {x : Value} {us : List Value} (h : RdL w Z [D.v x] us) : us = [x] := by
  simp only [RdL, RdV] at h
  obtain ⟨v, vs, rfl, rfl, rfl⟩ := h
  rfl
theorem run_partV {w : World} {t : TypeId} {j : TyI} (hj : TyOk P t j) {us : List Value} {off : Nat} (h1 : aggD j.u = false → ∃ v, (us.drop off).take j.size = [v]) :
    (part t us.toArray off).run P w = .ok (valOf j.u ((us.drop off).take j.size)) w := by
  unfold part
  simp only [Sem.run_bind, hj.agg, Result.andThen_ok]
  unfold valOf
  cases ha : aggD j.u with
  | true =>
    simp only [if_true, Sem.run_bind, hj.size, Result.andThen_ok, Sem.run_pure]
    congr 2
    apply Array.ext'
    rw [Array.toList_extract]
    simp [List.extract]
  | false =>
    obtain ⟨v, hv⟩ := h1 ha
    have hg : us[off]? = some v := by
      have : ((us.drop off).take j.size)[0]? = some v := by rw [hv]; rfl
      have hs : 0 < j.size := by
        rcases Nat.eq_zero_or_pos j.size with h | h
        · rw [h] at hv; simp at hv
        · exact h
      rw [List.getElem?_take_of_lt hs] at this
      simpa using this
    simp [hg, hv]
theorem eqV_one {te : TE} {d t : Nat} {xs ys : List D} {r : Bool} {j : TyI} (hj : klook t te = some j) (ha : aggD j.u = false) (h : eqV te d t xs ys = some r) : xs.length = 1 ∧ ys.length = 1 := by
  cases d with
  | zero => simp [eqV] at h
  | succ d =>
    simp only [eqV, hj] at h
    cases hu : j.u <;> simp only [hu] at h ha <;> first | (simp [aggD] at ha; done) | skip
    all_goals (first | (split at h <;> first | exact ⟨rfl, rfl⟩ | cases h) | cases h)
theorem eqV_run {te : TE} (hte : TEok P te) {w : World} {Z : Nat → Prop} : ∀ (d t : Nat) (xs ys : List D) (r : Bool) (i : TyI), eqV te d t xs ys = some r → klook t te = some i → ∀ (us vs : List Value), RdL w Z xs us → RdL w Z ys vs → ∀ e,
    (Op.equalIn (e + d) t (valOf i.u us) (valOf i.u vs)).run P w = .ok r w
  | 0, _, _, _, _, _, h, _, _, _, _, _, _ => by simp [eqV] at h
  | d + 1, t, xs, ys, r, i, h, hi, us, vs, hx, hy, e => by
    have hti := hte t i hi
    have hun := hti.under (w := w)
    simp only [eqV, hi] at h
    cases hu : i.u <;> simp only [hu] at h hun <;> first | (cases h; done) | skip
    case bool =>
      split at h
      · rename_i a b
        rw [RdL_one hx, RdL_one hy]
        cases h
        rw [show e + (d + 1) = (e + d) + 1 from rfl, Op.equalIn]
        simp [valOf, aggD, hun]
      · cases h
    case int k0 =>
      split at h
      · rename_i k a k' b
        split at h
        · rename_i hk
          subst hk
          rw [RdL_one hx, RdL_one hy]
          cases h
          rw [show e + (d + 1) = (e + d) + 1 from rfl, Op.equalIn]
          simp [valOf, aggD, hun]
        · cases h
      · cases h
    case string =>
      split at h
      · rename_i a b
        rw [RdL_one hx, RdL_one hy]
        cases h
        rw [show e + (d + 1) = (e + d) + 1 from rfl, Op.equalIn]
        have := beq_toListBytes a b
        rw [toList_bytes, toList_bytes] at this
        simp [valOf, aggD, hun, this]
      · cases h
    case struct fs =>
      split at h
      · rename_i hkt
        obtain ⟨h1, inf, z, _, _, _, _, _, h5⟩ := hti
        have hk := (h5 hkt).1
        rw [hu] at h1
        simp only [Program.keyTypeAt, h1, Bool.and_eq_true, Bool.not_eq_true'] at hk
        have hfs : P.fieldsOf t = fs := by simp [Program.fieldsOf, h1]
        simp only [valOf, aggD, if_true]
        rw [show e + (d + 1) = (e + d) + 1 from rfl, run_equalIn_struct w (e + d) t _ _ (by rw [hfs]; exact h1) hk.2, hfs]
        have hnm : ∀ f ∈ fs.toList, f.name ≠ "_" := fun f hf => by
          have := Array.all_eq_true_iff_forall_mem.1 hk.1.1 f (Array.mem_toList_iff.1 hf)
          simp only [Bool.and_eq_true, bne_iff_ne, ne_eq] at this
          exact this.1
        revert h hnm
        generalize fs.toList = l
        intro h hnm
        induction l generalizing r with
        | nil => simp only [eqFs, Option.some.injEq] at h; subst h; simp [Op.eqFields]
        | cons f l ih =>
          simp only [eqFs] at h
          cases hj : klook f.type te with
          | none => simp [hj] at h
          | some j =>
            simp only [hj] at h
            cases ha : eqV te d f.type ((xs.drop f.offset).take j.size) ((ys.drop f.offset).take j.size) with
            | none => simp [ha] at h
            | some a =>
              simp only [ha] at h
              cases hb : eqFs te (eqV te d) l xs ys with
              | none => simp [hb] at h
              | some b =>
                simp only [hb, Option.some.injEq] at h
                subst h
                have hxs := RdL_take j.size (RdL_drop f.offset hx)
                have hys := RdL_take j.size (RdL_drop f.offset hy)
                have h1 : aggD j.u = false → ((us.drop f.offset).take j.size).length = 1 ∧ ((vs.drop f.offset).take j.size).length = 1 := fun hag => by
                  have := eqV_one hj hag ha
                  exact ⟨(RdL_length hxs).trans this.1, (RdL_length hys).trans this.2⟩
                have hone : ∀ l : List Value, l.length = 1 → ∃ v, l = [v] := fun l hl => by
                  match l, hl with
                  | [v], _ => exact ⟨v, rfl⟩
                have hr := eqV_run hte d f.type _ _ a j ha hj _ _ hxs hys e
                simp only [Op.eqFields, hnm f (List.mem_cons_self ..), ne_eq, not_false_eq_true, if_true, Sem.run_bind, run_partV (hte _ _ hj) (fun hag => hone _ (h1 hag).1), run_partV (hte _ _ hj) (fun hag => hone _ (h1 hag).2), hr, Result.andThen_ok]
                cases a
                · simp
                · simpa using ih b hb (fun g hg => hnm g (List.mem_cons_of_mem _ hg))
      · cases h
theorem ok_eqSt {te : TE} (hte : TEok P te) {op : BinOp} (hop : op = .eql ∨ op = .neq) {t t' : TypeId} {x y : Operand} {xs ys : List D} {i : TyI} {r : Bool} (ho : o.op = .binOp op t x y t') (ht : ∀ t, o.dst = some t → t < s.N)
    (hx : evalO s.S x = some (.d (.ag xs))) (hy : evalO s.S y = some (.d (.ag ys))) (hi : klook t te = some i) (hag : aggD i.u = true) (hkt : i.kt = true) (h : eqV te 8 t xs ys = some r) : Ok1 P C o s ⟨.d (.v (.bool (if op = .eql then r else !r))), [], [], [], []⟩ := by
  refine ok_val (by simp [ho]) ht fun s' E a w hext hE => ?_
  have h1 := hext.ev hE (x := x) (by simp [ho, Op.operands]) hx
  have h2 := hext.ev hE (x := y) (by simp [ho, Op.operands]) hy
  simp only [DenV, RdV] at h1 h2
  obtain ⟨us, e1, h1⟩ := h1
  obtain ⟨vs, e2, h2⟩ := h2
  refine ⟨.bool (if op = .eql then r else !r), ?_, by simp [DenV, RdV]⟩
  have hr := eqV_run hte 8 t xs ys r i h hi us vs h1 h2 9992
  simp only [valOf, hag, if_true] at hr
  have heq : (Op.equal t (.agg us.toArray) (.agg vs.toArray)).run P w = .ok r w := hr
  obtain ⟨_, inf, z, _, _, _, _, _, h5⟩ := hte t i hi
  have hg := (h5 hkt).2
  have hguard : (eqGuard op t x y (.agg us.toArray) (.agg vs.toArray)).run P w = .ok () w := by
    unfold eqGuard
    rcases hop with rfl | rfl <;> simp [hg]
  rcases hop with rfl | rfl
  · have : (binOp .eql t (.agg us.toArray) (.agg vs.toArray)).run P w = .ok (.bool r) w := by
      unfold binOp; simp only [Sem.run_bind, heq, Result.andThen_ok]; rfl
    simp [execOp, ho, e1, e2, hguard, this]
  · have : (binOp .neq t (.agg us.toArray) (.agg vs.toArray)).run P w = .ok (.bool (!r)) w := by
      unfold binOp; simp only [Sem.run_bind, heq, Result.andThen_ok]; rfl
    simp [execOp, ho, e1, e2, hguard, this]
/-- an integer of another kind -/
theorem ok_convInt {t t' : TypeId} {x : Operand} {k k' : IntKind} {n : Int} {i j : TyI} (ho : o.op = .convert t t' x) (ht : ∀ t, o.dst = some t → t < s.N) (hx : evalO s.S x = some (.d (.v (.int k n)))) (hi : TyOk P t i) (hj : TyOk P t' j) (hju : j.u = .int k') :
    Ok1 P C o s ⟨.d (.v (.int k' (k'.wrap n))), [], [], [], []⟩ := by
  refine ok_run (by simp [ho]) ht (x := x) (u := .int k' (k'.wrap n)) (by simp [ho, Op.operands]) hx (fun ρ w hx => ?_) rfl
  have h1 := hi.under (w := w)
  have h2 := hj.under (w := w)
  rw [hju] at h2
  have : (convert t t' (.int k n)).run P w = .ok (.int k' (k'.wrap n)) w := by
    unfold convert
    simp only [Sem.run_bind, h1, h2, Result.andThen_ok]
    cases i.u <;> simp [Conv.intToInt]
  simp [execOp, ho, hx, this]
/-! addresses -/
theorem ok_fieldAddr_lp {t : TypeId} {x : Operand} {f key off : Nat} {i j : TyI} {fs : Array Field} {fd : Field} (ho : o.op = .fieldAddr t x f) (ht : ∀ t, o.dst = some t → t < s.N) (hx : evalO s.S x = some (.lp key off))
    (hi : TyOk P t i) (hu : i.u = .struct fs) (hf : fs[f]? = some fd) (hj : TyOk P fd.type j) (hsz : j.size ≠ 0) : Ok1 P C o s ⟨.lp key (off + fd.offset), [], [], [], []⟩ := by
  refine ok_val (by simp [ho]) ht fun s' E a w hext hE => ?_
  have h := hext.ev hE (x := x) (by simp [ho, Op.operands]) hx
  simp only [DenV] at h
  have hun := hi.under (w := w)
  rw [hu] at hun
  refine ⟨.pointer (some ⟨E.β key, off + fd.offset, none⟩), ?_, by simp [DenV]⟩
  simp [execOp, ho, h, Instr.fieldAt, hun, hf, Instr.sureAddr, fieldPlace, hj.size, hsz, addr_add]
theorem ok_fieldAddr_rp {t : TypeId} {x : Operand} {f : Nat} {cs : List D} {i j : TyI} {fs : Array Field} {fd : Field} (ho : o.op = .fieldAddr t x f) (ht : ∀ t, o.dst = some t → t < s.N) (hx : evalO s.S x = some (.d (.ptr cs)))
    (hi : TyOk P t i) (hu : i.u = .struct fs) (hf : fs[f]? = some fd) (hj : TyOk P fd.type j) (hsz : j.size ≠ 0) : Ok1 P C o s ⟨.d (.ptr (cs.drop fd.offset)), [], [], [], []⟩ := by
  refine ok_val (by simp [ho]) ht fun s' E a w hext hE => ?_
  have h := hext.ev hE (x := x) (by simp [ho, Op.operands]) hx
  simp only [DenV, RdV] at h
  obtain ⟨b, off, h1, hz, h2⟩ := h
  have hun := hi.under (w := w)
  rw [hu] at hun
  refine ⟨.pointer (some ⟨b, off + fd.offset, none⟩), ?_, ?_⟩
  · simp [execOp, ho, h1, Instr.fieldAt, hun, hf, Instr.sureAddr, fieldPlace, hj.size, hsz, addr_add]
  · simp only [DenV, RdV]
    exact ⟨b, off + fd.offset, rfl, hz, RdC_drop _ h2⟩
/-- the datum of a type's cells -/
def mkD (u : TypeDesc) (cs : List D) : D := if aggD u then .ag cs else cs.headD (.v undef)
theorem ok_load_rp {t : TypeId} {x : Operand} {cs : List D} {i : TyI} (ho : o.op = .load t x) (ht : ∀ t, o.dst = some t → t < s.N) (hx : evalO s.S x = some (.d (.ptr cs))) (hi : TyOk P t i) (h1 : aggD i.u = false → i.size = 1) (hl : i.size ≤ cs.length) :
    Ok1 P C o s ⟨.d (mkD i.u (cs.take i.size)), [], [], [], []⟩ := by
  refine ok_val (by simp [ho]) ht fun s' E a w hext hE => ?_
  have h := hext.ev hE (x := x) (by simp [ho, Op.operands]) hx
  simp only [DenV, RdV] at h
  obtain ⟨b, off, e1, hz, h2⟩ := h
  obtain ⟨vs, h3, h4⟩ := RdC_vals (RdC_take i.size h2)
  have hlen : (cs.take i.size).length = i.size := by simp [hl]
  have hvl : vs.length = i.size := by rw [RdL_length h3, hlen]
  have := run_load (P := P) (w := w) (t := t) hi (b := b) (off := off) (vs := vs) hvl (fun j hj => h4 j (by rw [hlen]; exact hj)) h1
  refine ⟨if aggD i.u then .agg vs.toArray else vs.headD undef, by simp [execOp, ho, e1, Instr.loadAt, Instr.sureAddr, this], ?_⟩
  unfold mkD
  cases ha : aggD i.u with
  | true => simp only [if_true, DenV, RdV]; exact ⟨vs, rfl, h3⟩
  | false =>
    have h1' := h1 ha
    simp only [Bool.false_eq_true, if_false, DenV]
    rw [h1'] at hlen hvl h3
    rw [h1']
    match hcs : cs.take 1, hlen, h3 with
    | [c], _, h3 =>
      simp only [RdL] at h3
      obtain ⟨v, vs', rfl, h5, _⟩ := h3
      simpa using h5
def mkSV (u : TypeDesc) (cs : List SV) : Option SV := if aggD u then (match allD cs with | some ds => some (.d (.ag ds)) | none => none) else cs.head?
theorem ok_load_lp {t T : TypeId} {x : Operand} {key off : Nat} {cs : List SV} {i : TyI} {sv : SV} (ho : o.op = .load t x) (ht : ∀ t, o.dst = some t → t < s.N) (hx : evalO s.S x = some (.lp key off)) (hL : s.L key = some (T, cs)) (hi : TyOk P t i) (h1 : aggD i.u = false → i.size = 1)
    (hl : off + i.size ≤ cs.length) (hsv : mkSV i.u ((cs.drop off).take i.size) = some sv) : Ok1 P C o s ⟨sv, [], [], [], []⟩ := by
  refine ok_val (by simp [ho]) ht fun s' E a w hext hE => ?_
  have h := hext.ev hE (x := x) (by simp [ho, Op.operands]) hx
  simp only [DenV] at h
  obtain ⟨us, h2, h3⟩ := hE.hp.loc key T cs (by rw [hext.l key (by rw [hL]; simp)]; exact hL)
  have h4 := DenL_take i.size (DenL_drop off h3)
  have hul := DenL_length h3
  have hvl : ((us.drop off).take i.size).length = i.size := by simp; omega
  have hcell : ∀ j, j < i.size → w.cell? ⟨E.β key, off + j, none⟩ = ((us.drop off).take i.size)[j]? := fun j hj => by
    rw [List.getElem?_take_of_lt hj, List.getElem?_drop]
    simp [World.cell?, h2]
  have hr := run_load (P := P) (w := w) (t := t) hi hvl hcell h1
  refine ⟨if aggD i.u then .agg ((us.drop off).take i.size).toArray else ((us.drop off).take i.size).headD undef, by simp [execOp, ho, h, Instr.loadAt, Instr.sureAddr, hr], ?_⟩
  unfold mkSV at hsv
  cases ha : aggD i.u with
  | true =>
    simp only [ha, if_true] at hsv ⊢
    cases hall : allD ((cs.drop off).take i.size) with
    | none => simp [hall] at hsv
    | some ds =>
      simp [hall] at hsv
      subst hsv
      simp only [DenV, RdV]
      exact ⟨_, rfl, RdL_of_DenL hall h4⟩
  | false =>
    have h1' := h1 ha
    simp only [ha, Bool.false_eq_true, if_false] at hsv ⊢
    cases hcs : (cs.drop off).take i.size with
    | nil => simp [hcs] at hsv
    | cons c rest =>
      simp [hcs] at hsv
      subst hsv
      rw [hcs] at h4
      simp only [DenL] at h4
      obtain ⟨v, vs', e1, h5, _⟩ := h4
      rw [e1]
      simpa using h5
theorem ok_index_str {t : TypeId} {x y : Operand} {str : ByteArray} {n : Int} {k : IntKind} {i : TyI} (ho : o.op = .index t x y) (ht : ∀ t, o.dst = some t → t < s.N) (hi : TyOk P t i) (hu : i.u = .string)
    (hx : evalO s.S x = some (.d (.v (.string str)))) (hy : evalO s.S y = some (.d (.v (.int k n)))) (h0 : 0 ≤ n) (h1 : n < (bytes str).length) : Ok1 P C o s ⟨.d (.v (.int .u8 (((bytes str).getD n.toNat 0).toNat : Nat))), [], [], [], []⟩ := by
  refine ok_run2 (by simp [ho]) ht (x := x) (y := y) (u := .int .u8 (((bytes str).getD n.toNat 0).toNat : Nat)) (by simp [ho, Op.operands]) (by simp [ho, Op.operands]) hx hy (fun ρ w hx hy => ?_) rfl
  have hun := hi.under (w := w)
  rw [hu] at hun
  have hlt : n.toNat < str.size := by rw [size_bytes]; omega
  have he : str[n.toNat]? = some ((bytes str).getD n.toNat 0) := by
    rw [getElem?_pos str n.toNat hlt]
    congr 1
    have hlt' : n.toNat < (bytes str).length := by rw [← size_bytes]; exact hlt
    rw [List.getD_eq_getElem?_getD, List.getElem?_eq_getElem hlt']
    rfl
  simp [execOp, ho, hx, hy, Instr.index, asIntOf, hun, h0, he]
theorem ok_len_str {x : Operand} {str : ByteArray} {t : TypeId} {i : TyI} {ts : Array TypeId} (ho : o.op = .call { callee := .builtin .len, args := #[x], argTypes := ts }) (hts : ts = #[t]) (ht : ∀ t, o.dst = some t → t < s.N) (hi : TyOk P t i) (hu : i.u = .string)
    (hx : evalO s.S x = some (.d (.v (.string str)))) : Ok1 P C o s ⟨.d (.v (.int .i64 ((bytes str).length : Nat))), [], [], [], []⟩ := by
  subst hts
  refine ok_run (by simp [ho]) ht (x := x) (u := .int .i64 ((bytes str).length : Nat)) (by simp [ho, Op.operands, Call.operands]) hx (fun ρ w hx => ?_) rfl
  have hun := hi.under (w := w)
  rw [hu] at hun
  simp [execOp, ho, resolve, invoke, builtin, hx, Builtin.len_, hun, goInt, size_bytes]
theorem ok_len_sl {x : Operand} {k n ex : Nat} {row : Nat → List D} {t e : TypeId} {i : TyI} {ts : Array TypeId} (ho : o.op = .call { callee := .builtin .len, args := #[x], argTypes := ts }) (hts : ts = #[t]) (ht : ∀ t, o.dst = some t → t < s.N) (hi : TyOk P t i) (hu : i.u = .slice e)
    (hx : evalO s.S x = some (.d (.sl k n ex row))) : Ok1 P C o s ⟨.d (.v (.int .i64 (n : Nat))), [], [], [], []⟩ := by
  subst hts
  refine ok_val (by simp [ho]) ht fun s' E a w hext hE => ?_
  have h := hext.ev hE (x := x) (by simp [ho, Op.operands, Call.operands]) hx
  simp only [DenV, RdV] at h
  obtain ⟨ad, c, h1, _⟩ := h
  have hun := hi.under (w := w)
  rw [hu] at hun
  exact ⟨.int .i64 (n : Nat), by simp [execOp, ho, resolve, invoke, builtin, h1, Builtin.len_, hun, goInt], by simp [DenV, RdV]⟩
theorem ok_len_nil {x : Operand} {t e : TypeId} {i : TyI} {ts : Array TypeId} {m : Nat} {ad : Option Addr} {c : Nat} (ho : o.op = .call { callee := .builtin .len, args := #[x], argTypes := ts }) (hts : ts = #[t]) (ht : ∀ t, o.dst = some t → t < s.N) (hi : TyOk P t i) (hu : i.u = .slice e)
    (hx : evalO s.S x = some (.d (.v (.slice ad m c)))) : Ok1 P C o s ⟨.d (.v (.int .i64 (m : Nat))), [], [], [], []⟩ := by
  subst hts
  refine ok_run (by simp [ho]) ht (x := x) (u := .int .i64 (m : Nat)) (by simp [ho, Op.operands, Call.operands]) hx (fun ρ w hx => ?_) rfl
  have hun := hi.under (w := w)
  rw [hu] at hun
  simp [execOp, ho, resolve, invoke, builtin, hx, Builtin.len_, hun, goInt]
theorem ok_len_own {x : Operand} {key : Nat} {ow : Ow} {t e : TypeId} {i : TyI} {ts : Array TypeId} (ho : o.op = .call { callee := .builtin .len, args := #[x], argTypes := ts }) (hts : ts = #[t]) (ht : ∀ t, o.dst = some t → t < s.N) (hi : TyOk P t i) (hu : i.u = .slice e)
    (hx : evalO s.S x = some (.own key)) (hO : s.O key = some ow) : Ok1 P C o s ⟨.d (.v (.int .i64 (ow.n : Nat))), [], [], [], []⟩ := by
  subst hts
  refine ok_val (by simp [ho]) ht fun s' E a w hext hE => ?_
  have h := hext.ev hE (x := x) (by simp [ho, Op.operands, Call.operands]) hx
  simp only [DenV] at h
  obtain ⟨⟨_, h0, _⟩, h2⟩ := hE.hp.own key ow (by rw [hext.o key (by rw [hO]; simp)]; exact hO)
  have hun := hi.under (w := w)
  rw [hu] at hun
  refine ⟨.int .i64 (ow.n : Nat), ?_, by simp [DenV, RdV]⟩
  rcases h2 with ⟨h2, h3⟩ | ⟨g, cap, vs, h2, _⟩
  · have h4 : ow.n = 0 := by omega
    rw [h2] at h; simp [execOp, ho, resolve, invoke, builtin, h, Builtin.len_, hun, goInt, h4]
  · rw [h2] at h; simp [execOp, ho, resolve, invoke, builtin, h, Builtin.len_, hun, goInt]
theorem ok_maxmin {x y : Operand} {k k' : IntKind} {m n : Int} {ts : Array TypeId} {mx : Bool} (ho : o.op = .call { callee := .builtin (if mx then .max else .min), args := #[x, y], argTypes := ts }) (ht : ∀ t, o.dst = some t → t < s.N)
    (hx : evalO s.S x = some (.d (.v (.int k m)))) (hy : evalO s.S y = some (.d (.v (.int k' n)))) : Ok1 P C o s ⟨.d (.v (.int k (if mx then max m n else min m n))), [], [], [], []⟩ := by
  refine ok_run2 (by simp [ho]) ht (x := x) (y := y) (u := .int k (if mx then max m n else min m n)) (by simp [ho, Op.operands, Call.operands]) (by simp [ho, Op.operands, Call.operands]) hx hy (fun ρ w hx hy => ?_) rfl
  cases mx
  · simp only [Bool.false_eq_true, if_false] at ho ⊢
    have : (if n < m then n else m) = min m n := by rw [Int.min_def]; split <;> split <;> omega
    simp [execOp, ho, resolve, invoke, builtin, hx, hy, Builtin.min_, Builtin.min2, this]
  · simp only [if_true] at ho ⊢
    have : (if m < n then n else m) = max m n := by rw [Int.max_def]; split <;> split <;> omega
    simp [execOp, ho, resolve, invoke, builtin, hx, hy, Builtin.max_, Builtin.max2, this]
theorem ok_indexAddr_sl {t e : TypeId} {x y : Operand} {k len ex : Nat} {row : Nat → List D} {kd : IntKind} {n : Int} {i j : TyI} (ho : o.op = .indexAddr t x y) (ht : ∀ t, o.dst = some t → t < s.N) (hi : TyOk P t i) (hu : i.u = .slice e) (hj : TyOk P e j) (hk : j.size = k)
    (hx : evalO s.S x = some (.d (.sl k len ex row))) (hy : evalO s.S y = some (.d (.v (.int kd n)))) (h0 : 0 ≤ n) (h1 : n < len) : Ok1 P C o s ⟨.d (.ptr (row n.toNat)), [], [], [], []⟩ := by
  refine ok_val (by simp [ho]) ht fun s' E a w hext hE => ?_
  have hx' := hext.ev hE (x := x) (by simp [ho, Op.operands]) hx
  have hy' := hext.ev hE (x := y) (by simp [ho, Op.operands]) hy
  simp only [DenV, RdV] at hx' hy'
  obtain ⟨ad, c, e1, h2, _, _, h4⟩ := hx'
  have hun := hi.under (w := w)
  rw [hu] at hun
  rcases h4 with h4 | ⟨b, off, rfl, hz, h4⟩
  · omega
  · obtain ⟨_, _, h5⟩ := h4 n.toNat (by omega)
    refine ⟨.pointer (some ⟨b, off + n.toNat * k, none⟩), ?_, ?_⟩
    · simp [execOp, ho, e1, hy', Instr.indexAt, asIntOf, hun, h0, h1, hj.size, hk, addr_add]
    · simp only [DenV, RdV]; exact ⟨b, _, rfl, hz, h5⟩
/-- the address of an element of a slice of the function's own -/
theorem ok_indexAddr_own {t e : TypeId} {x y : Operand} {key : Nat} {ow : Ow} {kd : IntKind} {n : Int} {i j : TyI} (ho : o.op = .indexAddr t x y) (ht : ∀ t, o.dst = some t → t < s.N) (hi : TyOk P t i) (hu : i.u = .slice e) (hj : TyOk P e j) (hk : j.size = ow.k)
    (hx : evalO s.S x = some (.own key)) (hO : s.O key = some ow) (hy : evalO s.S y = some (.d (.v (.int kd n)))) (h0 : 0 ≤ n) (h1 : n < ow.n) : Ok1 P C o s ⟨.oa key ow.k n.toNat 0, [], [], [], []⟩ := by
  refine ok_val (by simp [ho]) ht fun s' E a w hext hE => ?_
  have hx' := hext.ev hE (x := x) (by simp [ho, Op.operands]) hx
  have hy' := hext.ev hE (x := y) (by simp [ho, Op.operands]) hy
  simp only [DenV, RdV] at hx' hy'
  obtain ⟨⟨_, h2, _⟩, h3⟩ := hE.hp.own key ow (by rw [hext.o key (by rw [hO]; simp)]; exact hO)
  have hun := hi.under (w := w)
  rw [hu] at hun
  rcases h3 with ⟨_, h3⟩ | ⟨g, cap, vs, h3, h4, _⟩
  · omega
  · rw [h3] at hx'
    refine ⟨.pointer (some ⟨g, n.toNat * ow.k, none⟩), ?_, ?_⟩
    · simp [execOp, ho, hx', hy', Instr.indexAt, asIntOf, hun, h0, h1, hj.size, hk, addr_add]
    · simp only [DenV]; exact ⟨g, by rw [h3]; rfl, by simp⟩
theorem ok_fieldAddr_oa {t : TypeId} {x : Operand} {f key k n off : Nat} {i j : TyI} {fs : Array Field} {fd : Field} (ho : o.op = .fieldAddr t x f) (ht : ∀ t, o.dst = some t → t < s.N) (hx : evalO s.S x = some (.oa key k n off))
    (hi : TyOk P t i) (hu : i.u = .struct fs) (hf : fs[f]? = some fd) (hj : TyOk P fd.type j) (hsz : j.size ≠ 0) : Ok1 P C o s ⟨.oa key k n (off + fd.offset), [], [], [], []⟩ := by
  refine ok_val (by simp [ho]) ht fun s' E a w hext hE => ?_
  have h := hext.ev hE (x := x) (by simp [ho, Op.operands]) hx
  simp only [DenV] at h
  obtain ⟨g, h1, h2⟩ := h
  have hun := hi.under (w := w)
  rw [hu] at hun
  refine ⟨.pointer (some ⟨g, n * k + (off + fd.offset), none⟩), ?_, by simp only [DenV]; exact ⟨g, h1, rfl⟩⟩
  simp [execOp, ho, h2, Instr.fieldAt, hun, hf, Instr.sureAddr, fieldPlace, hj.size, hsz, addr_add, Nat.add_assoc]
/-- what is loaded out of cells that read as data -/
theorem load_ds {t : TypeId} {b off : Nat} {ds : List D} {us : List Value} {Z : Nat → Prop} {i : TyI} (hi : TyOk P t i) (h1 : aggD i.u = false → i.size = 1) (hds : ds.length = i.size) (hr : RdL w Z ds us) (hc : ∀ j, j < i.size → w.cell? ⟨b, off + j, none⟩ = us[j]?) :
    ∃ v, (loadVar t ⟨b, off, none⟩).run P w = .ok v w ∧ RdV w Z (mkD i.u ds) v := by
  have hvl : us.length = i.size := by rw [RdL_length hr, hds]
  have := run_load (P := P) (w := w) (t := t) hi (b := b) (off := off) (vs := us) hvl hc h1
  refine ⟨_, this, ?_⟩
  unfold mkD
  cases ha : aggD i.u with
  | true => simp only [if_true, RdV]; exact ⟨us, rfl, hr⟩
  | false =>
    have h1' := h1 ha
    simp only [Bool.false_eq_true, if_false]
    rw [h1'] at hds hvl
    match ds, hds, hr with
    | [c], _, hr =>
      simp only [RdL] at hr
      obtain ⟨v, vs', rfl, h5, _⟩ := hr
      simpa using h5
theorem ok_load_oa {t : TypeId} {x : Operand} {key k n off : Nat} {ow : Ow} {i : TyI} (ho : o.op = .load t x) (ht : ∀ t, o.dst = some t → t < s.N) (hx : evalO s.S x = some (.oa key k n off)) (hO : s.O key = some ow) (hk : ow.k = k) (hn : n < ow.x) (hi : TyOk P t i) (h1 : aggD i.u = false → i.size = 1) (hl : off + i.size ≤ (ow.row n).length) :
    Ok1 P C o s ⟨.d (mkD i.u (((ow.row n).drop off).take i.size)), [], [], [], []⟩ := by
  refine ok_val (by simp [ho]) ht fun s' E a w hext hE => ?_
  have h := hext.ev hE (x := x) (by simp [ho, Op.operands]) hx
  simp only [DenV] at h
  obtain ⟨g, hg, h2⟩ := h
  obtain ⟨⟨hrk, h3, _⟩, h4⟩ := hE.hp.own key ow (by rw [hext.o key (by rw [hO]; simp)]; exact hO)
  rcases h4 with ⟨_, h4⟩ | ⟨g', cap, vs, h4, h5, _, h6, h7, h8⟩
  · omega
  · rw [h4] at hg
    simp [Value.ownBlock] at hg
    subst hg
    have h9 := h8 n hn
    have h10 := RdL_take i.size (RdL_drop off h9)
    have hrn := (hrk n hn).1
    obtain ⟨v, h11, h12⟩ := load_ds (P := P) (w := w) hi (b := g') (off := n * k + off) h1 (by simp; omega) h10 (fun j hj => by
      have hkj : off + j < ow.k := by omega
      rw [List.getElem?_take_of_lt hj, List.getElem?_drop, List.getElem?_take_of_lt hkj, List.getElem?_drop]
      simp [World.cell?, h6, hk, Nat.add_assoc])
    exact ⟨v, by simp [execOp, ho, h2, Instr.loadAt, Instr.sureAddr, h11], by simpa only [DenV] using h12⟩
theorem ok_makeFunc {f : FuncId} {caps : Array Operand} {svs : List SV} (ho : o.op = .makeFunc (.func f) #[] caps) (ht : ∀ t, o.dst = some t → t < s.N) (hc : caps.toList.mapM (evalO s.S) = some svs) : Ok1 P C o s ⟨.fn f svs, [], [], [], []⟩ := by
  refine ok_val (by simp [ho]) ht fun s' E a w hext hE => ?_
  have key : ∀ (l : List Operand) (svs : List SV), (∀ x ∈ l, x ∈ o.op.operands) → l.mapM (evalO s.S) = some svs → DenL E w svs (l.map a.eval) := by
    intro l
    induction l with
    | nil => intro svs _ h; simp at h; subst h; simp [DenL]
    | cons x l ih =>
      intro svs hm h
      simp only [List.mapM_cons, Option.bind_eq_bind, Option.bind_eq_some_iff, Option.pure_def, Option.some.injEq] at h
      obtain ⟨sv, h1, svs', h2, rfl⟩ := h
      simp only [List.map_cons, DenL]
      exact ⟨_, _, rfl, hext.ev hE (hm x (by simp)) h1, ih svs' (fun y hy => hm y (by simp [hy])) h2⟩
  have h := key caps.toList svs (by simp [ho, Op.operands]) hc
  refine ⟨.func (.func f) #[] (caps.map a.eval), by simp [execOp, ho, Instr.makeFunc], ?_⟩
  simp only [DenV]
  exact ⟨caps.toList.map a.eval, by congr 1; exact Array.ext' (by simp), h⟩
end
end Go.Kin
