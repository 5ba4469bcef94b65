/- Steps of a function body on data, and contracts of the functions of the seat, walked. -/
import Derived.Test.YtgnhhjojiipmgaaGreatDoorE3
import Derived.Laws.Cells
import Derived.Laws.StructEq
set_option linter.unusedSimpArgs false
set_option linter.unusedVariables false
set_option linter.unusedSectionVars false
namespace Go.Cev
open Go.RowKit
/-! ### types by a table -/
/-- a value without blocks -/
def clean : Value → Bool
  | .bool _ => true
  | .int .. => true
  | .float .. => true
  | .string _ => true
  | .pointer none => true
  | .slice none 0 0 => true
  | .map none => true
  | .nilFunc => true
  | .nilIface => true
  | _ => false
def cleans : List Value → Bool
  | [] => true
  | v :: vs => clean v && cleans vs
def cleanC : Value → Bool
  | .agg ⟨cs⟩ => cleans cs
  | .tuple ⟨cs⟩ => cleans cs
  | v => clean v
structure TyI where
  und : TypeDesc
  size : Nat
  bytes : Nat
  zero : Option Value
  eqs : Bool
def TbOk (P : Program) (tb : PT TyI) : Prop := ∀ t i, tb.get t = some i → P.underlying t = some i.und ∧ ∃ info, P.info? t = some info ∧ info.size = i.size ∧ info.bytes = i.bytes ∧ (∀ v, i.zero = some v → info.zero = some v ∧ cleanC v = true) ∧ (i.eqs = true → P.stoodInHeld t = false ∧ P.eqGuardType P.depth t = false)
def aggT : TypeDesc → Bool
  | .struct _ => true
  | .array _ _ => true
  | _ => false
section
variable {P : Program} {H : Nat} {w0 : World} {ω : Om} {α β γ δ : Type}
theorem clean_VR {v : Value} (h : clean v = true) : VR ω v v := by
  unfold clean at h
  split at h <;> first | constructor | cases h
theorem cleans_VR : ∀ {vs : List Value}, cleans vs = true → VRs ω vs vs
  | [], _ => .nil
  | v :: vs, h => by
    simp only [cleans, Bool.and_eq_true] at h
    exact .cons (clean_VR h.1) (cleans_VR h.2)
theorem cleanC_VR {v : Value} (h : cleanC v = true) : VR ω v v := by
  unfold cleanC at h
  split at h
  · exact .agg (cleans_VR h)
  · exact .tuple (cleans_VR h)
  · exact clean_VR h
variable {tb : PT TyI} {t : TypeId} {i : TyI}
theorem TbOk.und (h : TbOk P tb) (hi : tb.get t = some i) (w : World) : (underlying t).run P w = .ok i.und w := by
  simp [underlying, program, bind, Sem.bind, Sem.run, pure, (h t i hi).1]
theorem TbOk.size (h : TbOk P tb) (hi : tb.get t = some i) (w : World) : (sizeOf t).run P w = .ok i.size w := by
  obtain ⟨_, info, h1, h2, _⟩ := h t i hi
  simp [sizeOf, typeInfo, program, bind, Sem.bind, Sem.run, pure, h1, h2]
theorem TbOk.info (h : TbOk P tb) (hi : tb.get t = some i) : ∃ info, (∀ w, (typeInfo t).run P w = .ok info w) ∧ info.size = i.size ∧ info.bytes = i.bytes ∧ P.info? t = some info := by
  obtain ⟨_, info, h1, h2, h3, _⟩ := h t i hi
  exact ⟨info, fun w => by simp [typeInfo, program, bind, Sem.bind, Sem.run, pure, h1], h2, h3, h1⟩
theorem TbOk.zero (h : TbOk P tb) (hi : tb.get t = some i) {v : Value} (hv : i.zero = some v) (w : World) : (zeroValue t).run P w = .ok v w := by
  obtain ⟨_, info, h1, h2, h3, h4, _⟩ := h t i hi
  simp [zeroValue, typeInfo, program, bind, Sem.bind, Sem.run, pure, h1, (h4 v hv).1]
theorem TbOk.zeroV (h : TbOk P tb) (hi : tb.get t = some i) {v : Value} (hv : i.zero = some v) : VR ω v v := by
  obtain ⟨_, info, h1, h2, h3, h4, _⟩ := h t i hi
  exact cleanC_VR (h4 v hv).2
theorem TbOk.agg (h : TbOk P tb) (hi : tb.get t = some i) (w : World) : (isAgg t).run P w = .ok (aggT i.und) w := by
  have := h.und hi w
  unfold isAgg
  simp only [bind, Sem.run_bind' P, this]
  cases i.und <;> rfl
/-! ### several cells -/
def AR (ω : Om) (a a' : Addr) : Prop := VR ω (.pointer (some a)) (.pointer (some a'))
theorem AR.mono {ω' : Om} (hω : Om.Le ω ω') {a a' : Addr} (h : AR ω a a') : AR ω' a a' := VR.mono hω h
theorem AR.add {a a' : Addr} (h : AR ω a a') (n : Nat) : AR ω (a.add n) (a'.add n) := by
  cases h with
  | @ptr b r base o hb =>
    unfold Addr.add AR
    split
    · exact .ptr hb
    · have := VR.ptr (o := o + n) hb
      rw [show base + (o + n) = base + o + n by omega] at this
      exact this
/-- an address further on, by names -/
def move (a : Addr) (n : Nat) : Addr := ⟨a.block, a.off + n, none⟩
theorem AR.move {a a' : Addr} (h : AR ω a a') (n : Nat) : AR ω (move a n) (a'.add n) := by
  have := h.add n
  cases h with
  | @ptr b r base o hb =>
    unfold Addr.add at this
    unfold Cev.move
    split at this
    · rename_i h0; subst h0; unfold Addr.add; rw [if_pos rfl]; exact this
    · rename_i h0; unfold Addr.add; rw [if_neg h0]; exact this
noncomputable section
def rdN (a : Addr) (n : Nat) : M (List Value) := fun W => match a.spot with
  | some _ => none
  | none => match W.heap.get a.block with
    | some (.cells c _ _) => cond (Nat.ble (a.off + n) (len c)) (some ((c.drop a.off).take n, W)) none
    | _ => none
def wrN (a : Addr) : List Value → Nat → M Unit
  | [], _ => .ret ()
  | v :: vs, i => (wr (move a i) v).bd fun _ => wrN a vs (i + 1)
end
theorem rdN_ok {a a' : Addr} (ha : AR ω a a') {n : Nat} {W : AW} {w : World} (hw : WR H w0 ω W w) {x : List Value} {W' : AW} (hr : rdN a n W = some (x, W')) : W' = W ∧ x.length = n ∧ ∃ y, VRs ω x y ∧ ∀ w', w'.heap = w.heap → (loadCells a' n).run P w' = .ok y.toArray w' := by
  cases ha with
  | @ptr b r base o hb =>
    obtain ⟨ob, o', q1, q2, q3⟩ := hw.obj _ _ _ hb
    unfold Cev.rdN at hr
    simp only [q1] at hr
    cases q3 with
    | @cells _ c c' kk e fz fr q3 qf qk qt =>
      simp only [len_eq] at hr
      cases hc : Nat.ble (o + n) c.length with
      | false => rw [hc] at hr; cases hr
      | true =>
        rw [hc] at hr; cases hr
        have hc := Nat.le_of_ble_eq_true hc
        have key : ∀ (l : List Value) (k : Nat), (∀ i v, l[i]? = some v → ∃ v', c'[k + i]? = some v' ∧ VR ω v v') → VRs ω l ((c'.drop k).take l.length) := by
          intro l
          induction l with
          | nil => intro k _; simpa using VRs.nil
          | cons v vs ih =>
            intro k hl
            obtain ⟨v', h1, h2⟩ := hl 0 v rfl
            have h3 : k < c'.length := (List.getElem?_eq_some_iff.1 h1).1
            have h4 : c'.drop k = v' :: c'.drop (k + 1) := by
              rw [List.drop_eq_getElem_cons h3]
              congr 1
              have := (List.getElem?_eq_some_iff.1 h1).2
              simpa using this
            rw [h4, List.length_cons, List.take_succ_cons]
            refine .cons h2 (ih (k + 1) fun i u hu => ?_)
            obtain ⟨u', h5, h6⟩ := hl (i + 1) u (by simpa using hu)
            exact ⟨u', by rw [show k + 1 + i = k + (i + 1) by omega]; exact h5, h6⟩
        have hV := key ((c.drop o).take n) (base + o) fun i v hv => by
          rw [List.getElem?_take] at hv
          split at hv
          · rw [List.getElem?_drop] at hv
            obtain ⟨v', h1, h2⟩ := q3 _ v hv
            exact ⟨v', by rw [← h1]; congr 1; omega, h2⟩
          · cases hv
        have hlen : ((c.drop o).take n).length = n := by simp; omega
        rw [hlen] at hV
        have hl2 : ((c'.drop (base + o)).take n).length = n := by rw [← hV.length, hlen]
        refine ⟨rfl, hlen, _, hV, fun w' hh => ?_⟩
        have := run_loadCells_list (P := P) w' ⟨r, base + o, none⟩ ((c'.drop (base + o)).take n) fun j v hv => by
          rw [List.getElem?_take] at hv
          split at hv
          · rw [List.getElem?_drop] at hv
            unfold World.cell? Addr.add
            by_cases h0 : j = 0
            · subst h0; simp only [if_true, hh, q2]; simpa using hv
            · simp only [if_neg h0, hh, q2]; simpa using hv
          · cases hv
        rw [hl2] at this; exact this
    | _ => cases hr
theorem Sim.rdN {a a' : Addr} (ha : AR ω a a') (n : Nat) : Sim P H w0 ω (rdN a n) (loadCells a' n) fun ω' x y => VRs ω' x y.toList := fun W w hw x W' hr => by
  obtain ⟨rfl, _, y, h1, h2⟩ := rdN_ok ha hw hr
  exact ⟨ω, y.toArray, w, Gr.refl ω _, h2 w rfl, hw, h1⟩
theorem Sim.wrN {a a' : Addr} : ∀ {vs vs' : List Value} (i : Nat) {ω : Om}, AR ω a a' → VRs ω vs vs' → Sim P H w0 ω (wrN a vs i) (storeCells a' vs' i) fun _ _ _ => True
  | _, _, i, ω, _, .nil => Sim.ret trivial
  | _, _, i, ω, ha, .cons h hs => Sim.store (ha.move i) h (Sim.wrN (i + 1) ha hs)
/-! ### variables -/
noncomputable section
def ldV (i : TyI) (a : Addr) : M Value := match aggT i.und with
  | true => (rdN a i.size).bd fun l => .ret (.agg l.toArray)
  | false => rd a
def stV (i : TyI) (a : Addr) (v : Value) : M Unit := (M.ok (Nat.beq (len v.cells.toList) i.size)).bd fun _ => wrN a v.cells.toList 0
end
theorem Sim.ldV (ht : TbOk P tb) (hi : tb.get t = some i) {a a' : Addr} (ha : AR ω a a') : Sim P H w0 ω (ldV i a) (loadVar t a') VR := by
  unfold loadVar
  refine Sim.runR (ht.agg hi) ?_
  unfold Cev.ldV
  cases aggT i.und with
  | true =>
    simp only [if_true]
    refine Sim.runR (ht.size hi) ?_
    refine Sim.bnd (Sim.rdN ha _) fun ω' _ x y h => ?_
    have := VR.agg h
    exact Sim.ret (by simpa using this)
  | false =>
    simp only [Bool.false_eq_true, if_false]
    have := Sim.load (P := P) (H := H) (w0 := w0) (f := fun v => .ret v) (k := .pure) (R := VR) ha fun v v' hv => Sim.ret hv
    intro W w hw x W' hr
    refine this W w hw x W' ?_
    unfold M.bd; rw [hr]; rfl
theorem Sim.stV (ht : TbOk P tb) (hi : tb.get t = some i) {a a' : Addr} {v v' : Value} (ha : AR ω a a') (hv : VR ω v v') : Sim P H w0 ω (stV i a v) (storeVar t a' v') fun _ _ _ => True := by
  unfold storeVar Cev.stV
  refine Sim.okL fun hc => ?_
  refine Sim.runR (ht.size hi) ?_
  have h1 := hv.cells
  have h2 : v'.cells.size = i.size := by
    have := h1.length
    rw [len_eq] at hc
    have := Nat.eq_of_beq_eq_true hc
    simp at *; omega
  simp only [h2, ne_eq, not_true_eq_false, if_false]
  exact Sim.wrN 0 ha h1
end
end Go.Cev
namespace Go.Cev
open Go.RowKit
/-! ### operations on values alone -/
/-- what an operation comes to -/
inductive Nx where
  | val (v : Value)
  | dfr (d : Deferred)
  | ent (f : FuncId) (args : List Value)
  | rnd (l : Nat) (f : FuncId) (rg : PT Value) (n : Nat) (assign body : Code)
  | rcv
inductive NR (ω : Om) : Nx → Next → Prop
  | value {v v' : Value} (h : VR ω v v') : NR ω (.val v) (.value v')
  | skip : NR ω (.val undef) .skip
  | dfr {d d' : Deferred} (h : DR ω d d') : NR ω (.dfr d) (.defer d')
  | ent (f : FuncId) {as as' : List Value} (h : VRs ω as as') : NR ω (.ent f as) (.enter f as'.toArray)
  | rnd {l l' : Nat} (hl : ω l = some (l', 0)) (f : FuncId) {rg : PT Value} {n : Nat} {ts : Array Value} (h : RegR ω rg n ts) (assign body : Code) : NR ω (.rnd l f rg n assign body) (.round l' f ts assign body)
  | rcv : NR ω .rcv .recover
noncomputable section
def evO (rg : PT Value) : Operand → Option Value
  | .tmp t => match rg.get t with
    | some v => some v
    | none => some undef
  | .const v => cond (cleanC v) (some v) none
  | .global _ => none
  | .func f => some (.func (.func f) #[] #[])
def ev (rg : PT Value) (x : Operand) : M Value := .opt (evO rg x)
/-- a list of operands -/
def evL (rg : PT Value) : List Operand → Option (List Value)
  | [] => some []
  | x :: l => match evO rg x with
    | none => none
    | some v => match evL rg l with
      | none => none
      | some vs => some (v :: vs)
def kEq (a b : IntKind) : Bool := Nat.beq (IntKind.ctorIdx a) (IntKind.ctorIdx b)
def lEq : List UInt8 → List UInt8 → Bool
  | [], [] => true
  | a :: l, b :: k => Nat.beq a.toNat b.toNat && lEq l k
  | _, _ => false
def bEq (a b : ByteArray) : Bool := lEq a.data.toList b.data.toList
def addrEq : Option Addr → Option Addr → Option Bool
  | none, none => some true
  | none, some _ => some false
  | some _, none => some false
  | some a, some b => cond (Nat.beq a.block b.block) (match a.spot, b.spot with
    | none, none => cond (Nat.beq a.off b.off) (some true) none
    | _, _ => none) none
def intA (op : BinOp) (k : IntKind) (a b : Int) : Option Value := match op with
  | .add => some (.int k (k.wrap (a + b)))
  | .sub => some (.int k (k.wrap (a - b)))
  | .mul => some (.int k (k.wrap (a * b)))
  | .quo => if b = 0 then none else some (.int k (k.wrap (a.tdiv b)))
  | .rem => if b = 0 then none else some (.int k (a.tmod b))
  | .eql => some (.bool (a == b))
  | .neq => some (.bool (a != b))
  | .lss => some (.bool (a < b))
  | .leq => some (.bool (a ≤ b))
  | .gtr => some (.bool (a > b))
  | .geq => some (.bool (a ≥ b))
  | _ => none
/-- a string's bytes -/
def bl (s : ByteArray) : List UInt8 := s.data.toList
def ofBl (l : List UInt8) : ByteArray := ⟨l.toArray⟩
def bLess : List UInt8 → List UInt8 → Bool
  | _, [] => false
  | [], _ :: _ => true
  | a :: x, b :: y => cond (Nat.blt a.toNat b.toNat) true (cond (Nat.beq a.toNat b.toNat) (bLess x y) false)
def strA (op : BinOp) (a b : ByteArray) : Option Value := match op with
  | .add => cond (Nat.ble (len (bl a) + len (bl b)) 1000000) (some (.string (ofBl (bl a ++ bl b)))) none
  | .eql => some (.bool (bEq a b))
  | .neq => some (.bool (!bEq a b))
  | .lss => some (.bool (bLess (bl a) (bl b)))
  | .leq => some (.bool (bLess (bl a) (bl b) || bEq a b))
  | .gtr => some (.bool (!(bLess (bl a) (bl b) || bEq a b)))
  | .geq => some (.bool (!bLess (bl a) (bl b)))
  | _ => none
end
section
variable {P : Program} {H : Nat} {w0 : World} {ω : Om} {α β γ δ : Type}
/-- the operands stand for the operands -/
def OpdR (ω : Om) (rg : PT Value) (ρ : Operand → Value) (xs : Array Operand) : Prop := ∀ x ∈ xs, ∀ v, evO rg x = some v → VR ω v (ρ x)
theorem OpdR.mono {ω' : Om} (hω : Om.Le ω ω') {rg : PT Value} {ρ : Operand → Value} {xs : Array Operand} (h : OpdR ω rg ρ xs) : OpdR ω' rg ρ xs := fun x hx v hv => (h x hx v hv).mono hω
theorem RegR.opd {rg : PT Value} {n : Nat} {a : Act} (h : RegR ω rg n a.tmps) (xs : Array Operand) : OpdR ω rg a.eval xs := fun x _ v hv => by
  cases x with
  | tmp t =>
    have := h.at_ t
    simp only [evO] at hv
    split at hv
    · rename_i u hu; cases hv; rw [hu] at this; exact this
    · rename_i hu; cases hv; rw [hu] at this; exact this
  | const u =>
    simp only [evO] at hv
    cases hc : cleanC u with
    | true => rw [hc] at hv; cases hv; exact cleanC_VR hc
    | false => rw [hc] at hv; cases hv
  | global g => cases hv
  | func f => cases hv; exact VR.func (fs := []) (fs' := []) (cs := []) (cs' := []) (fun l h => by cases h) .nil .nil
theorem evL_R {rg : PT Value} {ρ : Operand → Value} : ∀ {l : List Operand} {vs : List Value}, (∀ x ∈ l, ∀ v, evO rg x = some v → VR ω v (ρ x)) → evL rg l = some vs → VRs ω vs (l.map ρ)
  | [], vs, _, h => by cases h; exact .nil
  | x :: l, vs, hx, h => by
    unfold evL at h
    split at h
    · cases h
    · rename_i v hv
      split at h
      · cases h
      · rename_i us hu
        cases h
        exact .cons (hx x (by simp) v hv) (evL_R (fun y hy => hx y (by simp [hy])) hu)
theorem kEq_eq {a b : IntKind} (h : kEq a b = true) : a = b := by
  cases a <;> cases b <;> first | rfl | (exact absurd h (by decide))
theorem lEq_eq : ∀ (a b : List UInt8), lEq a b = (a == b)
  | [], [] => rfl
  | [], _ :: _ => rfl
  | _ :: _, [] => rfl
  | a :: l, b :: k => by
    have : Nat.beq a.toNat b.toNat = (a == b) := by
      rw [show (a == b) = (a.toNat == b.toNat) by
        rw [Bool.eq_iff_iff]; simp [← UInt8.toNat_inj]]
      rw [Bool.eq_iff_iff, Nat.beq_eq]; simp
    rw [lEq, lEq_eq l k, this]; rfl
theorem bEq_eq (a b : ByteArray) : bEq a b = (a.toList == b.toList) := by
  rw [ByteArray.toList_eq, ByteArray.toList_eq]; exact lEq_eq _ _
theorem bEq_eq' (a b : ByteArray) : bEq a b = (a == b) := by rw [bEq_eq, beq_toListBytes]
theorem intA_run {op : BinOp} {k : IntKind} {t : TypeId} {a b : Int} {v : Value} (h : intA op k a b = some v) (w : World) : (binOp op t (.int k a) (.int k b)).run P w = .ok v w := by
  cases op <;> simp only [intA] at h <;> first | (cases h; rfl) | (cases h; simp [binOp, Op.intArith, Op.intCmp, Sem.run, pure]; done) | (split at h; (cases h); (cases h; rename_i hb; simp [binOp, Op.intDiv, Op.intArith, hb, Sem.run, pure]; done)) | cases h
theorem bLess_eq : ∀ (a b : List UInt8), bLess a b = Op.bytesLess a b
  | [], [] => rfl
  | _ :: _, [] => rfl
  | [], _ :: _ => rfl
  | a :: x, b :: y => by
    unfold bLess Op.bytesLess
    rw [bLess_eq x y]
    have h1 : Nat.blt a.toNat b.toNat = decide (a < b) := by
      rw [Bool.eq_iff_iff, Nat.blt_eq]; simp [UInt8.lt_iff_toNat_lt]
    have h2 : Nat.beq a.toNat b.toNat = (a == b) := by
      rw [Bool.eq_iff_iff, Nat.beq_eq]; simp [← UInt8.toNat_inj]
    rw [h1, h2]
    cases decide (a < b) <;> cases (a == b) <;> simp
theorem bl_toList (a : ByteArray) : a.toList = bl a := ByteArray.toList_eq a
theorem len_bl (a : ByteArray) : len (bl a) = a.size := by rw [len_eq]; rfl
theorem ofBl_append (a b : ByteArray) : ofBl (bl a ++ bl b) = a ++ b := by
  apply ByteArray.ext
  rw [ByteArray.data_append]
  unfold ofBl bl
  simp
theorem strA_run {op : BinOp} {t : TypeId} {a b : ByteArray} {v : Value} (h : strA op a b = some v) (w : World) : (binOp op t (.string a) (.string b)).run P w = .ok v w := by
  cases op <;> simp only [strA] at h <;> try (cases h; done)
  · cases hc : Nat.ble (len (bl a) + len (bl b)) 1000000 with
    | false => rw [hc] at h; cases h
    | true =>
      rw [hc] at h; cases h
      have hc := Nat.le_of_ble_eq_true hc
      rw [len_bl, len_bl] at hc
      simp only [binOp, Op.stringOp]
      rw [if_neg (by show ¬ ((a.size + b.size : Nat) : Int) > 9223372036854775807; omega), ofBl_append]; rfl
  all_goals
    cases h
    simp [binOp, Op.stringOp, bEq_eq, bLess_eq, bl_toList, Sem.run, pure]
theorem addrEq_ok {e : TypeId} {a b a' b' : Option Addr} {r : Bool} (h : addrEq a b = some r) (ha : VR ω (.pointer a) (.pointer a')) (hb : VR ω (.pointer b) (.pointer b')) : (a' = none ∧ b'.isNone = r) ∨ (a'.isSome = true ∧ b' = none ∧ r = false) ∨ (r = true ∧ ∃ x, a' = some x ∧ b' = some x) := by
  cases ha with
  | ptr0 =>
    cases hb with
    | ptr0 => simp [addrEq] at h; subst h; exact .inl ⟨rfl, rfl⟩
    | ptr => simp [addrEq] at h; subst h; exact .inl ⟨rfl, rfl⟩
  | @ptr b1 r1 base1 o1 h1 =>
    cases hb with
    | ptr0 => simp [addrEq] at h; subst h; exact .inr (.inl ⟨rfl, rfl, rfl⟩)
    | @ptr b2 r2 base2 o2 h2 =>
      simp only [addrEq] at h
      cases hc : Nat.beq b1 b2 with
      | false => rw [hc] at h; cases h
      | true =>
        rw [hc] at h
        have := Nat.eq_of_beq_eq_true hc
        subst this
        rw [h1] at h2; cases h2
        cases hd : Nat.beq o1 o2 with
        | false => rw [hd] at h; cases h
        | true =>
          rw [hd] at h; cases h
          have := Nat.eq_of_beq_eq_true hd
          subst this
          exact .inr (.inr ⟨rfl, _, rfl, rfl⟩)
end
end Go.Cev
namespace Go.Cev
open Go.RowKit
noncomputable section
def partA (i : TyI) (cs : List Value) (off : Nat) : Option Value := match aggT i.und with
  | true => some (.agg ((cs.drop off).take i.size).toArray)
  | false => nth cs off
def eqF (tb : PT TyI) (rec : TypeId → Value → Value → Option Bool) (xs ys : List Value) : List Field → Option Bool
  | [] => some true
  | f :: fs => cond (f.name == "_") none (match tb.get f.type with
    | none => none
    | some j => match partA j xs f.offset, partA j ys f.offset with
      | some a, some b => match rec f.type a b with
        | some true => eqF tb rec xs ys fs
        | r => r
      | _, _ => none)
def eqA (tb : PT TyI) : Nat → TypeId → Value → Value → Option Bool
  | 0, _, _, _ => none
  | d + 1, t, x, y => match tb.get t with
    | none => none
    | some i => match i.und, x, y with
      | .bool, .bool a, .bool b => some (a == b)
      | .int _, .int k a, .int k' b => cond (kEq k k') (some (a == b)) none
      | .string, .string a, .string b => some (bEq a b)
      | .pointer e, .pointer a, .pointer b => match tb.get e with
        | some j => cond (Nat.beq j.size 0) none (addrEq a b)
        | none => none
      | .interface _, .nilIface, .nilIface => some true
      | .interface _, .nilIface, .iface _ _ => some false
      | .interface _, .iface _ _, .nilIface => some false
      | .struct fs, .agg xs, .agg ys => cond i.eqs (eqF tb (eqA tb d) xs.toList ys.toList fs.toList) none
      | .slice _, .slice none _ _, .slice b _ _ => some b.isNone
      | .slice _, .slice (some _) _ _, .slice none _ _ => some false
      | .map _ _, .map none, .map b => some b.isNone
      | .map _ _, .map (some _), .map none => some false
      | .func _ _ _, .nilFunc, .nilFunc => some true
      | .func _ _ _, .nilFunc, .func _ _ _ => some false
      | .func _ _ _, .func _ _ _, .nilFunc => some false
      | _, _, _ => none
/-- of two operands one is a constant -/
def cnst : Operand → Bool
  | .const _ => true
  | _ => false
def eqlA (tb : PT TyI) (t : TypeId) (x y : Operand) (a b : Value) : Option Bool := match a, b with
  | .nilIface, .nilIface => cond (cnst x || cnst y) (eqA tb 8 t a b) none
  | .agg _, .agg _ => match tb.get t with
    | some i => cond i.eqs (eqA tb 8 t a b) none
    | none => none
  | _, _ => eqA tb 8 t a b
def binA (tb : PT TyI) (op : BinOp) (t : TypeId) (x y : Operand) (a b : Value) : Option Value := match a, b with
  | .int k m, .int k' n => match op with
    | .shl => none
    | .shr => none
    | _ => cond (kEq k k') (intA op k m n) none
  | .string m, .string n => strA op m n
  | .float _ _, .float _ _ => none
  | _, _ => match op with
    | .eql => match eqlA tb t x y a b with
      | some r => some (.bool r)
      | none => none
    | .neq => match eqlA tb t x y a b with
      | some r => some (.bool (!r))
      | none => none
    | _ => none
end
section
variable {P : Program} {H : Nat} {w0 : World} {ω : Om} {α β γ δ : Type} {tb : PT TyI}
theorem VRs.nth {vs vs' : List Value} {i : Nat} {v : Value} (h : VRs ω vs vs') (hv : Cev.nth vs i = some v) : ∃ v', vs'[i]? = some v' ∧ VR ω v v' := by
  rw [nth_eq] at hv; exact h.get hv
theorem partA_ok (ht : TbOk P tb) {t : TypeId} {i : TyI} (hi : tb.get t = some i) {cs cs' : List Value} {off : Nat} {v : Value} (h : partA i cs off = some v) (hv : VRs ω cs cs') : ∃ v', (∀ w, (part t cs'.toArray off).run P w = .ok v' w) ∧ VR ω v v' := by
  unfold part
  simp only [bind, Sem.run_bind' P, ht.agg hi, Result.andThen]
  unfold partA at h
  cases ha : aggT i.und with
  | true =>
    rw [ha] at h; cases h
    refine ⟨.agg (((cs'.drop off).take i.size).toArray), fun w => ?_, .agg ((hv.drop off).take i.size)⟩
    simp only [if_true, Sem.run_bind' P, ht.size hi, pure, Sem.run]
    congr 2
    simp [List.extract_eq_take_drop]
  | false =>
    rw [ha] at h
    obtain ⟨v', h1, h2⟩ := hv.nth h
    refine ⟨v', fun w => ?_, h2⟩
    have h1' : cs'.toArray[off]? = some v' := by simpa using h1
    simp only [Bool.false_eq_true, if_false, h1']; rfl
theorem eqF_ok (ht : TbOk P tb) {d : Nat} {rec : TypeId → Value → Value → Option Bool} (hrec : ∀ t x y x' y' r w, rec t x y = some r → VR ω x x' → VR ω y y' → (Op.equalIn d t x' y').run P w = .ok r w) {xs xs' ys ys' : List Value} (hx : VRs ω xs xs') (hy : VRs ω ys ys') (w : World) :
    ∀ (fs : List Field) (r : Bool), eqF tb rec xs ys fs = some r → (Op.eqFields d xs'.toArray ys'.toArray fs).run P w = .ok r w
  | [], r, h => by cases h; rfl
  | f :: fs, r, h => by
    unfold eqF at h
    cases hn : (f.name == "_") with
    | true => rw [hn] at h; cases h
    | false =>
      rw [hn] at h
      have hn' : f.name ≠ "_" := by simpa using hn
      simp only [cond_false] at h
      cases hj : tb.get f.type with
      | none => rw [hj] at h; cases h
      | some j =>
        rw [hj] at h
        simp only at h
        cases ha : partA j xs f.offset with
        | none => rw [ha] at h; cases h
        | some a =>
          cases hb : partA j ys f.offset with
          | none => rw [ha, hb] at h; cases h
          | some b =>
            rw [ha, hb] at h
            simp only at h
            obtain ⟨a', p1, p2⟩ := partA_ok ht hj ha hx
            obtain ⟨b', p3, p4⟩ := partA_ok ht hj hb hy
            simp only [Op.eqFields, hn', ne_eq, not_false_eq_true, if_true, bind, Sem.run_bind' P, p1 w, p3 w, Result.andThen]
            cases hr : rec f.type a b with
            | none => rw [hr] at h; cases h
            | some q =>
              rw [hr] at h
              rw [hrec _ _ _ _ _ _ w hr p2 p4]
              cases q with
              | true =>
                simp only [Bool.not_true, Bool.false_eq_true, if_false]
                exact eqF_ok ht hrec hx hy w fs r h
              | false => cases h; rfl
theorem eqA_ok (ht : TbOk P tb) : ∀ (d : Nat) (t : TypeId) (x y x' y' : Value) (r : Bool) (w : World), eqA tb d t x y = some r → VR ω x x' → VR ω y y' → ∀ d', d ≤ d' → (Op.equalIn d' t x' y').run P w = .ok r w
  | 0, _, _, _, _, _, _, _, h, _, _, _, _ => by cases h
  | d + 1, t, x, y, x', y', r, w, h, hx, hy, 0, hd => by omega
  | d + 1, t, x, y, x', y', r, w, h, hx, hy, d' + 1, hd => by
    unfold eqA at h
    cases hi : tb.get t with
    | none => rw [hi] at h; cases h
    | some i =>
      rw [hi] at h
      simp only at h
      have hu := ht.und hi w
      have hup := (ht t i hi).1
      split at h
      · rename_i he; cases h; cases hx; cases hy; exact run_equalIn_bool w d' t _ _ (by rw [hup, he])
      · rename_i k k1 a k2 b he
        cases hk : kEq k1 k2 with
        | false => rw [hk] at h; cases h
        | true => rw [hk] at h; cases h; cases hx; cases hy; have := kEq_eq hk; subst this; exact run_equalIn_int w d' t k1 k a b (by rw [hup, he])
      · rename_i he; cases h; cases hx; cases hy; rw [run_equalIn_string w d' t _ _ (by rw [hup, he]), bEq_eq]
      · rename_i e a b he
        cases hj : tb.get e with
        | none => rw [hj] at h; cases h
        | some j =>
          rw [hj] at h
          simp only at h
          cases hz : Nat.beq j.size 0 with
          | true => rw [hz] at h; cases h
          | false =>
            rw [hz] at h
            have hz' : j.size ≠ 0 := fun e => by rw [e] at hz; cases hz
            have hxp : ∃ a', x' = .pointer a' ∧ VR ω (.pointer a) (.pointer a') := by cases hx with | ptr0 => exact ⟨_, rfl, .ptr0⟩ | ptr hb => exact ⟨_, rfl, .ptr hb⟩
            have hyp : ∃ b', y' = .pointer b' ∧ VR ω (.pointer b) (.pointer b') := by cases hy with | ptr0 => exact ⟨_, rfl, .ptr0⟩ | ptr hb => exact ⟨_, rfl, .ptr hb⟩
            obtain ⟨a', rfl, ha⟩ := hxp
            obtain ⟨b', rfl, hb⟩ := hyp
            rw [he] at hu
            rcases addrEq_ok (e := e) h ha hb with ⟨rfl, h1⟩ | ⟨h1, rfl, rfl⟩ | ⟨rfl, z, rfl, rfl⟩
            · simp only [Op.equalIn, bind, Sem.run_bind' P, hu, Result.andThen]; rw [← h1]; rfl
            · cases a' with
              | none => cases h1
              | some a' => simp only [Op.equalIn, bind, Sem.run_bind' P, hu, Result.andThen]; rfl
            · simp only [Op.equalIn, bind, Sem.run_bind' P, hu, Result.andThen, ht.size hj w, ne_eq, hz', not_false_eq_true, if_true, sameAddr, beq_self_eq_true]; rfl
      · rename_i he; cases h; cases hx; cases hy; rw [he] at hu; simp only [Op.equalIn, bind, Sem.run_bind' P, hu, Result.andThen]; rfl
      · rename_i he; cases h; cases hx; cases hy; rw [he] at hu; simp only [Op.equalIn, bind, Sem.run_bind' P, hu, Result.andThen]; rfl
      · rename_i he; cases h; cases hx; cases hy; rw [he] at hu; simp only [Op.equalIn, bind, Sem.run_bind' P, hu, Result.andThen]; rfl
      · rename_i fs xs ys he
        cases hx with
        | @agg cs cs' hcx =>
        cases hy with
        | @agg ds ds' hcy =>
        cases he2 : i.eqs with
        | false => rw [he2] at h; cases h
        | true =>
          rw [he2] at h
          obtain ⟨q1, info, q2, q3, q4, q5, q6⟩ := ht t i hi
          have hs := q6 he2
          have hf : P.fieldsOf t = fs := by unfold Program.fieldsOf; rw [q1, he]
          rw [run_equalIn_struct w d' t _ _ (by rw [hf, q1, he]) hs.1, hf]
          refine eqF_ok ht (fun t x y x' y' r w hr h1 h2 => eqA_ok ht d t x y x' y' r w hr h1 h2 d' (by omega)) hcx hcy w fs.toList r ?_
          simpa using h
      · rename_i he; cases h; cases hx
        rw [he] at hu
        cases hy <;> (simp only [Op.equalIn, bind, Sem.run_bind' P, hu, Result.andThen]; rfl)
      · rename_i he; cases h
        rw [he] at hu
        cases hy
        cases hx <;> (simp only [Op.equalIn, bind, Sem.run_bind' P, hu, Result.andThen]; rfl)
      · rename_i he; cases h; cases hx
        rw [he] at hu
        cases hy <;> (simp only [Op.equalIn, bind, Sem.run_bind' P, hu, Result.andThen]; rfl)
      · rename_i he; cases h
        rw [he] at hu
        cases hy
        cases hx <;> (simp only [Op.equalIn, bind, Sem.run_bind' P, hu, Result.andThen]; rfl)
      · rename_i he; cases h; cases hx; cases hy; rw [he] at hu; simp only [Op.equalIn, bind, Sem.run_bind' P, hu, Result.andThen]; rfl
      · rename_i he; cases h; cases hx
        rw [he] at hu
        cases hy <;> (simp only [Op.equalIn, bind, Sem.run_bind' P, hu, Result.andThen]; rfl)
      · rename_i he; cases h; cases hy
        rw [he] at hu
        cases hx <;> (simp only [Op.equalIn, bind, Sem.run_bind' P, hu, Result.andThen]; rfl)
      · cases h
end
end Go.Cev
namespace Go.Cev
open Go.RowKit
section
variable {P : Program} {H : Nat} {w0 : World} {ω : Om} {α β γ δ : Type} {tb : PT TyI}
theorem sim_v {m : M Value} {s' : Sem Value} (h : Sim P H w0 ω m s' VR) : Sim P H w0 ω (m.bd fun v => .ret (.val v)) (s' >>= fun v => pure (.value v)) NR := Sim.bnd h fun _ _ _ _ hv => Sim.ret (.value hv)
theorem sim_u {m : M Unit} {s' : Sem Unit} (h : Sim P H w0 ω m s' fun _ _ _ => True) : Sim P H w0 ω (m.bd fun _ => .ret (.val undef)) (s' >>= fun _ => pure .skip) NR := Sim.bnd h fun _ _ _ _ _ => Sim.ret .skip
/-- what runs to one value -/
theorem Sim.optV {o : Option Value} {s : Sem Value} (h : ∀ v, o = some v → ∃ v', (∀ w, s.run P w = .ok v' w) ∧ VR ω v v') : Sim P H w0 ω (.opt o) s VR := fun W w hw a W' hr => by
  unfold M.opt at hr
  cases o with
  | none => cases hr
  | some v =>
    cases hr
    obtain ⟨v', h1, h2⟩ := h _ rfl
    exact ⟨ω, v', w, Gr.refl ω _, h1 w, hw, h2⟩
theorem eqlA_ok (ht : TbOk P tb) {op : BinOp} {t : TypeId} {x y : Operand} {a b a' b' : Value} {r : Bool} (h : eqlA tb t x y a b = some r) (ha : VR ω a a') (hb : VR ω b b') (w : World) : (eqGuard op t x y a' b').run P w = .ok () w ∧ (Op.equal t a' b').run P w = .ok r w := by
  unfold eqlA at h
  split at h
  · cases hc : (cnst x || cnst y) with
    | false => rw [hc] at h; cases h
    | true =>
      rw [hc] at h
      refine ⟨?_, eqA_ok ht 8 t _ _ _ _ r w h ha hb 10000 (by omega)⟩
      cases ha; cases hb
      have hc2 : (∃ v, x = .const v) ∨ ∃ v, y = .const v := by
        cases x <;> cases y <;> first | exact .inl ⟨_, rfl⟩ | exact .inr ⟨_, rfl⟩ | cases hc
      clear hc
      unfold eqGuard
      rcases hc2 with ⟨v, rfl⟩ | ⟨v, rfl⟩
      · cases op <;> rfl
      · cases op <;> cases x <;> rfl
  · rename_i cs ds
    cases hi : tb.get t with
    | none => rw [hi] at h; cases h
    | some i =>
      rw [hi] at h
      simp only at h
      cases he : i.eqs with
      | false => rw [he] at h; cases h
      | true =>
        rw [he] at h
        refine ⟨?_, eqA_ok ht 8 t _ _ _ _ r w h ha hb 10000 (by omega)⟩
        obtain ⟨q1, info, q2, q3, q4, q5, q6⟩ := ht t i hi
        cases ha; cases hb
        exact run_eqGuard_agg w op t x y _ _ (q6 he).2
  · rename_i h1 h2
    refine ⟨?_, eqA_ok ht 8 t _ _ _ _ r w h ha hb 10000 (by omega)⟩
    unfold eqGuard
    cases ha <;> cases hb <;> first | exact absurd rfl (h1 rfl) | exact absurd rfl (h2 _ _ rfl) | (cases op <;> rfl)
theorem binA_ok (ht : TbOk P tb) {op : BinOp} {t : TypeId} {x y : Operand} {a b a' b' v : Value} (h : binA tb op t x y a b = some v) (ha : VR ω a a') (hb : VR ω b b') (w : World) : (do eqGuard op t x y a' b'; binOp op t a' b').run P w = .ok v w ∧ clean v = true := by
  unfold binA at h
  split at h
  · rename_i k m k' n
    cases ha; cases hb
    have hg : (eqGuard op t x y (.int k m) (.int k' n)).run P w = .ok () w := by unfold eqGuard; cases op <;> rfl
    simp only [bind, Sem.run_bind' P, hg, Result.andThen]
    have hk : cond (kEq k k') (intA op k m n) none = some v := by cases op <;> first | exact h | cases h
    cases hc : kEq k k' with
    | false => rw [hc] at hk; cases hk
    | true =>
      rw [hc] at hk
      have := kEq_eq hc; subst this
      refine ⟨intA_run hk w, ?_⟩
      simp only [cond_true] at hk
      cases op <;> simp only [intA] at hk <;> first | (cases hk; rfl) | (split at hk <;> cases hk; rfl) | cases hk
  · rename_i m n
    cases ha; cases hb
    have hg : (eqGuard op t x y (.string m) (.string n)).run P w = .ok () w := by unfold eqGuard; cases op <;> rfl
    simp only [bind, Sem.run_bind' P, hg, Result.andThen]
    refine ⟨strA_run h w, ?_⟩
    cases op <;> simp only [strA] at h <;> first | (cases h; rfl) | (cases hc : Nat.ble (len (bl m) + len (bl n)) 1000000 <;> rw [hc] at h <;> cases h; rfl) | cases h
  · cases h
  · rename_i h1 h2 h3
    have key : (binOp .eql t a' b' = (Op.equal t a' b' >>= fun r => pure (.bool r))) ∧ binOp .neq t a' b' = (Op.equal t a' b' >>= fun r => pure (.bool (!r))) := by
      cases ha <;> cases hb <;> first | exact (h1 _ _ _ _ rfl rfl).elim | exact (h2 _ _ rfl rfl).elim | exact (h3 _ _ _ _ rfl rfl).elim | exact ⟨rfl, rfl⟩
    split at h
    · split at h
      · rename_i r hr
        cases h
        obtain ⟨g1, g2⟩ := eqlA_ok (op := .eql) ht hr ha hb w
        simp only [bind, Sem.run_bind' P, g1, Result.andThen]
        refine ⟨?_, rfl⟩
        rw [key.1]
        simp only [bind, Sem.run_bind' P, g2, Result.andThen]; rfl
      · cases h
    · split at h
      · rename_i r hr
        cases h
        obtain ⟨g1, g2⟩ := eqlA_ok (op := .neq) ht hr ha hb w
        simp only [bind, Sem.run_bind' P, g1, Result.andThen]
        refine ⟨?_, rfl⟩
        rw [key.2]
        simp only [bind, Sem.run_bind' P, g2, Result.andThen]; rfl
      · cases h
    · cases h
end
end Go.Cev
namespace Go.Cev
open Go.RowKit
noncomputable section
def tyI (tb : PT TyI) (t : TypeId) : M TyI := .opt (tb.get t)
def pickA (c a b : Option Value) : Option Value := match c with
  | some (.bool true) => a
  | some (.bool false) => b
  | _ => none
def nilA (v : Value) : M Value := match v with
  | .pointer none => .no
  | .nilIface => .no
  | .nilFunc => .no
  | .func (.method _) _ _ => .no
  | v => .ret v
def unA (op : UnOp) (v : Value) : Option Value := match op, v with
  | .neg, .int k n => some (.int k (k.wrap (0 - n)))
  | .not, .bool b => some (.bool (!b))
  | _, _ => none
def convA (s d : TyI) (v : Value) : Option Value := match d.und, v with
  | .int k, .int _ n => some (.int k (k.wrap n))
  | .string, .string b => match s.und with
    | .slice _ => none
    | _ => some (.string b)
  | _, _ => none
def extrA (v : Value) (n : Nat) : Option Value := match v with
  | .tuple vs => nth vs.toList n
  | _ => none
def fieldA (tb : PT TyI) (t : TypeId) (v : Value) (n : Nat) : M Value := (tyI tb t).bd fun i => match i.und, v with
  | .struct fs, .agg cs => (M.opt (nth fs.toList n)).bd fun f => (tyI tb f.type).bd fun j => .opt (partA j cs.toList f.offset)
  | _, _ => .no
/-- an index below a bound -/
def idxA (v : Value) (n : Nat) : Option Nat := match v with
  | .int _ (.ofNat k) => cond (Nat.blt k n) (some k) none
  | _ => none
def indexA (tb : PT TyI) (t : TypeId) (v x : Value) : M Value := (tyI tb t).bd fun i => match i.und, v with
  | .array n e, .agg cs => (M.opt (idxA x n)).bd fun k => (tyI tb e).bd fun j => .opt (partA j cs.toList (k * j.size))
  | .string, .string s => (M.opt (idxA x s.size)).bd fun k => .opt (match nth s.data.toList k with | some b => some (.int .u8 b.toNat) | none => none)
  | _, _ => .no
def ifaceA (tb : PT TyI) (t : TypeId) (v : Value) : M Value := (tyI tb t).bd fun i => match i.und with
  | .interface _ => .no
  | _ => .ret (.iface t v)
/-- to a type that is no interface -/
def assertA (tb : PT TyI) (v : Value) (t : TypeId) (ok : Bool) : M Value := (tyI tb t).bd fun i => match i.und, v with
  | .interface _, _ => .no
  | _, .iface u w => cond (Nat.beq u t) (.ret (cond ok (.tuple #[w, .bool true]) w)) (cond ok ((M.opt i.zero).bd fun z => .ret (.tuple #[z, .bool false])) .no)
  | _, .nilIface => cond ok ((M.opt i.zero).bd fun z => .ret (.tuple #[z, .bool false])) .no
  | _, _ => .no
def fieldAtA (tb : PT TyI) (t : TypeId) (v : Value) (n : Nat) : M Value := (tyI tb t).bd fun i => match i.und, v with
  | .struct fs, .pointer (some a) => (M.opt (nth fs.toList n)).bd fun f => (tyI tb f.type).bd fun j => cond (Nat.beq j.size 0) .no (.ret (.pointer (some (move a f.offset))))
  | _, _ => .no
def indexAtA (tb : PT TyI) (t : TypeId) (v x : Value) : M Value := (tyI tb t).bd fun i => match i.und, v with
  | .array n e, .pointer (some a) => (M.opt (idxA x n)).bd fun k => (tyI tb e).bd fun j => .ret (.pointer (some (move a (k * j.size))))
  | .slice e, .slice (some a) n _ => (M.opt (idxA x n)).bd fun k => (tyI tb e).bd fun j => .ret (.pointer (some (move a (k * j.size))))
  | _, _ => .no
end
section
variable {P : Program} {H : Nat} {w0 : World} {ω : Om} {α β γ δ : Type} {tb : PT TyI}
theorem Sim.ty (ht : TbOk P tb) {t : TypeId} {f : TyI → M α} {s : Sem β} {R : Om → α → β → Prop} (h : ∀ i, tb.get t = some i → Sim P H w0 ω (f i) s R) : Sim P H w0 ω ((tyI tb t).bd f) s R := Sim.opt h
theorem Sim.optN {o : Option Value} {s : Sem Next} (h : ∀ v, o = some v → ∃ v', (∀ w, s.run P w = .ok (.value v') w) ∧ VR ω v v') : Sim P H w0 ω ((M.opt o).bd fun v => .ret (.val v)) s NR := Sim.opt fun v hv W w hw x W' hr => by
  cases hr
  obtain ⟨v', h1, h2⟩ := h v hv
  exact ⟨ω, _, w, Gr.refl ω _, h1 w, hw, .value h2⟩
theorem sim_pick {c a b : Option Value} {c' a' b' : Value} (hc : ∀ v, c = some v → VR ω v c') (ha : ∀ v, a = some v → VR ω v a') (hb : ∀ v, b = some v → VR ω v b') : Sim P H w0 ω ((M.opt (pickA c a b)).bd fun v => .ret (.val v)) (do pure (.value (if ← asBool c' then a' else b'))) NR := Sim.optN fun v h => by
  unfold pickA at h
  split at h
  · have := hc _ rfl; cases this; exact ⟨a', fun w => rfl, ha v h⟩
  · have := hc _ rfl; cases this; exact ⟨b', fun w => rfl, hb v h⟩
  · cases h
/-- the model's look at nil -/
def nilS (v' : Value) : Sem Next :=
    (match v' with
    | .pointer none | .nilIface | .nilFunc => runtimePanic .nilDeref
    | .func (.method name) first captured =>
      match (first[0]? : Option Value) with
      | some .nilIface => runtimePanic .nilDeref
      | some (.iface t w) => do
        if (← nilAhead ((← program).types.size + Made.depth) t w name) != some false then
          unsupported (.noEntry "op/nilCheck.the method's receiver behind this interface value is a nil pointer, or cannot be seen to be none, and the arguments act or may panic (ledger 612)")
        pure (.value (.func (.method name) first captured))
      | _ => pure (.value (.func (.method name) first captured))
    | x => pure (.value x) : Sem Next)
theorem sim_nil {v v' : Value} (h : VR ω v v') : Sim P H w0 ω ((nilA v).bd fun v => .ret (.val v)) (nilS v') NR := fun W w hw x W' hr => by
  obtain ⟨u, W1, h1, h2⟩ := bd_some hr
  cases h2
  cases h with
  | ptr0 => cases h1
  | nilIface => cases h1
  | nilFunc => cases h1
  | @func fn fs fs' cs cs' hy q1 q2 =>
    cases fn with
    | method m => cases h1
    | yield l => exact absurd rfl (hy l)
    | _ => cases h1; exact ⟨ω, _, w, Gr.refl ω _, rfl, hw, .value (.func hy q1 q2)⟩
  | yield hl => cases h1; exact ⟨ω, _, w, Gr.refl ω _, rfl, hw, .value (.yield hl)⟩
  | ptr hb => cases h1; exact ⟨ω, _, w, Gr.refl ω _, rfl, hw, .value (.ptr hb)⟩
  | sl hb hc hrm => cases h1; exact ⟨ω, _, w, Gr.refl ω _, rfl, hw, .value (.sl hb hc hrm)⟩
  | sle a a' hs => cases h1; exact ⟨ω, _, w, Gr.refl ω _, rfl, hw, .value (.sle a a' hs)⟩
  | map hb => cases h1; exact ⟨ω, _, w, Gr.refl ω _, rfl, hw, .value (.map hb)⟩
  | iface t h => cases h1; exact ⟨ω, _, w, Gr.refl ω _, rfl, hw, .value (.iface t h)⟩
  | agg h => cases h1; exact ⟨ω, _, w, Gr.refl ω _, rfl, hw, .value (.agg h)⟩
  | tuple h => cases h1; exact ⟨ω, _, w, Gr.refl ω _, rfl, hw, .value (.tuple h)⟩
  | _ => cases h1; exact ⟨ω, _, w, Gr.refl ω _, rfl, hw, .value (by constructor)⟩
theorem sim_un {op : UnOp} {v v' : Value} (h : VR ω v v') : Sim P H w0 ω (.opt (unA op v)) (Op.unary op v') VR := Sim.optV fun u hu => by
  unfold unA at hu
  split at hu
  · cases hu; cases h; exact ⟨_, fun w => rfl, .int _ _⟩
  · cases hu; cases h; exact ⟨_, fun w => rfl, .bool _⟩
  · cases hu
theorem sim_conv (ht : TbOk P tb) {s d : TypeId} {i j : TyI} (hi : tb.get s = some i) (hj : tb.get d = some j) {v v' : Value} (h : VR ω v v') : Sim P H w0 ω (.opt (convA i j v)) (convert s d v') VR := Sim.optV fun u hu => by
  unfold convA at hu
  split at hu
  · rename_i k k2 n he
    cases hu; cases h
    refine ⟨_, fun w => ?_, .int _ _⟩
    have h1 := ht.und hi w; have h2 := ht.und hj w
    rw [he] at h2
    simp only [convert, bind, Sem.run_bind' P, h1, h2, Result.andThen]
    cases i.und <;> rfl
  · rename_i b he
    split at hu
    · cases hu
    · rename_i hns
      cases hu; cases h
      refine ⟨_, fun w => ?_, .string _⟩
      have h1 := ht.und hi w; have h2 := ht.und hj w
      rw [he] at h2
      simp only [convert, bind, Sem.run_bind' P, h1, h2, Result.andThen]
      cases hu2 : i.und <;> first | rfl | exact absurd hu2 (hns _)
  · cases hu
theorem sim_extr {v v' : Value} {n : Nat} (h : VR ω v v') : Sim P H w0 ω (.opt (extrA v n)) (Instr.extract v' n) VR := Sim.optV fun u hu => by
  unfold extrA at hu
  split at hu
  · cases h with
    | @tuple cs cs' h =>
      obtain ⟨u', h1, h2⟩ := h.nth hu
      refine ⟨u', fun w => ?_, h2⟩
      have h1' : cs'.toArray[n]? = some u' := by simpa using h1
      simp only [Instr.extract, h1']; rfl
  · cases hu
theorem sim_field (ht : TbOk P tb) {t : TypeId} {v v' : Value} {n : Nat} (h : VR ω v v') : Sim P H w0 ω (fieldA tb t v n) (Instr.field t v' n) VR := by
  unfold fieldA Instr.field
  refine Sim.ty ht fun i hi => Sim.runR (ht.und hi) ?_
  split
  · rename_i fs cs he
    rw [he]
    cases h with
    | @agg ds ds' h =>
      refine Sim.opt fun f hf => Sim.ty ht fun j hj => ?_
      have hf' : fs[n]? = some f := by rw [nth_eq] at hf; simpa using hf
      simp only [hf']
      refine Sim.runR (x := ds'.toArray) (fun w => rfl) ?_
      exact Sim.optV fun u hu => partA_ok ht hj hu h
  · exact Sim.no
theorem idxA_ok {v v' : Value} {n k : Nat} (h : VR ω v v') (hk : idxA v n = some k) : ∃ kd, v' = .int kd (k : Int) ∧ k < n := by
  unfold idxA at hk
  split at hk
  · rename_i kd m
    cases hc : Nat.blt m n with
    | false => rw [hc] at hk; cases hk
    | true =>
      rw [hc] at hk; cases hk
      cases h
      exact ⟨kd, rfl, by simpa [Nat.blt_eq] using hc⟩
  · cases hk
theorem sim_index (ht : TbOk P tb) {t : TypeId} {v v' x x' : Value} (h : VR ω v v') (hx : VR ω x x') : Sim P H w0 ω (indexA tb t v x) (Instr.index t v' x') VR := by
  unfold indexA
  refine Sim.ty ht fun i hi => ?_
  split
  · rename_i n e cs he
    refine Sim.opt fun k hk => Sim.ty ht fun j hj => ?_
    obtain ⟨kd, rfl, hlt⟩ := idxA_ok hx hk
    cases h with
    | @agg ds ds' h =>
      refine Sim.optV fun u hu => ?_
      obtain ⟨u', h1, h2⟩ := partA_ok ht hj hu h
      refine ⟨u', fun w => ?_, h2⟩
      have h3 := ht.und hi w
      rw [he] at h3
      simp only [Instr.index, asIntOf, bind, Sem.run_bind' P, pure, Sem.run, Result.andThen, h3]
      rw [if_pos ⟨by omega, by omega⟩]
      simp only [Sem.run_bind' P, ht.size hj w, Result.andThen, Int.toNat_natCast]
      exact h1 w
  · rename_i s he
    refine Sim.opt fun k hk => ?_
    obtain ⟨kd, rfl, hlt⟩ := idxA_ok hx hk
    cases h
    refine Sim.optV fun u hu => ?_
    split at hu
    · rename_i b hb
      cases hu
      refine ⟨_, fun w => ?_, .int _ _⟩
      have h3 := ht.und hi w
      rw [he] at h3
      rw [nth_eq] at hb
      simp only [Instr.index, asIntOf, bind, Sem.run_bind' P, pure, Sem.run, Result.andThen, h3]
      rw [if_pos (show (0:Int) ≤ ↑k by omega)]
      have : s[(k : Int).toNat]? = some b := by
        rw [Int.toNat_natCast]
        rw [getElem?_pos s k hlt]
        have := (List.getElem?_eq_some_iff.1 hb).2
        rw [← this]; rfl
      simp only [this]; rfl
    · cases hu
  · exact Sim.no
theorem sim_iface (ht : TbOk P tb) {t : TypeId} {v v' : Value} (h : VR ω v v') : Sim P H w0 ω (ifaceA tb t v) (Instr.makeInterface t v') VR := by
  unfold ifaceA Instr.makeInterface
  refine Sim.ty ht fun i hi => Sim.runR (ht.und hi) ?_
  split
  · exact Sim.no
  · rename_i hn
    cases hu : i.und <;> first | exact Sim.ret (.iface t h) | exact absurd hu (hn _)
theorem sim_assert (ht : TbOk P tb) {t xt : TypeId} {v v' : Value} {ok : Bool} (h : VR ω v v') : Sim P H w0 ω (assertA tb v t ok) (Instr.typeAssert v' xt t ok) VR := by
  unfold assertA Instr.typeAssert
  refine Sim.ty ht fun i hi => ?_
  have hz : ∀ z, i.zero = some z → ∀ w, (zeroValue t).run P w = .ok z w := fun z h => ht.zero hi h
  have zr : ∀ {st : Option TypeId} {dy : Option TypeId}, Sim P H w0 ω (cond ok ((M.opt i.zero).bd fun z => .ret (.tuple #[z, .bool false])) .no) (if ok = true then (do pure (.tuple #[← zeroValue t, .bool false])) else runtimePanic (.typeAssertion st dy t "")) VR := by
    intro st dy
    cases ok with
    | true =>
      simp only [cond_true, if_true]
      exact Sim.opt fun z hz2 => Sim.runR (hz z hz2) (Sim.ret (.tuple (cs := [z, .bool false]) (cs' := [z, .bool false]) (.cons (ht.zeroV hi hz2) (.cons (.bool _) .nil))))
    | false => exact Sim.no
  refine Sim.runR (ht.und hi) ?_
  split
  · exact Sim.no
  · rename_i u w hn
    cases h with
    | @iface _ w' _ h =>
      have hsplit : ∀ s : Sem Value, s = (if u = t then (pure (if ok = true then .tuple #[w', .bool true] else w')) else (if ok = true then (do pure (.tuple #[← zeroValue t, .bool false])) else runtimePanic (.typeAssertion (some xt) (some u) t ""))) → Sim P H w0 ω (cond (Nat.beq u t) (.ret (cond ok (.tuple #[w, .bool true]) w)) (cond ok ((M.opt i.zero).bd fun z => .ret (.tuple #[z, .bool false])) .no)) s VR := by
        intro s hs
        subst hs
        cases hc : Nat.beq u t with
        | true =>
          rw [if_pos (Nat.eq_of_beq_eq_true hc)]
          refine Sim.ret ?_
          cases ok with
          | true => exact .tuple (cs := [w, .bool true]) (cs' := [w', .bool true]) (.cons h (.cons (.bool _) .nil))
          | false => exact h
        | false =>
          rw [if_neg (fun e => by rw [e] at hc; simp at hc)]
          exact zr
      refine hsplit _ ?_
      cases hu : i.und <;> first | rfl | exact absurd hu (hn _)
  · rename_i hn
    cases h
    cases hu : i.und <;> first | exact zr | exact absurd hu (hn _)
  · exact Sim.no
theorem sim_fieldAt (ht : TbOk P tb) {t : TypeId} {v v' : Value} {n : Nat} (h : VR ω v v') : Sim P H w0 ω (fieldAtA tb t v n) (Instr.fieldAt t v' n) VR := by
  unfold fieldAtA Instr.fieldAt
  refine Sim.ty ht fun i hi => Sim.runR (ht.und hi) ?_
  split
  · rename_i fs a he
    rw [he]
    refine Sim.opt fun f hf => Sim.ty ht fun j hj => ?_
    have hf' : fs[n]? = some f := by rw [nth_eq] at hf; simpa using hf
    simp only [hf']
    cases hz : Nat.beq j.size 0 with
    | true => exact Sim.no
    | false =>
      have hz' : j.size ≠ 0 := fun e => by rw [e] at hz; cases hz
      have hv : ∃ a', v' = .pointer (some a') ∧ AR ω a a' := by cases h with | ptr hb => exact ⟨_, rfl, .ptr hb⟩
      obtain ⟨a', rfl, ha⟩ := hv
      refine Sim.runR (x := a') (fun w => rfl) ?_
      refine Sim.runR (x := a'.add f.offset) (fun w => ?_) (Sim.ret (ha.move _))
      simp only [fieldPlace, bind, Sem.run_bind' P, ht.size hj w, Result.andThen, hz', if_false]; rfl
  · exact Sim.no
theorem sim_indexAt (ht : TbOk P tb) {t : TypeId} {v v' x x' : Value} (h : VR ω v v') (hx : VR ω x x') : Sim P H w0 ω (indexAtA tb t v x) (Instr.indexAt t v' x') VR := by
  unfold indexAtA
  refine Sim.ty ht fun i hi => ?_
  split
  · rename_i n e a he
    refine Sim.opt fun k hk => Sim.ty ht fun j hj => ?_
    obtain ⟨kd, rfl, hlt⟩ := idxA_ok hx hk
    have hv : ∃ a', v' = .pointer (some a') ∧ AR ω a a' := by cases h with | ptr hb => exact ⟨_, rfl, .ptr hb⟩
    obtain ⟨a', rfl, ha⟩ := hv
    refine Sim.optV (o := some _) fun u hu => ?_
    cases hu
    refine ⟨_, fun w => ?_, ha.move (k * j.size)⟩
    have h3 := ht.und hi w
    rw [he] at h3
    simp only [Instr.indexAt, asIntOf, Instr.sureAddr, bind, Sem.run_bind' P, pure, Sem.run, Result.andThen, h3]
    rw [if_pos ⟨by omega, by omega⟩]
    simp only [Sem.run_bind' P, ht.size hj w, Result.andThen, Int.toNat_natCast]; rfl
  · rename_i e a n c he
    refine Sim.opt fun k hk => Sim.ty ht fun j hj => ?_
    obtain ⟨kd, rfl, hlt⟩ := idxA_ok hx hk
    have hv : ∃ a' c', v' = .slice (some a') n c' ∧ AR ω a a' := by
      cases h with
      | sl hb hc => exact ⟨_, _, rfl, .ptr hb⟩
      | sle => omega
    obtain ⟨a', c', rfl, ha⟩ := hv
    refine Sim.optV (o := some _) fun u hu => ?_
    cases hu
    refine ⟨_, fun w => ?_, ha.move (k * j.size)⟩
    have h3 := ht.und hi w
    rw [he] at h3
    simp only [Instr.indexAt, asIntOf, bind, Sem.run_bind' P, pure, Sem.run, Result.andThen, h3]
    rw [if_pos ⟨by omega, by omega⟩]
    simp only [Sem.run_bind' P, ht.size hj w, Result.andThen, Int.toNat_natCast]; rfl
  · exact Sim.no
end
end Go.Cev
