/- Steps of a function body on data, and contracts of the functions of the seat, walked. -/
import Derived.Control
import Derived.Below
import Derived.Laws.AppendOwn
set_option linter.unusedSimpArgs false
set_option linter.unusedVariables false
set_option linter.unusedSectionVars false
namespace Go.Cev
/-! ### a table by numbers, as a binary tree; written for the kernel -/
inductive PT (α : Type) where
  | leaf
  | node (l : PT α) (v : Option α) (r : PT α)
namespace PT
variable {α : Type}
/-- k ≥ 1: its digits lead the way -/
noncomputable def getK (t : PT α) : Nat → Option α :=
  PT.rec (motive := fun _ => Nat → Option α) (fun _ => none) (fun _ v _ gl gr k => Bool.rec (motive := fun _ => Option α) (Nat.rec (motive := fun _ => Option α) (gl (Nat.div k 2)) (fun _ _ => gr (Nat.div k 2)) (Nat.mod k 2)) v (Nat.ble k 1)) t
noncomputable def setK (f : Nat) (x : Option α) : PT α → Nat → PT α :=
  Nat.rec (motive := fun _ => PT α → Nat → PT α) (fun t _ => t)
    (fun _ ih t k => PT.rec (motive := fun _ => PT α)
      (Bool.rec (motive := fun _ => PT α) (Nat.rec (motive := fun _ => PT α) (node (ih leaf (Nat.div k 2)) none leaf) (fun _ _ => node leaf none (ih leaf (Nat.div k 2))) (Nat.mod k 2)) (node leaf x leaf) (Nat.ble k 1))
      (fun l v r _ _ => Bool.rec (motive := fun _ => PT α) (Nat.rec (motive := fun _ => PT α) (node (ih l (Nat.div k 2)) v r) (fun _ _ => node l v (ih r (Nat.div k 2))) (Nat.mod k 2)) (node l x r) (Nat.ble k 1)) t) f
theorem getK_leaf (k : Nat) : getK (leaf : PT α) k = none := rfl
theorem ble_no {k : Nat} (h1 : ¬ k ≤ 1) : Nat.ble k 1 = false := by rw [Bool.eq_false_iff]; exact fun h => h1 (Nat.le_of_ble_eq_true h)
theorem mod_no {k : Nat} (h2 : ¬ k % 2 = 0) : Nat.mod k 2 = 1 := by show k % 2 = 1; omega
theorem getK_node (l r : PT α) (v : Option α) (k : Nat) : getK (node l v r) k = if k ≤ 1 then v else if k % 2 = 0 then getK l (k / 2) else getK r (k / 2) := by
  show Bool.rec (motive := fun _ => Option α) (Nat.rec (motive := fun _ => Option α) (getK l (Nat.div k 2)) (fun _ _ => getK r (Nat.div k 2)) (Nat.mod k 2)) v (Nat.ble k 1) = _
  by_cases h1 : k ≤ 1
  · rw [if_pos h1, Nat.ble_eq_true_of_le h1]
  · rw [if_neg h1, ble_no h1]
    by_cases h2 : k % 2 = 0
    · rw [if_pos h2, show Nat.mod k 2 = 0 from h2]; rfl
    · rw [if_neg h2, mod_no h2]; rfl
theorem setK_zero (x : Option α) (t : PT α) (k : Nat) : setK 0 x t k = t := rfl
theorem setK_leaf (f : Nat) (x : Option α) (k : Nat) : setK (f + 1) x leaf k = if k ≤ 1 then node leaf x leaf else if k % 2 = 0 then node (setK f x leaf (k / 2)) none leaf else node leaf none (setK f x leaf (k / 2)) := by
  show Bool.rec (motive := fun _ => PT α) (Nat.rec (motive := fun _ => PT α) (node (setK f x leaf (Nat.div k 2)) none leaf) (fun _ _ => node leaf none (setK f x leaf (Nat.div k 2))) (Nat.mod k 2)) (node leaf x leaf) (Nat.ble k 1) = _
  by_cases h1 : k ≤ 1
  · rw [if_pos h1, Nat.ble_eq_true_of_le h1]
  · rw [if_neg h1, ble_no h1]
    by_cases h2 : k % 2 = 0
    · rw [if_pos h2, show Nat.mod k 2 = 0 from h2]; rfl
    · rw [if_neg h2, mod_no h2]; rfl
theorem setK_node (f : Nat) (x : Option α) (l r : PT α) (v : Option α) (k : Nat) : setK (f + 1) x (node l v r) k = if k ≤ 1 then node l x r else if k % 2 = 0 then node (setK f x l (k / 2)) v r else node l v (setK f x r (k / 2)) := by
  show Bool.rec (motive := fun _ => PT α) (Nat.rec (motive := fun _ => PT α) (node (setK f x l (Nat.div k 2)) v r) (fun _ _ => node l v (setK f x r (Nat.div k 2))) (Nat.mod k 2)) (node l x r) (Nat.ble k 1) = _
  by_cases h1 : k ≤ 1
  · rw [if_pos h1, Nat.ble_eq_true_of_le h1]
  · rw [if_neg h1, ble_no h1]
    by_cases h2 : k % 2 = 0
    · rw [if_pos h2, show Nat.mod k 2 = 0 from h2]; rfl
    · rw [if_neg h2, mod_no h2]; rfl
theorem get_setK (x : Option α) : ∀ (f : Nat) (t : PT α) (k m : Nat), 1 ≤ k → 1 ≤ m → k < 2 ^ f → getK (setK f x t k) m = if m = k then x else getK t m
  | 0, t, k, m, hk, _, hf => by simp at hf; omega
  | f + 1, t, k, m, hk, hm, hf => by
    have ih := fun t m (h : 1 ≤ m) (h2 : 1 ≤ k / 2) => get_setK x f t (k / 2) m h2 h (by rw [Nat.pow_succ] at hf; omega)
    cases t with
    | leaf =>
      rw [setK_leaf]
      split
      · simp only [getK_node, getK_leaf]
        by_cases h : m = k
        · rw [if_pos h, if_pos (by omega)]
        · rw [if_neg h, if_neg (by omega)]; split <;> rfl
      · split
        · simp only [getK_node, getK_leaf]
          by_cases h1 : m ≤ 1
          · rw [if_pos h1, if_neg (by omega)]
          · rw [if_neg h1]
            by_cases h2 : m % 2 = 0
            · rw [if_pos h2, ih _ _ (by omega) (by omega)]
              simp only [getK_leaf]
              by_cases h : m = k
              · subst h; simp
              · rw [if_neg h, if_neg (by omega)]
            · rw [if_neg h2, if_neg (by intro h; subst h; omega)]
        · simp only [getK_node, getK_leaf]
          by_cases h1 : m ≤ 1
          · rw [if_pos h1, if_neg (by omega)]
          · rw [if_neg h1]
            by_cases h2 : m % 2 = 0
            · rw [if_pos h2, if_neg (by intro h; subst h; omega)]
            · rw [if_neg h2, ih _ _ (by omega) (by omega)]
              simp only [getK_leaf]
              by_cases h : m = k
              · subst h; simp
              · rw [if_neg h, if_neg (by omega)]
    | node l v r =>
      rw [setK_node]
      split
      · simp only [getK_node]
        by_cases h : m = k
        · rw [if_pos h, if_pos (by omega)]
        · have hm1 : ¬ m ≤ 1 := by omega
          rw [if_neg hm1, if_neg h, if_neg hm1]
      · split
        · simp only [getK_node]
          by_cases h1 : m ≤ 1
          · rw [if_pos h1, if_pos h1, if_neg (by omega)]
          · rw [if_neg h1, if_neg h1]
            by_cases h2 : m % 2 = 0
            · rw [if_pos h2, if_pos h2, ih _ _ (by omega) (by omega)]
              by_cases h : m = k
              · subst h; simp
              · rw [if_neg h, if_neg (by omega)]
            · rw [if_neg h2, if_neg h2, if_neg (by intro h; subst h; omega)]
        · simp only [getK_node]
          by_cases h1 : m ≤ 1
          · rw [if_pos h1, if_pos h1, if_neg (by omega)]
          · rw [if_neg h1, if_neg h1]
            by_cases h2 : m % 2 = 0
            · rw [if_pos h2, if_pos h2, if_neg (by intro h; subst h; omega)]
            · rw [if_neg h2, if_neg h2, ih _ _ (by omega) (by omega)]
              by_cases h : m = k
              · subst h; simp
              · rw [if_neg h, if_neg (by omega)]
noncomputable def get (t : PT α) (n : Nat) : Option α := getK t (Nat.succ n)
noncomputable def set (t : PT α) (n : Nat) (x : Option α) : PT α := setK (Nat.succ (Nat.log2 (Nat.succ n))) x t (Nat.succ n)
theorem get_set (t : PT α) (n m : Nat) (x : Option α) : get (set t n x) m = if m = n then x else get t m := by
  unfold get set
  rw [get_setK x _ _ _ _ (by omega) (by omega) (Nat.lt_log2_self)]
  simp
theorem get_leaf (m : Nat) : get (leaf : PT α) m = none := rfl
/-- a list as a table, from a number on -/
noncomputable def ofL (l : List α) (i : Nat) (t : PT α) : PT α := match l with
  | [] => t
  | x :: r => ofL r (i + 1) (t.set i (some x))
theorem get_ofL : ∀ (l : List α) (i : Nat) (t : PT α) (m : Nat), get (ofL l i t) m = if i ≤ m ∧ m < i + l.length then l[m - i]? else get t m
  | [], i, t, m => by rw [ofL, if_neg (by simp only [List.length_nil]; omega)]
  | x :: r, i, t, m => by
    rw [ofL, get_ofL r (i + 1), get_set]
    simp only [List.length_cons]
    by_cases h : m = i
    · subst h
      rw [if_neg (by omega), if_pos rfl, if_pos (by omega)]; simp
    · by_cases h2 : i + 1 ≤ m ∧ m < i + 1 + r.length
      · rw [if_pos h2, if_pos (by omega)]
        rw [show m - i = (m - (i + 1)) + 1 by omega]; rfl
      · rw [if_neg h2, if_neg h, if_neg (by omega)]
end PT
end Go.Cev
namespace Go.Cev
/-! ### values, objects and worlds with names for blocks, and what they stand for -/
/-- where the named blocks lie: the block, and the cell at which the named one begins; how many cells its elements have, and how many cells there are -/
structure Om where
  at_ : Nat → Option (Nat × Nat)
  room : Nat → (Nat × Nat) × Nat
instance : CoeFun Om fun _ => Nat → Option (Nat × Nat) := ⟨Om.at_⟩
structure Om.Le (ω ω' : Om) : Prop where
  to : ∀ b x, ω b = some x → ω' b = some x
  room : ∀ b x, ω b = some x → ω'.room b = ω.room b
theorem Om.Le.refl (ω : Om) : Om.Le ω ω := ⟨fun _ _ h => h, fun _ _ _ => rfl⟩
theorem Om.Le.trans {ω ω' ω'' : Om} (h : Om.Le ω ω') (h' : Om.Le ω' ω'') : Om.Le ω ω'' := ⟨fun b x hx => h'.to b x (h.to b x hx), fun b x hx => (h'.room b x (h.to b x hx)).trans (h.room b x hx)⟩
mutual
inductive VR (ω : Om) : Value → Value → Prop
  | bool (b : Bool) : VR ω (.bool b) (.bool b)
  | int (k : IntKind) (n : Int) : VR ω (.int k n) (.int k n)
  | float (k : FloatKind) (n : Nat) : VR ω (.float k n) (.float k n)
  | string (s : ByteArray) : VR ω (.string s) (.string s)
  | ptr0 : VR ω (.pointer none) (.pointer none)
  | ptr {b r base o : Nat} (h : ω b = some (r, base)) : VR ω (.pointer (some ⟨b, o, none⟩)) (.pointer (some ⟨r, base + o, none⟩))
  | sl0 : VR ω (.slice none 0 0) (.slice none 0 0)
  | sl {b r base o n c c' : Nat} (h : ω b = some (r, base)) (hc : c ≤ c') (hr : o + c' * (ω.room b).1.1 ≤ (ω.room b).2) : VR ω (.slice (some ⟨b, o, none⟩) n c) (.slice (some ⟨r, base + o, none⟩) n c')
  | sle (a a' : Addr) (h : a.spot = none → ∃ x, ω a.block = some x) : VR ω (.slice (some a) 0 0) (.slice (some a') 0 0)
  | map0 : VR ω (.map none) (.map none)
  | map {b r : Nat} (h : ω b = some (r, 0)) : VR ω (.map (some b)) (.map (some r))
  | func {fn : Fn} {fs fs' cs cs' : List Value} (hy : ∀ l, fn ≠ .yield l) (h1 : VRs ω fs fs') (h2 : VRs ω cs cs') : VR ω (.func fn fs.toArray cs.toArray) (.func fn fs'.toArray cs'.toArray)
  | yield {l l' : Nat} (h : ω l = some (l', 0)) : VR ω (.func (.yield l) #[] #[]) (.func (.yield l') #[] #[])
  | nilFunc : VR ω .nilFunc .nilFunc
  | nilIface : VR ω .nilIface .nilIface
  | iface {v v' : Value} (t : TypeId) (h : VR ω v v') : VR ω (.iface t v) (.iface t v')
  | agg {cs cs' : List Value} (h : VRs ω cs cs') : VR ω (.agg cs.toArray) (.agg cs'.toArray)
  | tuple {cs cs' : List Value} (h : VRs ω cs cs') : VR ω (.tuple cs.toArray) (.tuple cs'.toArray)
inductive VRs (ω : Om) : List Value → List Value → Prop
  | nil : VRs ω [] []
  | cons {v v' : Value} {vs vs' : List Value} (h : VR ω v v') (hs : VRs ω vs vs') : VRs ω (v :: vs) (v' :: vs')
end
mutual
theorem VR.mono {ω ω' : Om} (hω : Om.Le ω ω') : ∀ {v v' : Value}, VR ω v v' → VR ω' v v'
  | _, _, .bool b => .bool b
  | _, _, .int k n => .int k n
  | _, _, .float k n => .float k n
  | _, _, .string s => .string s
  | _, _, .ptr0 => .ptr0
  | _, _, .ptr h => .ptr (hω.to _ _ h)
  | _, _, .sl0 => .sl0
  | _, _, .sl h hc hr => .sl (hω.to _ _ h) hc (by rw [hω.room _ _ h]; exact hr)
  | _, _, .sle a a' h => .sle a a' fun hs => let ⟨x, hx⟩ := h hs; ⟨x, hω.to _ _ hx⟩
  | _, _, .map0 => .map0
  | _, _, .map h => .map (hω.to _ _ h)
  | _, _, .func hy h1 h2 => .func hy (VRs.mono hω h1) (VRs.mono hω h2)
  | _, _, .yield h => .yield (hω.to _ _ h)
  | _, _, .nilFunc => .nilFunc
  | _, _, .nilIface => .nilIface
  | _, _, .iface t h => .iface t (VR.mono hω h)
  | _, _, .agg h => .agg (VRs.mono hω h)
  | _, _, .tuple h => .tuple (VRs.mono hω h)
theorem VRs.mono {ω ω' : Om} (hω : Om.Le ω ω') : ∀ {vs vs' : List Value}, VRs ω vs vs' → VRs ω' vs vs'
  | _, _, .nil => .nil
  | _, _, .cons h hs => .cons (VR.mono hω h) (VRs.mono hω hs)
end
section
variable {ω : Om}
theorem VRs.length : ∀ {vs vs' : List Value}, VRs ω vs vs' → vs.length = vs'.length
  | _, _, .nil => rfl
  | _, _, .cons _ hs => by simp [VRs.length hs]
theorem VRs.get : ∀ {vs vs' : List Value} {i : Nat} {v : Value}, VRs ω vs vs' → vs[i]? = some v → ∃ v', vs'[i]? = some v' ∧ VR ω v v'
  | _, _, 0, _, .cons h _, he => by simp at he; subst he; exact ⟨_, rfl, h⟩
  | _, _, i + 1, _, .cons _ hs, he => by simpa using VRs.get hs (i := i) (by simpa using he)
  | _, _, _, _, .nil, he => by simp at he
theorem VRs.append : ∀ {vs vs' us us' : List Value}, VRs ω vs vs' → VRs ω us us' → VRs ω (vs ++ us) (vs' ++ us')
  | _, _, _, _, .nil, h => h
  | _, _, _, _, .cons h hs, h' => .cons h (hs.append h')
theorem VRs.drop : ∀ {vs vs' : List Value} (i : Nat), VRs ω vs vs' → VRs ω (vs.drop i) (vs'.drop i)
  | _, _, 0, h => h
  | _, _, i + 1, .cons _ hs => by simpa using hs.drop i
  | _, _, _ + 1, .nil => by simpa using VRs.nil
theorem VRs.take : ∀ {vs vs' : List Value} (i : Nat), VRs ω vs vs' → VRs ω (vs.take i) (vs'.take i)
  | _, _, 0, _ => by simpa using VRs.nil
  | _, _, i + 1, .cons h hs => by simpa using VRs.cons h (hs.take i)
  | _, _, _ + 1, .nil => by simpa using VRs.nil
theorem VRs.set : ∀ {vs vs' : List Value} (i : Nat) {v v' : Value}, VRs ω vs vs' → VR ω v v' → VRs ω (vs.set i v) (vs'.set i v')
  | _, _, 0, _, _, .cons _ hs, hv => by simpa using VRs.cons hv hs
  | _, _, i + 1, _, _, .cons h hs, hv => by simpa using VRs.cons h (hs.set i hv)
  | _, _, _, _, _, .nil, _ => by simpa using VRs.nil
/-- the cells of what is the same are the same -/
theorem VR.cells {v v' : Value} (h : VR ω v v') : VRs ω v.cells.toList v'.cells.toList := by
  cases h with
  | agg h => exact h
  | _ => exact .cons (by constructor <;> assumption) .nil
end
/-! ### the world by names -/
/-- an object by names; cells: k cells an element (0: no slice is there); the first fz of them are not written any more; fz above their number: nothing is put behind them either -/
inductive AO where
  | cells (c : List Value) (k : Nat × Nat) (fz : Nat)
  | map (es : List MapEntry) (clock : Nat)
  | mit (m : Option Nat) (since : Nat) (seen : List Nat) (st : Nat)
  | sit (s : ByteArray) (pos : Nat)
  | loop (st : LoopState) (pd : Option Code) (fn : FuncId) (rg : PT Value) (n : Nat) (ps : Array Tmp) (assign body : Code) (defers : Nat)
  | dfs (calls : Option (List Deferred))
structure AW where
  heap : PT AO
  next : Nat
/-- what is done by names -/
abbrev M (α : Type) := AW → Option (α × AW)
def M.ret {α : Type} (a : α) : M α := fun W => some (a, W)
def M.no {α : Type} : M α := fun _ => none
def M.bd {α β : Type} (m : M α) (f : α → M β) : M β := fun W => match m W with | none => none | some (a, W') => f a W'
/-- what may be there -/
def M.opt {α : Type} (o : Option α) : M α := fun W => match o with | none => none | some a => some (a, W)
def M.ok (b : Bool) : M Unit := fun W => match b with | true => some ((), W) | false => none
/-- the n-th of a list -/
noncomputable def nth {α : Type} (l : List α) : Nat → Option α := List.rec (motive := fun _ => Nat → Option α) (fun _ => none) (fun x _ ih n => Nat.casesOn (motive := fun _ => Option α) n (some x) ih) l
theorem nth_eq {α : Type} : ∀ (l : List α) (n : Nat), nth l n = l[n]?
  | [], _ => rfl
  | _ :: _, 0 => rfl
  | _ :: l, n + 1 => by rw [List.getElem?_cons_succ, ← nth_eq l n]; rfl
noncomputable def put {α : Type} (v : α) (l : List α) : Nat → List α := List.rec (motive := fun _ => Nat → List α) (fun _ => []) (fun x l ih n => Nat.casesOn (motive := fun _ => List α) n (v :: l) (fun m => x :: ih m)) l
theorem put_eq {α : Type} (v : α) : ∀ (l : List α) (n : Nat), put v l n = l.set n v
  | [], _ => rfl
  | _ :: _, 0 => rfl
  | _ :: l, n + 1 => by rw [List.set_cons_succ, ← put_eq v l n]; rfl
noncomputable def len {α : Type} (l : List α) : Nat := List.rec (motive := fun _ => Nat) 0 (fun _ _ ih => Nat.succ ih) l
theorem len_eq {α : Type} : ∀ (l : List α), len l = l.length
  | [] => rfl
  | _ :: l => by rw [List.length_cons, ← len_eq l]; rfl
/-- a value of one cell -/
def one : Value → Bool
  | .agg _ => false
  | .tuple _ => false
  | _ => true
noncomputable section
def rd (a : Addr) : M Value := fun W => match a.spot with
  | some _ => none
  | none => match W.heap.get a.block with
    | some (.cells c _ _) => match nth c a.off with
      | some v => some (v, W)
      | none => none
    | _ => none
def wr (a : Addr) (v : Value) : M Unit := fun W => match a.spot with
  | some _ => none
  | none => match W.heap.get a.block with
    | some (.cells c e fz) => cond (Nat.ble fz a.off && Nat.blt a.off (len c) && one v) (some ((), ⟨W.heap.set a.block (some (.cells (put v c a.off) e fz)), W.next⟩)) none
    | _ => none
def nw (o : AO) : M Nat := fun W => some (W.next, ⟨W.heap.set W.next (some o), W.next + 1⟩)
/-- objects that are no cells -/
def AO.obj : AO → Bool
  | .cells .. => false
  | _ => true
def gt (r : Nat) : M AO := fun W => match W.heap.get r with
  | some o => cond o.obj (some (o, W)) none
  | none => none
def st (r : Nat) (o : AO) : M Unit := fun W => match W.heap.get r with
  | some o' => cond (o'.obj && o.obj) (some ((), ⟨W.heap.set r (some o), W.next⟩)) none
  | none => none
end
end Go.Cev
namespace Go.Cev
open Go.RowKit
/-! ### objects, worlds -/
inductive TR (ω : Om) : Target → Target → Prop
  | fn {fn : Fn} {cs cs' : List Value} (hy : ∀ l, fn ≠ .yield l) (h : VRs ω cs cs') : TR ω (.fn fn cs.toArray) (.fn fn cs'.toArray)
  | yield {l l' : Nat} (h : ω l = some (l', 0)) : TR ω (.fn (.yield l) #[]) (.fn (.yield l') #[])
  | builtin (b : Builtin) (ts : Array TypeId) (t : TypeId) (cs : Array Bool) : TR ω (.builtin b ts t cs) (.builtin b ts t cs)
  | collected {r r' : Nat} (h : ω r = some (r', 0)) : TR ω (.collected r) (.collected r')
structure DR (ω : Om) (d d' : Deferred) : Prop where
  t : TR ω d.target d'.target
  a : VRs ω d.args.toList d'.args.toList
inductive DRs (ω : Om) : List Deferred → List Deferred → Prop
  | nil : DRs ω [] []
  | cons {d d' : Deferred} {ds ds' : List Deferred} (h : DR ω d d') (hs : DRs ω ds ds') : DRs ω (d :: ds) (d' :: ds')
inductive ERs (ω : Om) : List MapEntry → List MapEntry → Prop
  | nil : ERs ω [] []
  | cons {k k' v v' : Value} {es es' : List MapEntry} (born : Nat) (hk : VR ω k k') (hv : VR ω v v') (hs : ERs ω es es') : ERs ω (⟨k, v, born⟩ :: es) (⟨k', v', born⟩ :: es')
/-- the temporaries -/
structure RegR (ω : Om) (rg : PT Value) (n : Nat) (tm : Array Value) : Prop where
  size : tm.size = n
  at_ : ∀ t, VR ω ((rg.get t).getD undef) (tm.getD t undef)
/-- what a named object stands for; base: the cell at which it begins; rm: cells an element, and how many cells -/
inductive OR (ω : Om) (rm : (Nat × Nat) × Nat) : Nat → AO → Obj → Prop
  | cells {base : Nat} {c c' : List Value} {k : Nat × Nat} {e : TypeId} {fz : Nat} {fr : Nat × Nat} (h : ∀ i v, c[i]? = some v → ∃ v', c'[base + i]? = some v' ∧ VR ω v v') (hf : fz ≤ c.length → fr = (0, 0)) (hk : rm.1 = k) (ht : base + rm.2 ≤ c'.length) (he : (k.2 = 0 ∨ k.2 = e + 1) ∧ (k.1 = 0 → base = 0 ∧ c'.length = c.length)) : OR ω rm base (.cells c k fz) (.cells c'.toArray e fr)
  | map {es es' : List MapEntry} (clock : Nat) (h : ERs ω es es') : OR ω rm 0 (.map es clock) (.map es'.toArray clock)
  | iter0 (since : Nat) (seen : List Nat) (st : Nat) : OR ω rm 0 (.mit none since seen st) (.mapIter none since seen.toArray st)
  | iter {m m' : Nat} (h : ω m = some (m', 0)) (since : Nat) (seen : List Nat) (st : Nat) : OR ω rm 0 (.mit (some m) since seen st) (.mapIter (some m') since seen.toArray st)
  | str (s : ByteArray) (pos : Nat) : OR ω rm 0 (.sit s pos) (.stringIter s pos)
  | loop (st : LoopState) (pd : Option Code) (fn : FuncId) {rg : PT Value} {n : Nat} {tm : Array Value} (h : RegR ω rg n tm) (ps : Array Tmp) (assign body : Code) {d d' : Nat} (hd : ω d = some (d', 0)) : OR ω rm 0 (.loop st pd fn rg n ps assign body d) (.loop ⟨st, pd, fn, tm, ps, assign, body, d'⟩)
  | def0 : OR ω rm 0 (.dfs none) (.deferred none)
  | defs {ds ds' : List Deferred} (h : DRs ω ds ds') : OR ω rm 0 (.dfs (some ds)) (.deferred (some ds'))
section
variable {ω ω' : Om} (hω : Om.Le ω ω')
include hω
theorem TR.mono {t t' : Target} (h : TR ω t t') : TR ω' t t' := by
  cases h with
  | fn hy h => exact .fn hy (h.mono hω)
  | yield h => exact .yield (hω.to _ _ h)
  | builtin => exact .builtin ..
  | collected h => exact .collected (hω.to _ _ h)
theorem DR.mono {d d' : Deferred} (h : DR ω d d') : DR ω' d d' := ⟨h.t.mono hω, h.a.mono hω⟩
theorem DRs.mono {d d' : List Deferred} (h : DRs ω d d') : DRs ω' d d' := by
  induction h with
  | nil => exact .nil
  | cons h _ ih => exact .cons (h.mono hω) ih
theorem ERs.mono {d d' : List MapEntry} (h : ERs ω d d') : ERs ω' d d' := by
  induction h with
  | nil => exact .nil
  | cons b hk hv _ ih => exact .cons b (hk.mono hω) (hv.mono hω) ih
theorem RegR.mono {rg : PT Value} {n : Nat} {tm : Array Value} (h : RegR ω rg n tm) : RegR ω' rg n tm := ⟨h.size, fun t => (h.at_ t).mono hω⟩
theorem OR.mono {rm : (Nat × Nat) × Nat} {b : Nat} {o : AO} {o' : Obj} (h : OR ω rm b o o') : OR ω' rm b o o' := by
  cases h with
  | cells h hf hk ht he => exact .cells (fun i v hv => let ⟨v', h1, h2⟩ := h i v hv; ⟨v', h1, h2.mono hω⟩) hf hk ht he
  | map c h => exact .map c (h.mono hω)
  | iter0 => exact .iter0 ..
  | iter h => exact .iter (hω.to _ _ h) ..
  | str => exact .str ..
  | loop _ _ _ h _ _ _ hd => exact .loop _ _ _ (h.mono hω) _ _ _ (hω.to _ _ hd)
  | def0 => exact .def0
  | defs h => exact .defs (h.mono hω)
end
/-- may it still be written -/
def AO.live : AO → Prop
  | .cells c _ fz => fz ≤ c.length
  | _ => True
/-- two names of one block: rows of cells; what both hold is not written any more; at most one of them may grow, and none ends behind it -/
def Apart (o o' : AO) (base base' : Nat) : Prop := match o, o' with
  | .cells c _ fz, .cells c' _ fz' => (∀ i j, i < c.length → j < c'.length → base + i = base' + j → i < fz ∧ j < fz') ∧ (fz ≤ c.length → base' + c'.length ≤ base + c.length) ∧ ¬ (fz ≤ c.length ∧ fz' ≤ c'.length)
  | _, _ => False
/-- the world by names stands for the world, of which all below H is as it was -/
structure WR (H : Nat) (w0 : World) (ω : Om) (W : AW) (w : World) : Prop where
  below : Below H w0 w
  size : H ≤ w.heap.size
  obj : ∀ b r base, ω b = some (r, base) → ∃ o o', W.heap.get b = some o ∧ w.heap[r]? = some o' ∧ OR ω (ω.room b) base o o'
  dom : ∀ b x, ω b = some x → b < W.next
  own : ∀ b r base o, ω b = some (r, base) → W.heap.get b = some o → H ≤ r ∨ ¬ o.live
  apart : ∀ b b' r base base' o o', b ≠ b' → ω b = some (r, base) → ω b' = some (r, base') → W.heap.get b = some o → W.heap.get b' = some o' → Apart o o' base base'
/-- from names to more names: what has no block is left alone -/
structure Gr (ω : Om) (W : AW) (ω' : Om) (W' : AW) : Prop where
  le : Om.Le ω ω'
  next : W.next ≤ W'.next
  keep : ∀ b, b < W.next → ω b = none → W'.heap.get b = W.heap.get b ∧ ω' b = none
theorem Gr.refl (ω : Om) (W : AW) : Gr ω W ω W := ⟨Om.Le.refl ω, Nat.le_refl _, fun b _ h => ⟨rfl, h⟩⟩
theorem Gr.trans {ω ω' ω'' : Om} {W W' W'' : AW} (h : Gr ω W ω' W') (k : Gr ω' W' ω'' W'') : Gr ω W ω'' W'' :=
  ⟨h.le.trans k.le, Nat.le_trans h.next k.next, fun b hb hn => by
    obtain ⟨h1, h2⟩ := h.keep b hb hn
    obtain ⟨h3, h4⟩ := k.keep b (Nat.lt_of_lt_of_le hb h.next) h2
    exact ⟨h3.trans h1, h4⟩⟩
theorem Gr.set {ω : Om} {W : AW} {b : Nat} {x : Nat × Nat} (hb : ω b = some x) (o : Option AO) : Gr ω W ω ⟨W.heap.set b o, W.next⟩ :=
  ⟨Om.Le.refl ω, Nat.le_refl _, fun b1 _ hn => ⟨by rw [PT.get_set, if_neg (fun e => by rw [e, hb] at hn; cases hn)], hn⟩⟩
/-- what is done by names a tree does -/
def Sim (P : Program) (H : Nat) (w0 : World) (ω : Om) {α β : Type} (m : M α) (s' : Sem β) (R : Om → α → β → Prop) : Prop :=
  ∀ W w, WR H w0 ω W w → ∀ a W', m W = some (a, W') → ∃ ω' a' w', Gr ω W ω' W' ∧ s'.run P w = .ok a' w' ∧ WR H w0 ω' W' w' ∧ R ω' a a'
section
variable {P : Program} {H : Nat} {w0 : World} {ω : Om} {α β γ δ : Type}
theorem Sim.ret {a : α} {b : β} {R : Om → α → β → Prop} (h : R ω a b) : Sim P H w0 ω (.ret a) (.pure b) R := fun W w hw a' W' hr => by
  simp only [M.ret, Option.some.injEq, Prod.mk.injEq] at hr
  obtain ⟨rfl, rfl⟩ := hr
  exact ⟨ω, b, w, Gr.refl ω _, rfl, hw, h⟩
theorem bd_some {m : M α} {f : α → M β} {W : AW} {x : β × AW} (h : M.bd m f W = some x) : ∃ a W1, m W = some (a, W1) ∧ f a W1 = some x := by
  unfold M.bd at h
  cases hm : m W with
  | none => rw [hm] at h; cases h
  | some y => obtain ⟨a, W1⟩ := y; rw [hm] at h; exact ⟨a, W1, rfl, h⟩
theorem Sim.bind {m : M α} {s' : Sem β} {f : α → M γ} {f' : β → Sem δ} {R : Om → α → β → Prop} {R' : Om → γ → δ → Prop} (h : Sim P H w0 ω m s' R)
    (hf : ∀ ω', Om.Le ω ω' → ∀ a b, R ω' a b → Sim P H w0 ω' (f a) (f' b) R') : Sim P H w0 ω (m.bd f) (s'.bind f') R' := fun W w hw c W2 hr => by
  obtain ⟨a, W1, h1, h2⟩ := bd_some hr
  obtain ⟨ω1, b, w1, l1, r1, hw1, hR⟩ := h W w hw a W1 h1
  obtain ⟨ω2, d, w2, l2, r2, hw2, hR2⟩ := hf ω1 l1.le a b hR W1 w1 hw1 c W2 h2
  refine ⟨ω2, d, w2, l1.trans l2, ?_, hw2, hR2⟩
  rw [Sem.run_bind' P s' f' w, r1]; exact r2
theorem Sim.bnd {m : M α} {s' : Sem β} {f : α → M γ} {f' : β → Sem δ} {R : Om → α → β → Prop} {R' : Om → γ → δ → Prop} (h : Sim P H w0 ω m s' R)
    (hf : ∀ ω', Om.Le ω ω' → ∀ a b, R ω' a b → Sim P H w0 ω' (f a) (f' b) R') : Sim P H w0 ω (m.bd f) (s' >>= f') R' := Sim.bind h hf
theorem Sim.weak {m : M α} {s' : Sem β} {R R' : Om → α → β → Prop} (h : Sim P H w0 ω m s' R) (hR : ∀ ω' a b, R ω' a b → R' ω' a b) : Sim P H w0 ω m s' R' := fun W w hw a W' hr =>
  let ⟨ω', a', w', h1, h2, h3, h4⟩ := h W w hw a W' hr; ⟨ω', a', w', h1, h2, h3, hR _ _ _ h4⟩
theorem Sim.no {s' : Sem β} {R : Om → α → β → Prop} : Sim P H w0 ω (.no : M α) s' R := fun W w hw a W' hr => by cases hr
/-- what is looked up by names -/
theorem Sim.opt {o : Option α} {f : α → M γ} {s' : Sem β} {R : Om → γ → β → Prop} (h : ∀ a, o = some a → Sim P H w0 ω (f a) s' R) : Sim P H w0 ω ((M.opt o).bd f) s' R := fun W w hw a W' hr => by
  obtain ⟨x, W1, h1, h2⟩ := bd_some hr
  unfold M.opt at h1
  cases o with
  | none => cases h1
  | some y => cases h1; exact h _ rfl W w hw a W' h2
theorem Sim.okL {b : Bool} {f : Unit → M γ} {s' : Sem β} {R : Om → γ → β → Prop} (h : b = true → Sim P H w0 ω (f ()) s' R) : Sim P H w0 ω ((M.ok b).bd f) s' R := fun W w hw a W' hr => by
  obtain ⟨x, W1, h1, h2⟩ := bd_some hr
  unfold M.ok at h1
  cases b with
  | false => cases h1
  | true => cases h1; exact h rfl W w hw a W' h2
/-- trees that step aside -/
theorem Sim.progR {m : M α} {k : Program → Sem β} {R : Om → α → β → Prop} (h : Sim P H w0 ω m (k P) R) : Sim P H w0 ω m (.program k) R := fun W w hw x W' hr => h W w hw x W' hr
theorem Sim.markR {m : M α} {x : Mark} {k : Sem β} {R : Om → α → β → Prop} (h : Sim P H w0 ω m k R) : Sim P H w0 ω m (.mark x k) R := fun W w hw x W' hr => h W w hw x W' hr
/-- a tree that runs to one thing, and leaves the world -/
theorem Sim.runR {m : M α} {s : Sem γ} {f : γ → Sem β} {x : γ} {R : Om → α → β → Prop} (hs : ∀ w, s.run P w = .ok x w) (h : Sim P H w0 ω m (f x) R) : Sim P H w0 ω m (s >>= f) R := fun W w hw a W' hr => by
  obtain ⟨ω', a', w', h1, h2, h3, h4⟩ := h W w hw a W' hr
  refine ⟨ω', a', w', h1, ?_, h3, h4⟩
  rw [show (s >>= f) = s.bind f from rfl, Sem.run_bind' P s f w, hs]; exact h2
theorem VR.one {v v' : Value} (h : VR ω v v') (h1 : one v = true) : (∀ cs, v' ≠ .agg cs) ∧ ∀ cs, v' ≠ .tuple cs := by
  cases h with
  | agg h => cases h1
  | tuple h => cases h1
  | _ => exact ⟨fun _ e => (by cases e), fun _ e => (by cases e)⟩
/-! ### the first operations -/
theorem Sim.load {a a' : Addr} {f : Value → M α} {k : Value → Sem β} {R : Om → α → β → Prop} (ha : VR ω (.pointer (some a)) (.pointer (some a'))) (h : ∀ v v', VR ω v v' → Sim P H w0 ω (f v) (k v') R) : Sim P H w0 ω ((rd a).bd f) (.load .plain a' k) R := fun W w hw x W' hr => by
  cases ha with
  | @ptr b r base o hb =>
    obtain ⟨v, W1, h1, h2⟩ := bd_some hr
    obtain ⟨ob, o', q1, q2, q3⟩ := hw.obj _ _ _ hb
    unfold rd at h1
    simp only [q1] at h1
    cases q3 with
    | @cells _ c c' kk e fz fr q3 qf qk qt qe =>
      simp only [nth_eq] at h1
      cases hv : c[o]? with
      | none => rw [hv] at h1; cases h1
      | some u =>
        rw [hv] at h1; cases h1
        obtain ⟨v', h4, h5⟩ := q3 o v hv
        obtain ⟨ω', a', w', g1, g2, g3, g4⟩ := h v v' h5 W w hw x W' h2
        refine ⟨ω', a', w', g1, ?_, g3, g4⟩
        simp only [Sem.run, World.cell?, q2, Option.isSome_none, Bool.false_eq_true, if_false]
        simpa [h4] using g2
    | _ => cases h1
theorem run_store_cell {a : Addr} {v : Value} {k : Sem α} {w : World} {c : Array Value} {e : TypeId} (h1 : ∀ cs, v ≠ .agg cs) (h2 : ∀ cs, v ≠ .tuple cs) (hs : a.spot = none) (hb : w.heap[a.block]? = some (.cells c e (0, 0))) (ho : a.off < c.size) :
    (Sem.store .plain a v k).run P w = k.run P (w.setCell a v) := by
  have hc : w.cell? a = some c[a.off] := by simp [World.cell?, hb, hs, ho]
  have hf : w.frozen? a = false := by simp [World.frozen?, hb]
  cases v <;> first | exact absurd rfl (h1 _) | exact absurd rfl (h2 _) | simp [Sem.run, hc, hf]
theorem heap_setCell {a : Addr} {v : Value} {w : World} {c : Array Value} {e : TypeId} {fr : Nat × Nat} (hs : a.spot = none) (hb : w.heap[a.block]? = some (.cells c e fr)) (k : Nat) : (w.setCell a v).heap[k]? = if k = a.block then some (.cells (c.setIfInBounds a.off v) e fr) else w.heap[k]? := by
  simp only [World.setCell, Array.getElem?_modify]
  by_cases h : k = a.block
  · subst h; simp [hb, hs]
  · simp [h, Ne.symm h]
/-- one named object is another one, and what it stands for: the others stay -/
theorem WR.upd {W : AW} {w : World} (hw : WR H w0 ω W w) {b r base : Nat} (hb : ω b = some (r, base)) {o1 : AO} {o1' : Obj} {w' : World} (hg : ∃ o, W.heap.get b = some o ∧ (o1.live → o.live) ∧ ∀ b1 o2 base1, b1 ≠ b → ω b1 = some (r, base1) → W.heap.get b1 = some o2 → Apart o o2 base base1 → Apart o1 o2 base base1 ∧ Apart o2 o1 base1 base ∧ ∀ o2', w.heap[r]? = some o2' → OR ω (ω.room b1) base1 o2 o2' → OR ω (ω.room b1) base1 o2 o1')
    (hH : H ≤ r) (hO : OR ω (ω.room b) base o1 o1') (hh : ∀ k, w'.heap[k]? = if k = r then some o1' else w.heap[k]?) (hs : w'.heap.size = w.heap.size) (h1 : w'.os = w.os) (h2 : w'.tape = w.tape) (h3 : w'.output = w.output) : WR H w0 ω ⟨W.heap.set b (some o1), W.next⟩ w' := by
  obtain ⟨o, hg, hlive, hoth⟩ := hg
  have hget : ∀ b1 o2, (W.heap.set b (some o1)).get b1 = some o2 → (b1 = b ∧ o2 = o1) ∨ (b1 ≠ b ∧ W.heap.get b1 = some o2) := fun b1 o2 h => by
    rw [PT.get_set] at h
    by_cases hbb : b1 = b
    · rw [if_pos hbb] at h; cases h; exact .inl ⟨hbb, rfl⟩
    · rw [if_neg hbb] at h; exact .inr ⟨hbb, h⟩
  refine ⟨⟨h1.trans hw.below.os, h2.trans hw.below.tape, h3.trans hw.below.output, by rw [hs]; exact hw.below.size, fun k hk => ?_⟩, by rw [hs]; exact hw.size, fun b1 r1 base1 hb1 => ?_, hw.dom, fun b1 r1 base1 o2 hb1 hg1 => ?_, fun b1 b2 r1 base1 base2 oa ob hne hb1 hb2 hg1 hg2 => ?_⟩
  · rw [hh k, if_neg (by omega)]; exact hw.below.block k hk
  · by_cases hbb : b1 = b
    · subst hbb
      rw [hb] at hb1; cases hb1
      exact ⟨o1, o1', by rw [PT.get_set, if_pos rfl], by rw [hh, if_pos rfl], hO⟩
    · obtain ⟨o2, o2', p1, p2, p3⟩ := hw.obj _ _ _ hb1
      refine ⟨o2, ?_⟩
      by_cases hr : r1 = r
      · subst hr
        exact ⟨o1', by rw [PT.get_set, if_neg hbb]; exact p1, by rw [hh, if_pos rfl], ((hoth b1 o2 base1 hbb hb1 p1 (hw.apart b b1 _ _ _ _ _ (Ne.symm hbb) hb hb1 hg p1)).2.2) _ p2 p3⟩
      · exact ⟨o2', by rw [PT.get_set, if_neg hbb]; exact p1, by rw [hh, if_neg hr]; exact p2, p3⟩
  · rcases hget b1 o2 hg1 with ⟨rfl, rfl⟩ | ⟨hbb, hg1⟩
    · rw [hb] at hb1; cases hb1; exact .inl hH
    · exact hw.own b1 r1 base1 o2 hb1 hg1
  · rcases hget b1 oa hg1 with ⟨rfl, rfl⟩ | ⟨hbb1, hn1⟩
    · rw [hb] at hb1; cases hb1
      rcases hget b2 ob hg2 with ⟨rfl, rfl⟩ | ⟨hbb2, hn2⟩
      · exact absurd rfl hne
      · exact (hoth b2 ob base2 hbb2 hb2 hn2 (hw.apart b1 b2 _ _ _ _ _ hne hb hb2 hg hn2)).1
    · rcases hget b2 ob hg2 with ⟨rfl, rfl⟩ | ⟨hbb2, hn2⟩
      · rw [hb] at hb2; cases hb2
        exact (hoth b1 oa base1 hbb1 hb1 hn1 (hw.apart b2 b1 _ _ _ _ _ (Ne.symm hne) hb hb1 hg hn1)).2.1
      · exact hw.apart b1 b2 r1 base1 base2 oa ob hne hb1 hb2 hn1 hn2
theorem Apart.swap {o o' : AO} {base base' : Nat} (h : Apart o o' base base') (h2 : o'.live → o.live → False) (h3 : ∀ c e fz c' e' fz', o = .cells c e fz → o' = .cells c' e' fz' → fz' ≤ c'.length → base + c.length ≤ base' + c'.length) : Apart o' o base' base := by
  unfold Apart at h
  split at h
  · rename_i c e fz c' e' fz'
    obtain ⟨h4, h5, h6⟩ := h
    exact ⟨fun i j hi hj hij => (h4 j i hj hi hij.symm).symm, h3 _ _ _ _ _ _ rfl rfl, fun hh => h6 hh.symm⟩
  · exact h.elim
theorem Sim.store {a a' : Addr} {v v' : Value} {f : Unit → M α} {k : Sem β} {R : Om → α → β → Prop} (ha : VR ω (.pointer (some a)) (.pointer (some a'))) (hv : VR ω v v') (h : Sim P H w0 ω (f ()) k R) : Sim P H w0 ω ((wr a v).bd f) (.store .plain a' v' k) R := fun W w hw x W' hr => by
  cases ha with
  | @ptr b r base o hb =>
    obtain ⟨v1, W1, h1, h2⟩ := bd_some hr
    obtain ⟨ob, o', q1, q2, q3⟩ := hw.obj _ _ _ hb
    unfold wr at h1
    simp only [q1] at h1
    cases q3 with
    | @cells _ c c' kk e fz fr q3 qf qk qt qe =>
      simp only [len_eq, put_eq] at h1
      cases hcd : (Nat.ble fz o && Nat.blt o c.length && one v) with
      | false => rw [hcd] at h1; cases h1
      | true =>
        rw [hcd] at h1
        cases h1
        simp only [Bool.and_eq_true, Nat.ble_eq, Nat.blt_eq] at hcd
        obtain ⟨⟨c1, c2⟩, c3⟩ := hcd
        have hfr : fr = (0, 0) := qf (by omega)
        subst hfr
        have hlive : (AO.cells c kk fz).live := show fz ≤ c.length by omega
        have hH : H ≤ r := (hw.own b r base _ hb q1).resolve_right fun hn => hn hlive
        have hoc' : base + o < c'.length := by
          obtain ⟨v1, h3, _⟩ := q3 o (c[o]) (by simp [c2])
          exact (List.getElem?_eq_some_iff.1 h3).1
        have hh := fun k => heap_setCell (a := ⟨r, base + o, none⟩) (v := v') (w := w) (c := c'.toArray) (e := e) (fr := (0, 0)) rfl q2 k
        have hWR : WR H w0 ω ⟨W.heap.set b (some (.cells (c.set o v) kk fz)), W.next⟩ (w.setCell ⟨r, base + o, none⟩ v') := by
          refine hw.upd hb (o1' := .cells (c'.set (base + o) v').toArray e (0, 0)) ⟨_, q1, ?_, fun b1 o2 base1 hbb hb1 hg1 hap => ?_⟩ hH ?_ ?_ (by simp [World.setCell]) rfl rfl rfl
          · intro _; exact hlive
          · have hap2 := hw.apart b1 b _ _ _ _ _ hbb hb1 hb hg1 q1
            cases o2 with
            | cells d2 e2 fz2 =>
              obtain ⟨g1, g2, g3⟩ := hap
              obtain ⟨k1, k2, k3⟩ := hap2
              refine ⟨⟨fun i j hi hj hij => g1 i j (by simpa using hi) hj hij, fun hl => by simpa using g2 (by simpa using hl), by simpa using g3⟩, ⟨fun i j hi hj hij => k1 i j hi (by simpa using hj) hij, fun hl => by simpa using k2 hl, by simpa using k3⟩, fun o2' hr2 hO2 => ?_⟩
              rw [q2] at hr2; cases hr2
              cases hO2 with
              | @cells _ d d' _ _ _ _ p3 pf pk pt pe =>
                refine .cells (fun i u hu => ?_) pf pk (by simpa using pt) (by simpa using pe)
                obtain ⟨u', h3, h4⟩ := p3 i u hu
                refine ⟨u', ?_, h4⟩
                rw [List.getElem?_set]
                by_cases hi : base + o = base1 + i
                · exact absurd (g1 o i c2 (by simpa using (List.getElem?_eq_some_iff.1 hu).1) hi).1 (by omega)
                · rw [if_neg hi]; exact h3
            | _ => exact hap.elim
          · refine .cells (fun i u hu => ?_) (fun _ => rfl) qk (by simpa using qt) (by simpa using qe)
            rw [List.getElem?_set] at hu
            by_cases hi : o = i
            · subst hi
              rw [if_pos rfl] at hu
              split at hu
              · cases hu; exact ⟨v', by rw [List.getElem?_set, if_pos rfl, if_pos hoc'], hv⟩
              · rename_i hn; exact absurd c2 hn
            · rw [if_neg hi] at hu
              obtain ⟨u', h3, h4⟩ := q3 i u hu
              exact ⟨u', by rw [List.getElem?_set, if_neg (by omega)]; exact h3, h4⟩
          · intro k; rw [hh k]; simp
        obtain ⟨ω', y, w', g1, g2, g3, g4⟩ := h _ _ hWR x W' h2
        have hv2 := hv.one c3
        exact ⟨ω', y, w', (Gr.set hb _).trans g1, by rw [run_store_cell hv2.1 hv2.2 rfl q2 (by simpa using hoc')]; exact g2, g3, g4⟩
    | _ => cases h1
end
end Go.Cev
namespace Go.Cev
open Go.RowKit
section
variable {P : Program} {H : Nat} {w0 : World} {ω : Om} {α β γ δ : Type}
theorem OR.notCells {rm : (Nat × Nat) × Nat} {base : Nat} {o : AO} {o' : Obj} (h : OR ω rm base o o') (hn : o.obj = true) : base = 0 ∧ (∀ c e f, o' ≠ .cells c e f) ∧ o.live := by
  cases h with
  | cells h => cases hn
  | _ => exact ⟨rfl, fun _ _ _ e => (by cases e), trivial⟩
theorem OR.any {rm : (Nat × Nat) × Nat} {base : Nat} {o : AO} {o' : Obj} (h : OR ω rm base o o') (hn : o.obj = true) (rm' : (Nat × Nat) × Nat) : OR ω rm' 0 o o' := by
  cases h with
  | cells h => cases hn
  | map c h => exact .map c h
  | iter0 => exact .iter0 ..
  | iter h => exact .iter h ..
  | str => exact .str ..
  | loop _ _ _ h _ _ _ hd => exact .loop _ _ _ h _ _ _ hd
  | def0 => exact .def0
  | defs h => exact .defs h
theorem WR.lt {W : AW} {w : World} (hw : WR H w0 ω W w) {b r base : Nat} (hb : ω b = some (r, base)) : r < w.heap.size := by
  obtain ⟨o1, o2, h2, h3, _⟩ := hw.obj b r base hb
  exact (Array.getElem?_eq_some_iff.1 h3).1
/-- the world grows: blocks behind the others, that no name stands for -/
theorem WR.grow {W : AW} {w w' : World} (hw : WR H w0 ω W w) (hb : Below w.heap.size w w') : WR H w0 ω W w' := by
  have hs := hb.size
  refine ⟨hw.below.trans (hb.mono hw.size), Nat.le_trans hw.size hs, fun b r base h => ?_, hw.dom, hw.own, hw.apart⟩
  obtain ⟨o, o', h1, h2, h3⟩ := hw.obj b r base h
  exact ⟨o, o', h1, by rw [hb.block r (hw.lt h)]; exact h2, h3⟩
/-- names, and one more -/
def Om.add (ω : Om) (n r base : Nat) (rm : (Nat × Nat) × Nat) : Om := ⟨fun b => if b = n then some (r, base) else ω b, fun b => if b = n then rm else ω.room b⟩
theorem Om.add_at (ω : Om) (n r base : Nat) (rm : (Nat × Nat) × Nat) : (ω.add n r base rm) n = some (r, base) := if_pos rfl
theorem Om.add_room (ω : Om) (n r base : Nat) (rm : (Nat × Nat) × Nat) : (ω.add n r base rm).room n = rm := if_pos rfl
theorem Om.add_room' (ω : Om) {n b r base : Nat} {rm : (Nat × Nat) × Nat} (h : b ≠ n) : (ω.add n r base rm).room b = ω.room b := if_neg h
theorem Om.add_le (ω : Om) {n r base : Nat} {rm : (Nat × Nat) × Nat} (h : ω n = none) : Om.Le ω (ω.add n r base rm) :=
  ⟨fun b x hx => by show (if b = n then _ else _) = _; rw [if_neg (fun e => by rw [e, h] at hx; cases hx)]; exact hx, fun b x hx => by show (if b = n then _ else _) = _; rw [if_neg (fun e => by rw [e, h] at hx; cases hx)]⟩
theorem WR.none {W : AW} {w : World} (hw : WR H w0 ω W w) {b : Nat} (h : W.next ≤ b) : ω b = none := by
  cases hb : ω b with
  | none => rfl
  | some x => have := hw.dom b x hb; omega
/-- a name for a block that has none -/
theorem WR.over {W : AW} {w : World} (hw : WR H w0 ω W w) {r base : Nat} {rm : (Nat × Nat) × Nat} {o : AO} {o' : Obj} (hr : w.heap[r]? = some o') (hO : OR ω rm base o o') (hH : H ≤ r ∨ ¬ o.live) (hf : ∀ b1 base1 o1, ω b1 = some (r, base1) → W.heap.get b1 = some o1 → Apart o o1 base base1 ∧ Apart o1 o base1 base) :
    WR H w0 (ω.add W.next r base rm) ⟨W.heap.set W.next (some o), W.next + 1⟩ w ∧ Gr ω W (ω.add W.next r base rm) ⟨W.heap.set W.next (some o), W.next + 1⟩ := by
  have hle : Om.Le ω (ω.add W.next r base rm) := ω.add_le (hw.none (Nat.le_refl _))
  refine ⟨?_, hle, Nat.le_succ _, fun b hb hn => ⟨by show (W.heap.set W.next (some o)).get b = _; rw [PT.get_set, if_neg (by omega)], by show (if b = W.next then _ else _) = _; rw [if_neg (by omega)]; exact hn⟩⟩
  have hget : ∀ b o1, (W.heap.set W.next (some o)).get b = some o1 → (b = W.next ∧ o1 = o) ∨ (b ≠ W.next ∧ W.heap.get b = some o1) := fun b o1 hb => by
    rw [PT.get_set] at hb
    by_cases hbb : b = W.next
    · rw [if_pos hbb] at hb; cases hb; exact .inl ⟨hbb, rfl⟩
    · rw [if_neg hbb] at hb; exact .inr ⟨hbb, hb⟩
  have hω1 : ∀ b r1 base1, (ω.add W.next r base rm) b = some (r1, base1) → (b = W.next ∧ r1 = r ∧ base1 = base) ∨ (b ≠ W.next ∧ ω b = some (r1, base1)) := fun b r1 base1 hb => by
    have hb : (if b = W.next then some (r, base) else ω b) = some (r1, base1) := hb
    by_cases hbb : b = W.next
    · rw [if_pos hbb] at hb; cases hb; exact .inl ⟨hbb, rfl, rfl⟩
    · rw [if_neg hbb] at hb; exact .inr ⟨hbb, hb⟩
  refine ⟨hw.below, hw.size, fun b r1 base1 hb => ?_, fun b y hy => ?_, fun b r1 base1 o1 hb hg => ?_, fun b b' r1 base1 base1' o1 o2 hne hb hb' hg hg' => ?_⟩
  · rcases hω1 b r1 base1 hb with ⟨rfl, rfl, rfl⟩ | ⟨hbb, hb⟩
    · exact ⟨o, o', by rw [PT.get_set, if_pos rfl], hr, by rw [Om.add_room]; exact hO.mono hle⟩
    · obtain ⟨o1, o2, h1, h2, h3⟩ := hw.obj b r1 base1 hb
      exact ⟨o1, o2, by rw [PT.get_set, if_neg hbb]; exact h1, h2, by rw [Om.add_room' _ hbb]; exact h3.mono hle⟩
  · obtain ⟨r1, base1⟩ := y
    rcases hω1 b r1 base1 hy with ⟨rfl, _, _⟩ | ⟨hbb, hb⟩
    · exact Nat.lt_succ_self _
    · exact Nat.lt_succ_of_lt (hw.dom b _ hb)
  · rcases hget b o1 hg with ⟨rfl, rfl⟩ | ⟨hbb, hg⟩
    · rcases hω1 _ r1 base1 hb with ⟨_, rfl, _⟩ | ⟨hn, _⟩
      · exact hH
      · exact absurd rfl hn
    · rcases hω1 _ r1 base1 hb with ⟨hn, _⟩ | ⟨_, hb⟩
      · exact absurd hn hbb
      · exact hw.own b r1 base1 o1 hb hg
  · rcases hω1 _ _ _ hb with ⟨e1, e2, e3⟩ | ⟨n1, hb1⟩
    · rcases hω1 _ _ _ hb' with ⟨f1, _, _⟩ | ⟨_, hb2⟩
      · exact absurd (e1.trans f1.symm) hne
      · rcases hget b o1 hg with ⟨_, rfl⟩ | ⟨n, _⟩
        · rcases hget b' o2 hg' with ⟨e, _⟩ | ⟨_, hg'⟩
          · exact absurd (e1.trans e.symm) hne
          · rw [e2] at hb2; rw [e3]; exact (hf b' base1' o2 hb2 hg').1
        · exact absurd e1 n
    · rcases hω1 _ _ _ hb' with ⟨f1, f2, f3⟩ | ⟨n2, hb2⟩
      · rcases hget b' o2 hg' with ⟨_, rfl⟩ | ⟨n, _⟩
        · rcases hget b o1 hg with ⟨e, _⟩ | ⟨_, hg⟩
          · exact absurd e n1
          · rw [f2] at hb1; rw [f3]; exact (hf b base1 o1 hb1 hg).2
        · exact absurd f1 n
      · rcases hget b o1 hg with ⟨e, _⟩ | ⟨_, hg⟩
        · exact absurd e n1
        · rcases hget b' o2 hg' with ⟨e, _⟩ | ⟨_, hg'⟩
          · exact absurd e n2
          · exact hw.apart b b' r1 base1 base1' o1 o2 hne hb1 hb2 hg hg'
theorem WR.name {W : AW} {w : World} (hw : WR H w0 ω W w) {r base : Nat} {rm : (Nat × Nat) × Nat} {o : AO} {o' : Obj} (hr : w.heap[r]? = some o') (hO : OR ω rm base o o') (hH : H ≤ r ∨ ¬ o.live) (hf : ∀ b base', ω b ≠ some (r, base')) :
    WR H w0 (ω.add W.next r base rm) ⟨W.heap.set W.next (some o), W.next + 1⟩ w ∧ Gr ω W (ω.add W.next r base rm) ⟨W.heap.set W.next (some o), W.next + 1⟩ := hw.over hr hO hH fun b1 base1 o1 h _ => absurd h (hf _ _)
theorem Sim.new {rm : (Nat × Nat) × Nat} {o : AO} {o' : Obj} {f : Nat → M α} {k : Nat → Sem β} {R : Om → α → β → Prop} (ho : OR ω rm 0 o o') (h : ∀ ω', Om.Le ω ω' → ∀ r r', ω' r = some (r', 0) → ω'.room r = rm → Sim P H w0 ω' (f r) (k r') R) : Sim P H w0 ω ((nw o).bd f) (.new o' k) R := fun W w hw x W' hr => by
  obtain ⟨r, W1, h1, h2⟩ := bd_some hr
  cases h1
  have hg : Below w.heap.size w { w with heap := w.heap.push o' } := ⟨rfl, rfl, rfl, by simp, fun k hk => by show (w.heap.push o')[k]? = _; rw [Array.getElem?_push, if_neg (by omega)]⟩
  obtain ⟨hWR, hle⟩ := (hw.grow hg).name (r := w.heap.size) (base := 0) (o := o) (o' := o') (by simp) ho (.inl hw.size) fun b base' hb => by have := hw.lt hb; omega
  obtain ⟨ω', y, w', g1, g2, g3, g4⟩ := h _ hle.le W.next w.heap.size (Om.add_at ..) (Om.add_room ..) _ _ hWR x W' h2
  exact ⟨ω', y, w', hle.trans g1, g2, g3, g4⟩
theorem Sim.getObj {r r' : Nat} {f : AO → M α} {k : Obj → Sem β} {R : Om → α → β → Prop} (hr0 : ω r = some (r', 0)) (h : ∀ o o', (∀ rm, OR ω rm 0 o o') → Sim P H w0 ω (f o) (k o') R) : Sim P H w0 ω ((gt r).bd f) (.getObj r' k) R := fun W w hw x W' hr => by
  obtain ⟨o, W1, h1, h2⟩ := bd_some hr
  obtain ⟨o1, o', q1, q2, q3⟩ := hw.obj _ _ _ hr0
  unfold gt at h1
  simp only [q1] at h1
  cases hob : o1.obj with
  | false => rw [hob] at h1; cases h1
  | true =>
    rw [hob] at h1; cases h1
    have h4 := (q3.notCells hob).2.1
    obtain ⟨ω', y, w', g1, g2, g3, g4⟩ := h _ o' (fun rm => q3.any hob rm) W w hw x W' h2
    refine ⟨ω', y, w', g1, ?_, g3, g4⟩
    simp only [Sem.run, q2]
    cases o' with
    | cells c e f => exact absurd rfl (h4 c e f)
    | _ => exact g2
theorem Sim.setObj {r r' : Nat} {o : AO} {o' : Obj} {f : Unit → M α} {k : Sem β} {R : Om → α → β → Prop} (hr0 : ω r = some (r', 0)) (ho : ∀ rm, OR ω rm 0 o o') (h : Sim P H w0 ω (f ()) k R) : Sim P H w0 ω ((st r o).bd f) (.setObj r' o' k) R := fun W w hw x W' hr => by
  obtain ⟨u, W1, h1, h2⟩ := bd_some hr
  obtain ⟨o1, o1', q1, q2, q3⟩ := hw.obj _ _ _ hr0
  unfold st at h1
  simp only [q1] at h1
  cases hob : (o1.obj && o.obj) with
  | false => rw [hob] at h1; cases h1
  | true =>
    rw [hob] at h1; cases h1
    simp only [Bool.and_eq_true] at hob
    obtain ⟨_, h4, h5⟩ := q3.notCells hob.1
    have hH : H ≤ r' := (hw.own r r' 0 _ hr0 q1).resolve_right fun hn => hn h5
    have hlt := hw.lt hr0
    have hset : ∀ k, (w.heap.setIfInBounds r' o')[k]? = if k = r' then some o' else w.heap[k]? := fun k => by
      rw [Array.getElem?_setIfInBounds]
      by_cases hk : k = r'
      · subst hk; simp [hlt]
      · rw [if_neg (Ne.symm hk), if_neg hk]
    have hWR : WR H w0 ω ⟨W.heap.set r (some o), W.next⟩ { w with heap := w.heap.setIfInBounds r' o' } := by
      refine hw.upd hr0 (o1' := o') ⟨_, q1, fun _ => h5, fun b1 o2 base1 hbb hb1 hg1 hap => ?_⟩ hH (ho _) hset (by simp) rfl rfl rfl
      cases o1 with
      | cells => cases hob.1
      | _ => exact hap.elim
    obtain ⟨ω', y, w', g1, g2, g3, g4⟩ := h _ _ hWR x W' h2
    refine ⟨ω', y, w', (Gr.set hr0 _).trans g1, ?_, g3, g4⟩
    simp only [Sem.run, q2]
    cases o1' with
    | cells c e f => exact absurd rfl (h4 c e f)
    | _ => exact g2
/-- a draw -/
theorem WR.drew {W : AW} {w : World} (hw : WR H w0 ω W w) (n : Nat) : WR H w0 ω W { w with drawn := n } := ⟨⟨hw.below.os, hw.below.tape, hw.below.output, hw.below.size, hw.below.block⟩, hw.size, hw.obj, hw.dom, hw.own, hw.apart⟩
theorem Sim.choose {q : Question} {m : M α} {k : Nat → Sem β} {R : Om → α → β → Prop} (h : ∀ n, (∃ t, n = q.cut t) ∨ n = 0 ∧ q.forced = true → Sim P H w0 ω m (k n) R) : Sim P H w0 ω m (.choose q k) R := fun W w hw x W' hr => by
  cases hq : q.forced with
  | true =>
    obtain ⟨ω', y, w', g1, g2, g3, g4⟩ := h 0 (.inr ⟨rfl, hq⟩) W w hw x W' hr
    exact ⟨ω', y, w', g1, by simp only [Sem.run, hq, if_true]; exact g2, g3, g4⟩
  | false =>
    obtain ⟨ω', y, w', g1, g2, g3, g4⟩ := h (q.cut (w.tape w.drawn q)) (.inl ⟨_, rfl⟩) W _ (hw.drew _) x W' hr
    exact ⟨ω', y, w', g1, by simp only [Sem.run, hq, Bool.false_eq_true, if_false]; exact g2, g3, g4⟩
theorem Sim.forced {q : Question} {m : M α} {k : Nat → Sem β} {R : Om → α → β → Prop} (hq : q.forced = true) (h : Sim P H w0 ω m (k 0) R) : Sim P H w0 ω m (.choose q k) R := fun W w hw x W' hr => by
  obtain ⟨ω', y, w', g1, g2, g3, g4⟩ := h W w hw x W' hr
  exact ⟨ω', y, w', g1, by simp only [Sem.run, hq, if_true]; exact g2, g3, g4⟩
end
end Go.Cev
