/- Steps of a function body on data, and contracts of the functions of the seat, walked. -/
import Derived.Test.YtgnhhjojiipmgaaGreatDoorKOst
set_option linter.unusedSimpArgs false
set_option linter.unusedVariables false
set_option linter.unusedSectionVars false
namespace Go.Kin
open Go.RowKit
/-- a state, written out -/
structure Stt where
  N : Nat
  df : List Deferred
  S : List (Nat × SV)
  L : List (Nat × TypeId × List SV)
  O : List (Nat × Ow)
  fz : List (Act × List (Nat × SV))
  pin : List (Nat × Obj)
def Stt.sy (st : Stt) : Sy := ⟨st.N, st.df, fun t => klook t st.S, fun k => klook k st.L, fun k => klook k st.O, st.fz, st.pin⟩
def delK {α : Type} (t : Nat) : List (Nat × α) → List (Nat × α)
  | [] => []
  | (k, x) :: r => if t = k then delK t r else (k, x) :: delK t r
def delKs {α : Type} : List Nat → List (Nat × α) → List (Nat × α)
  | [], l => l
  | t :: r, l => delKs r (delK t l)
def mapL (dl dk : List Nat) : List (Nat × TypeId × List SV) → List (Nat × TypeId × List SV)
  | [] => []
  | (k, T, cs) :: r => (k, T, killL dl dk cs) :: mapL dl dk r
def keysOf {α : Type} : List (Nat × α) → List Nat
  | [] => []
  | (k, _) :: r => k :: keysOf r
def killS (r : Res) (l : List (Nat × SV)) : List (Nat × SV) := match r.dl, r.dk with | [], [] => l | _, _ => mapS r.dl r.dk l
def killLs (r : Res) (l : List (Nat × TypeId × List SV)) : List (Nat × TypeId × List SV) := match r.dl, r.dk with | [], [] => l | _, _ => mapL r.dl r.dk l
def applyL (d : Option Tmp) (r : Res) (st : Stt) : Stt where
  N := st.N
  df := st.df
  S := match d with | some d => (d, r.sv) :: killS r st.S | none => killS r st.S
  L := r.nl ++ delKs (keysOf r.nl) (delKs r.dk (killLs r st.L))
  O := r.no ++ delKs (keysOf r.no) (delKs r.dl st.O)
  fz := killF r.dl r.dk st.fz
  pin := st.pin
theorem look_delK {α : Type} (t k : Nat) : ∀ (l : List (Nat × α)), klook k (delK t l) = if k = t then none else klook k l
  | [] => by simp [delK, klook]
  | (k', x) :: r => by
    simp only [delK]
    by_cases h : t = k'
    · rw [if_pos h, look_delK t k r]
      by_cases hk : k = t
      · simp [hk]
      · have : k ≠ k' := fun e => hk (e.trans h.symm)
        simp [hk, klook, this]
    · rw [if_neg h]
      simp only [klook]
      by_cases hk : k = k'
      · have : k ≠ t := fun e => h (by rw [← e, hk])
        simp only [hk, if_true]; simp [show ¬ k' = t from fun e => h e.symm]
      · rw [if_neg hk, look_delK t k r]; simp [hk]
theorem look_delKs {α : Type} (k : Nat) : ∀ (ts : List Nat) (l : List (Nat × α)), klook k (delKs ts l) = if ts.contains k then none else klook k l
  | [], l => by simp [delKs]
  | t :: r, l => by
    simp only [delKs]
    rw [look_delKs k r, look_delK]
    by_cases h : k = t
    · subst h; simp
    · by_cases h2 : r.contains k = true
      · simp [h]
      · simp [h]
theorem look_append {α : Type} (k : Nat) : ∀ (l l' : List (Nat × α)), klook k (l ++ l') = match klook k l with | some x => some x | none => klook k l'
  | [], l' => by simp [klook]
  | (k', x) :: r, l' => by
    simp only [List.cons_append, klook]
    by_cases h : k = k'
    · simp [h]
    · rw [if_neg h, if_neg h, look_append k r l']
theorem look_keys {α : Type} (k : Nat) : ∀ (l : List (Nat × α)), (keysOf l).contains k = (klook k l).isSome
  | [] => by simp [keysOf, klook]
  | (k', x) :: r => by
    simp only [keysOf, klook, List.contains_cons, look_keys k r]
    by_cases h : k = k' <;> simp [h]
theorem look_mapL (dl dk : List Nat) (k : Nat) : ∀ (l : List (Nat × TypeId × List SV)), klook k (mapL dl dk l) = killE dl dk (klook k l)
  | [] => by simp [mapL, klook, killE]
  | (k', T, cs) :: r => by
    simp only [mapL, klook]
    by_cases h : k = k'
    · simp [h, killE]
    · rw [if_neg h, if_neg h, look_mapL dl dk k r]
theorem look_killS (r : Res) (k : Nat) (l : List (Nat × SV)) : klook k (killS r l) = (klook k l).map (kill r.dl r.dk) := by
  unfold killS
  split
  · rename_i h1 h2; rw [h1, h2]; cases klook k l <;> simp [kill_nil]
  · exact look_mapS _ _ _ _
theorem look_killLs (r : Res) (k : Nat) (l : List (Nat × TypeId × List SV)) : klook k (killLs r l) = killE r.dl r.dk (klook k l) := by
  unfold killLs
  split
  · rename_i h1 h2; rw [h1, h2, killE_nil]
  · exact look_mapL _ _ _ _
theorem applyL_sy (d : Option Tmp) (r : Res) (st : Stt) : (applyL d r st).sy = apply d r st.sy := by
  unfold Stt.sy applyL apply
  congr 1
  · funext t
    cases d with
    | none => simp only [look_killS]; cases klook t st.S <;> simp
    | some d =>
      simp only [klook, look_killS, Option.some.injEq]
      by_cases h : t = d
      · simp [h]
      · simp [h, Ne.symm h]; cases klook t st.S <;> simp
  · funext k
    simp only [look_append, look_delKs, look_killLs, look_keys]
    cases klook k r.nl with
    | some x => rfl
    | none => simp
  · funext k
    simp only [look_append, look_delKs, look_keys]
    cases klook k r.no with
    | some x => rfl
    | none => simp
/-! ### the machine of the followed values -/
def dstOk (o : Oper) (N : Nat) : Bool := match o.dst with | none => true | some t => decide (t < N)
theorem dstOk_spec {o : Oper} {N : Nat} (h : dstOk o N = true) : ∀ t, o.dst = some t → t < N := fun t e => by
  unfold dstOk at h; rw [e] at h; simpa using h
def fieldOf (te : TE) (t : TypeId) (f : Nat) : Option (Field × TyI) :=
  match klook t te with
  | some i => match i.u with
    | .struct fs => match fs[f]? with
      | some fd => match klook fd.type te with
        | some j => if j.size = 0 then none else some (fd, j)
        | none => none
      | none => none
    | _ => none
  | none => none
def sliceElem (te : TE) (t : TypeId) : Option (TypeId × TyI) :=
  match klook t te with
  | some i => match i.u with
    | .slice e => match klook e te with | some j => some (e, j) | none => none
    | _ => none
  | none => none
def isStr (te : TE) (t : TypeId) : Bool := match klook t te with | some i => (match i.u with | .string => true | _ => false) | none => false
def isSl (te : TE) (t : TypeId) : Bool := match klook t te with | some i => (match i.u with | .slice _ => true | _ => false) | none => false
def isBoolT (te : TE) (t : TypeId) : Bool := match klook t te with | some i => (match i.u with | .bool => true | _ => false) | none => false
def nilStep (te : TE) (t : TypeId) (op : BinOp) (sv : SV) (y : Operand) : Option (Res × Prop) := match y with
  | .const nv => match klook t te with
    | some i => match nilEq i.u sv nv with
      | some b => (match op with | .eql => some (⟨.d (.v (.bool b)), [], [], [], []⟩, True) | .neq => some (⟨.d (.v (.bool (!b))), [], [], [], []⟩, True) | _ => none)
      | none => none
    | none => none
  | _ => none
theorem nilStep_ok {P : Program} {C : Ctx} {te : TE} (hte : TEok P te) {s : Sy} {o : Oper} {op : BinOp} {t t' : TypeId} {x y : Operand} {sv : SV} {r : Res} {ob : Prop} (hop : o.op = .binOp op t x y t') (ht : ∀ t, o.dst = some t → t < s.N) (hx : evalO s.S x = some sv) (h : nilStep te t op sv y = some (r, ob)) : Ok1 P C o s r := by
  unfold nilStep at h
  split at h
  · split at h
    · rename_i i hi
      split at h
      · rename_i b hb
        split at h
        · cases h; simpa using ok_nilEq (C := C) (s := s) (.inl rfl) hop (hte _ _ hi) ht hx hb
        · cases h; simpa using ok_nilEq (C := C) (s := s) (.inr rfl) hop (hte _ _ hi) ht hx hb
        · cases h
      · cases h
    · cases h
  · cases h
def one1 (i : TyI) : Bool := aggD i.u || decide (i.size = 1)
theorem lentK_lt {d : Nat} (h : d < 900) : lentK d = false := by unfold lentK; simp; omega
/-- the operation, as far as it is known without more: what it makes, and what it asks -/
def stepB (te : TE) (s : Stt) (o : Oper) : Option (Res × Prop) :=
  if dstOk o s.N = true then
    match o.op with
    | .move x => match evalO (fun t => klook t s.S) x with | some sv => some (⟨sv, [], [], [], []⟩, True) | none => none
    | .assign x => match evalO (fun t => klook t s.S) x with | some sv => some (⟨sv, [], [], [], []⟩, True) | none => none
    | .extract x i => match evalO (fun t => klook t s.S) x with
      | some (.d (.tup ds)) => match ds[i]? with | some d => some (⟨.d d, [], [], [], []⟩, True) | none => none
      | _ => none
    | .pick c x y => match evalO (fun t => klook t s.S) c, evalO (fun t => klook t s.S) x, evalO (fun t => klook t s.S) y with
      | some (.d (.v (.bool b))), some sa, some sb => some (⟨pickSV b sa sb, [], [], [], []⟩, True)
      | _, _, _ => none
    | .binOp op t x y _ => match evalO (fun t => klook t s.S) x, evalO (fun t => klook t s.S) y with
      | some (.d (.v (.bool b))), some (.d (.v (.bool c))) => if isBoolT te t = true then (match op with | .eql => some (⟨.d (.v (.bool (b == c))), [], [], [], []⟩, True) | .neq => some (⟨.d (.v (.bool (b != c))), [], [], [], []⟩, True) | _ => none) else none
      | some (.d (.ag xs)), some (.d (.ag ys)) => match klook t te with
        | some i => if aggD i.u = true ∧ i.kt = true then (match op with
          | .eql => match eqV te 8 t xs ys with | some r => some (⟨.d (.v (.bool r)), [], [], [], []⟩, True) | none => none
          | .neq => match eqV te 8 t xs ys with | some r => some (⟨.d (.v (.bool (!r))), [], [], [], []⟩, True) | none => none
          | _ => none) else none
        | none => none
      | some (.d (.v v)), some (.d (.v v')) => match binV op v v' with | some (u, ob) => some (⟨.d (.v u), [], [], [], []⟩, ob) | none => nilStep te t op (.d (.v v)) y
      | some sv, some _ => nilStep te t op sv y
      | _, _ => none
    | .unOp op _ x => match evalO (fun t => klook t s.S) x with
      | some (.d (.v v)) => match unV op v with | some u => some (⟨.d (.v u), [], [], [], []⟩, True) | none => none
      | _ => none
    | .convert t t' x => match evalO (fun t => klook t s.S) x, klook t te, klook t' te with
      | some (.d (.v (.int _ n))), some _, some j => match j.u with | .int k' => some (⟨.d (.v (.int k' (k'.wrap n))), [], [], [], []⟩, True) | _ => none
      | _, _, _ => none
    | .alloc t => match o.dst, klook t te with
      | some d, some i => if d < 900 then some (⟨.lp d 0, [(d, t, i.zero.map SV.d)], [], [], [d]⟩, True) else none
      | _, _ => none
    | .box t x => match o.dst, klook t te, evalO (fun t => klook t s.S) x with
      | some d, some i, some sv => match cellsSV i.u sv with
        | some cs => if ownsOk (fun k => klook k s.O) [sv] = true ∧ d < 900 then some (⟨.lp d 0, [(d, t, killL [] [d] cs)], [], [], [d]⟩, True) else none
        | none => none
      | _, _, _ => none
    | .build t parts => match klook t te with
      | some i => match i.u with
        | .struct fs => match placesOf te fs.toList, partsD (fun t => klook t s.S) parts.toList with
          | some pl, some ps => match fillS (fun j => pl[j]?) i.zero ps with
            | some out => some (⟨.d (.ag out), [], [], [], []⟩, True)
            | none => none
          | _, _ => none
        | _ => none
      | none => none
    | .load t x => match evalO (fun t => klook t s.S) x, klook t te with
      | some (.lp key off), some i => match klook key s.L with
        | some (_, cs) => if one1 i = true ∧ off + i.size ≤ cs.length then (match mkSV i.u ((cs.drop off).take i.size) with | some sv => some (⟨sv, [], [], [], []⟩, True) | none => none) else none
        | none => none
      | some (.d (.ptr cs)), some i => if one1 i = true ∧ i.size ≤ cs.length then some (⟨.d (mkD i.u (cs.take i.size)), [], [], [], []⟩, True) else none
      | some (.oa key k n off), some i => match klook key s.O with
        | some ow => if one1 i = true ∧ ow.k = k ∧ off + i.size ≤ (ow.row n).length then some (⟨.d (mkD i.u (((ow.row n).drop off).take i.size)), [], [], [], []⟩, n < ow.x) else none
        | none => none
      | _, _ => none
    | .store t x y => match o.dst, evalO (fun t => klook t s.S) x, evalO (fun t => klook t s.S) y, klook t te with
      | none, some (.lp key off), some sv, some i => match klook key s.L, cellsSV i.u sv with
        | some (T, cs), some svs => if ownsOk (fun k => klook k s.O) [sv] = true ∧ svs.all leafSV = true ∧ svs.length = i.size ∧ off + svs.length ≤ cs.length then some (⟨.junk, [(key, T, setCs cs off svs)], [], [], []⟩, True) else none
        | _, _ => none
      | _, _, _, _ => none
    | .fieldAddr t x f => match evalO (fun t => klook t s.S) x, fieldOf te t f with
      | some (.lp key off), some (fd, _) => some (⟨.lp key (off + fd.offset), [], [], [], []⟩, True)
      | some (.d (.ptr cs)), some (fd, _) => some (⟨.d (.ptr (cs.drop fd.offset)), [], [], [], []⟩, True)
      | some (.oa key k n off), some (fd, _) => some (⟨.oa key k n (off + fd.offset), [], [], [], []⟩, True)
      | _, _ => none
    | .indexAddr t x y => match evalO (fun t => klook t s.S) x, evalO (fun t => klook t s.S) y, sliceElem te t with
      | some (.d (.sl k len _ row)), some (.d (.v (.int _ n))), some (_, j) => if j.size = k then some (⟨.d (.ptr (row n.toNat)), [], [], [], []⟩, 0 ≤ n ∧ n < len) else none
      | some (.own key), some (.d (.v (.int _ n))), some (_, j) => match klook key s.O with
        | some ow => if j.size = ow.k then some (⟨.oa key ow.k n.toNat 0, [], [], [], []⟩, 0 ≤ n ∧ n < ow.n) else none
        | none => none
      | _, _, _ => none
    | .index t x y => match evalO (fun t => klook t s.S) x, evalO (fun t => klook t s.S) y with
      | some (.d (.v (.string str))), some (.d (.v (.int _ n))) => if isStr te t = true then some (⟨.d (.v (.int .u8 (((bytes str).getD n.toNat 0).toNat : Nat))), [], [], [], []⟩, 0 ≤ n ∧ n < (bytes str).length) else none
      | _, _ => none
    | .makeFunc (.func f) first caps => match first.toList, caps.toList.mapM (evalO (fun t => klook t s.S)) with
      | [], some svs => some (⟨.fn f svs, [], [], [], []⟩, True)
      | _, _ => none
    | .call { callee := .builtin .len, args := args, argTypes := ts } => match args.toList, ts.toList with
      | [x], [t] => match evalO (fun t => klook t s.S) x with
        | some (.d (.v (.string str))) => if isStr te t = true then some (⟨.d (.v (.int .i64 ((bytes str).length : Nat))), [], [], [], []⟩, True) else none
        | some (.d (.sl _ len _ _)) => if isSl te t = true then some (⟨.d (.v (.int .i64 (len : Nat))), [], [], [], []⟩, True) else none
        | some (.d (.v (.slice _ m _))) => if isSl te t = true then some (⟨.d (.v (.int .i64 (m : Nat))), [], [], [], []⟩, True) else none
        | some (.own key) => match klook key s.O with
          | some ow => if isSl te t = true then some (⟨.d (.v (.int .i64 (ow.n : Nat))), [], [], [], []⟩, True) else none
          | none => none
        | _ => none
      | _, _ => none
    | .buildSlice t len parts => match o.dst, klook t te with
      | some d, some i => match i.u with
        | .slice e => match klook e te, partsD (fun t => klook t s.S) parts.toList with
          | some j, some ps => match fillS (fun i => some (i * j.size, j.size)) (repD j.zero len) ps with
            | some out => if j.zero.length = j.size ∧ len * j.size ≤ 16777216 ∧ out.length = len * j.size ∧ lfR out = true then some (⟨.own d, [], [(d, ⟨e, j.size, len, len, lstR (chunk j.size len out)⟩)], [d], []⟩, len ≤ 140737488355328) else none
            | none => none
          | _, _ => none
        | _ => none
      | _, _ => none
    | .makeSlice t x y => match o.dst, klook t te, evalO (fun t => klook t s.S) x, evalO (fun t => klook t s.S) y with
      | some d, some i, some (.d (.v (.int _ l))), some (.d (.v (.int _ c))) => match i.u with
        | .slice e => match klook e te with
          | some j => if j.zero.length = j.size ∧ 0 < j.bytes ∧ lfR j.zero = true then some (⟨.own d, [], [(d, ⟨e, j.size, l.toNat, l.toNat, fun _ => j.zero⟩)], [d], []⟩, 0 ≤ l ∧ l ≤ c ∧ c * (j.bytes : Int) ≤ 140737488355328) else none
          | none => none
        | _ => none
      | _, _, _, _ => none
    | .slice t x lo hi mx => match evalO (fun t => klook t s.S) x with
      | some (.d (.sl k n ex row)) => match sliceElem te t, bndO (fun t => klook t s.S) 0 lo, bndO (fun t => klook t s.S) n hi, bndO (fun t => klook t s.S) ex mx with
        | some (_, j), some l, some h, some m => if j.size = k ∧ (mx.isSome = true → hi.isSome = true) then some (⟨.d (.sl k (h - l).toNat (m - l).toNat (offR l.toNat row)), [], [], [], []⟩, 0 ≤ l ∧ l ≤ h ∧ h ≤ m ∧ m ≤ ex) else none
        | _, _, _, _ => none
      | some (.d (.v (.string str))) => match mx, bndO (fun t => klook t s.S) 0 lo, bndO (fun t => klook t s.S) (bytes str).length hi with
        | none, some l, some h => if isStr te t = true then some (⟨.d (.v (.string (mkS (((bytes str).drop l.toNat).take (h - l).toNat)))), [], [], [], []⟩, 0 ≤ l ∧ l ≤ h ∧ h ≤ (bytes str).length) else none
        | _, _, _ => none
      | _ => none
    | .call { callee := .builtin .append, args := args, argTypes := ts } => match args.toList, ts.toList with
      | [x, y], [t, t'] => if t = t' then (match o.dst, sliceElem te t, evalO (fun t => klook t s.S) x, evalO (fun t => klook t s.S) y with
        | some _, some (e, j), some (.own key), some sy => match klook key s.O, srcSV (fun k => klook k s.O) j.size sy with
          | some ow, some (m, row2) => if j.zero.length = j.size ∧ 0 < j.size ∧ 0 < j.bytes ∧ ow.e = e ∧ ow.k = j.size then some (⟨.own key, [], [(key, ⟨e, j.size, ow.n + m, ow.n + m, catR ow.n ow.row row2⟩)], [key, key], []⟩, ow.n = ow.x ∧ (ow.n + m) * j.bytes ≤ 140737488355328) else none
          | _, _ => none
        | some d, some (e, j), some (.d (.v (.slice none 0 0))), some sy => match srcSV (fun k => klook k s.O) j.size sy with
          | some (m, row2) => if j.zero.length = j.size ∧ 0 < j.size ∧ 0 < j.bytes then some (⟨.own d, [], [(d, ⟨e, j.size, 0 + m, 0 + m, catR 0 (fun _ => []) row2⟩)], [d], []⟩, (0 + m) * j.bytes ≤ 140737488355328) else none
          | none => none
        | _, _, _, _ => none) else none
      | _, _ => none
    | .call { callee := .builtin .max, args := args, argTypes := _ } => match args.toList with
      | [x, y] => match evalO (fun t => klook t s.S) x, evalO (fun t => klook t s.S) y with
        | some (.d (.v (.int k m))), some (.d (.v (.int _ n))) => some (⟨.d (.v (.int k (max m n))), [], [], [], []⟩, True)
        | _, _ => none
      | _ => none
    | .call { callee := .builtin .min, args := args, argTypes := _ } => match args.toList with
      | [x, y] => match evalO (fun t => klook t s.S) x, evalO (fun t => klook t s.S) y with
        | some (.d (.v (.int k m))), some (.d (.v (.int _ n))) => some (⟨.d (.v (.int k (min m n))), [], [], [], []⟩, True)
        | _, _ => none
      | _ => none
    | _ => none
  else none
theorem fieldOf_spec {te : TE} {P : Program} (hte : TEok P te) {t f : Nat} {fd : Field} {j : TyI} (h : fieldOf te t f = some (fd, j)) : ∃ i fs, TyOk P t i ∧ i.u = .struct fs ∧ fs[f]? = some fd ∧ TyOk P fd.type j ∧ j.size ≠ 0 := by
  unfold fieldOf at h
  split at h
  · rename_i i hi
    split at h
    · rename_i fs hu
      split at h
      · rename_i fd' hf
        split at h
        · rename_i j' hj
          split at h
          · cases h
          · rename_i hsz
            cases h
            exact ⟨i, fs, hte _ _ hi, hu, hf, hte _ _ hj, hsz⟩
        · cases h
      · cases h
    · cases h
  · cases h
theorem sliceElem_spec {te : TE} {P : Program} (hte : TEok P te) {t e : Nat} {j : TyI} (h : sliceElem te t = some (e, j)) : ∃ i, TyOk P t i ∧ i.u = .slice e ∧ TyOk P e j := by
  unfold sliceElem at h
  split at h
  · rename_i i hi
    split at h
    · rename_i e' hu
      split at h
      · rename_i j' hj
        cases h
        exact ⟨i, hte _ _ hi, hu, hte _ _ hj⟩
      · cases h
    · cases h
  · cases h
theorem isStr_spec {te : TE} {P : Program} (hte : TEok P te) {t : Nat} (h : isStr te t = true) : ∃ i, TyOk P t i ∧ i.u = .string := by
  unfold isStr at h
  split at h
  · rename_i i hi
    split at h
    · rename_i hu; exact ⟨i, hte _ _ hi, hu⟩
    · cases h
  · cases h
theorem isSl_spec {te : TE} {P : Program} (hte : TEok P te) {t : Nat} (h : isSl te t = true) : ∃ i e, TyOk P t i ∧ i.u = .slice e := by
  unfold isSl at h
  split at h
  · rename_i i hi
    split at h
    · rename_i e hu; exact ⟨i, e, hte _ _ hi, hu⟩
    · cases h
  · cases h
theorem isBoolT_spec {te : TE} {P : Program} (hte : TEok P te) {t : Nat} (h : isBoolT te t = true) : ∃ i, TyOk P t i ∧ i.u = .bool := by
  unfold isBoolT at h
  split at h
  · rename_i i hi
    split at h
    · rename_i hu; exact ⟨i, hte _ _ hi, hu⟩
    · cases h
  · cases h
theorem one1_spec {i : TyI} (h : one1 i = true) : aggD i.u = false → i.size = 1 := fun ha => by
  unfold one1 at h; rw [ha] at h; simpa using h
set_option maxHeartbeats 1000000 in
theorem stepB_ok {P : Program} {C : Ctx} {te : TE} (hte : TEok P te) {s : Stt} {o : Oper} {r : Res} {ob : Prop} (h : stepB te s o = some (r, ob)) (hob : ob) : Ok1 P C o s.sy r := by
  unfold stepB at h
  split at h
  case isFalse => cases h
  case isTrue hdst =>
    have ht : ∀ t, o.dst = some t → t < s.sy.N := dstOk_spec hdst
    split at h
    · rename_i x hop
      split at h
      · rename_i sv hx; cases h; exact ok_move (.inl hop) ht hx
      · cases h
    · rename_i x hop
      split at h
      · rename_i sv hx; cases h; exact ok_move (.inr hop) ht hx
      · cases h
    · rename_i x i hop
      split at h
      · rename_i ds hx
        split at h
        · rename_i d hd; cases h; exact ok_extract hop ht hx hd
        · cases h
      · cases h
    · rename_i c x y hop
      split at h
      · rename_i b sa sb hc hx hy; cases h; exact ok_pick hop ht hc hx hy
      · cases h
    · rename_i op t x y t' hop
      split at h
      · rename_i b c hx hy
        split at h
        · rename_i hb
          obtain ⟨i, hi, hu⟩ := isBoolT_spec hte hb
          split at h
          · cases h; simpa using ok_eqBool (C := C) (s := s.sy) hop (.inl rfl) hi hu ht hx hy
          · cases h; simpa using ok_eqBool (C := C) (s := s.sy) hop (.inr rfl) hi hu ht hx hy
          · cases h
        · cases h
      · rename_i xs ys hx hy
        split at h
        · rename_i i hi
          split at h
          · rename_i hc
            split at h
            · split at h
              · rename_i r hr; cases h; simpa using ok_eqSt (C := C) (s := s.sy) hte (.inl rfl) hop ht hx hy hi hc.1 hc.2 hr
              · cases h
            · split at h
              · rename_i r hr; cases h; simpa using ok_eqSt (C := C) (s := s.sy) hte (.inr rfl) hop ht hx hy hi hc.1 hc.2 hr
              · cases h
            · cases h
          · cases h
        · cases h
      · rename_i v v' _ hx hy
        split at h
        · rename_i u ob' hb; cases h; exact ok_bin hop ht hx hy hb hob
        · exact nilStep_ok hte hop ht hx h
      · rename_i sv sv' _ _ _ hx hy
        exact nilStep_ok hte hop ht hx h
      · cases h
    · rename_i op t x hop
      split at h
      · rename_i v hx
        split at h
        · rename_i u hu; cases h; exact ok_un hop ht hx hu
        · cases h
      · cases h
    · rename_i t t' x hop
      split at h
      · rename_i kx n i j hx hi hj
        split at h
        · rename_i k' hk; cases h; exact ok_convInt hop ht hx (hte _ _ hi) (hte _ _ hj) hk
        · cases h
      · cases h
    · rename_i t hop
      split at h
      · rename_i d i hd hi
        split at h
        · rename_i hlt; cases h; exact ok_alloc hop hd (ht d hd) (lentK_lt hlt) (hte _ _ hi)
        · cases h
      · cases h
    · rename_i t x hop
      split at h
      · rename_i d i sv hd hi hx
        split at h
        · rename_i cs hcs
          split at h
          · rename_i how; cases h; exact ok_box hop hd (ht d hd) (lentK_lt how.2) hx hcs (ownsOk_mem how.1 sv (by simp))
          · cases h
        · cases h
      · cases h
    · rename_i t parts hop
      split at h
      · rename_i i hi
        split at h
        · rename_i fs hu
          split at h
          · rename_i pl ps hpl hps
            split at h
            · rename_i out hf; cases h; exact ok_build hte hop ht hi hu hpl hps hf
            · cases h
          · cases h
        · cases h
      · cases h
    · rename_i t x hop
      split at h
      · rename_i key off i hx hi
        split at h
        · rename_i T cs hL
          split at h
          · rename_i hc
            split at h
            · rename_i sv hsv; cases h; exact ok_load_lp hop ht hx hL (hte _ _ hi) (one1_spec hc.1) hc.2 hsv
            · cases h
          · cases h
        · cases h
      · rename_i cs i hx hi
        split at h
        · rename_i hc; cases h; exact ok_load_rp hop ht hx (hte _ _ hi) (one1_spec hc.1) hc.2
        · cases h
      · rename_i key k n off i hx hi
        split at h
        · rename_i ow hO
          split at h
          · rename_i hc; cases h; exact ok_load_oa hop ht hx hO hc.2.1 hob (hte _ _ hi) (one1_spec hc.1) hc.2.2
          · cases h
        · cases h
      · cases h
    · rename_i t x y hop
      split at h
      · rename_i key off sv i hd hx hy hi
        split at h
        · rename_i T cs svs hL hsv
          split at h
          · rename_i hc; cases h; exact ok_store hop hd hx hy hL (hte _ _ hi) hsv hc.1 hc.2.1 hc.2.2.1 hc.2.2.2
          · cases h
        · cases h
      · cases h
    · rename_i t x f hop
      split at h
      · rename_i key off fd j hx hf
        obtain ⟨i, fs, h1, h2, h3, h4, h5⟩ := fieldOf_spec hte hf
        cases h; exact ok_fieldAddr_lp hop ht hx h1 h2 h3 h4 h5
      · rename_i cs fd j hx hf
        obtain ⟨i, fs, h1, h2, h3, h4, h5⟩ := fieldOf_spec hte hf
        cases h; exact ok_fieldAddr_rp hop ht hx h1 h2 h3 h4 h5
      · rename_i key k n off fd j hx hf
        obtain ⟨i, fs, h1, h2, h3, h4, h5⟩ := fieldOf_spec hte hf
        cases h; exact ok_fieldAddr_oa hop ht hx h1 h2 h3 h4 h5
      · cases h
    · rename_i t x y hop
      split at h
      · rename_i k len ex row kd n e j hx hy hs
        split at h
        · rename_i hk
          obtain ⟨i, h1, h2, h3⟩ := sliceElem_spec hte hs
          cases h; exact ok_indexAddr_sl hop ht h1 h2 h3 hk hx hy hob.1 hob.2
        · cases h
      · rename_i key kd n e j hx hy hs
        split at h
        · rename_i ow hO
          split at h
          · rename_i hk
            obtain ⟨i, h1, h2, h3⟩ := sliceElem_spec hte hs
            cases h; exact ok_indexAddr_own hop ht h1 h2 h3 hk hx hO hy hob.1 hob.2
          · cases h
        · cases h
      · cases h
    · rename_i t x y hop
      split at h
      · rename_i str kd n hx hy
        split at h
        · rename_i hs
          obtain ⟨i, h1, h2⟩ := isStr_spec hte hs
          cases h; exact ok_index_str hop ht h1 h2 hx hy hob.1 hob.2
        · cases h
      · cases h
    · rename_i f first caps hop
      split at h
      · rename_i svs hf hc
        cases h
        have : first = #[] := by cases first; simp_all
        subst this
        exact ok_makeFunc hop ht hc
      · cases h
    · rename_i args ts hop
      split at h
      · rename_i x t ha hts
        have e1 : args = #[x] := by cases args; simp_all
        have e2 : ts = #[t] := by cases ts; simp_all
        subst e1; subst e2
        split at h
        · rename_i str hx
          split at h
          · rename_i hs
            obtain ⟨i, h1, h2⟩ := isStr_spec hte hs
            cases h; exact ok_len_str hop rfl ht h1 h2 hx
          · cases h
        · rename_i k len ex row hx
          split at h
          · rename_i hs
            obtain ⟨i, e, h1, h2⟩ := isSl_spec hte hs
            cases h; exact ok_len_sl hop rfl ht h1 h2 hx
          · cases h
        · rename_i ad m c hx
          split at h
          · rename_i hs
            obtain ⟨i, e, h1, h2⟩ := isSl_spec hte hs
            cases h; exact ok_len_nil hop rfl ht h1 h2 hx
          · cases h
        · rename_i key hx
          split at h
          · rename_i ow hO
            split at h
            · rename_i hs
              obtain ⟨i, e, h1, h2⟩ := isSl_spec hte hs
              cases h; exact ok_len_own hop rfl ht h1 h2 hx hO
            · cases h
          · cases h
        · cases h
      · cases h
    · rename_i t len parts hop
      split at h
      · rename_i d i hd hi
        split at h
        · rename_i e hu
          split at h
          · rename_i j ps hj hps
            split at h
            · rename_i out hf
              split at h
              · rename_i hc; cases h
                exact ok_buildSlice hop hd (ht d hd) (hte _ _ hi) hu (hte _ _ hj) hc.1 hc.2.1 hob hps hf hc.2.2.1 hc.2.2.2
              · cases h
            · cases h
          · cases h
        · cases h
      · cases h
    · rename_i t x y hop
      split at h
      · rename_i d i kx l ky c hd hi hx hy
        split at h
        · rename_i e hu
          split at h
          · rename_i j hj
            split at h
            · rename_i hc; cases h
              exact ok_makeSlice hop hd (ht d hd) (hte _ _ hi) hu (hte _ _ hj) hc.1 hc.2.1 hc.2.2 hx hy hob.1 hob.2.1 hob.2.2
            · cases h
          · cases h
        · cases h
      · cases h
    · rename_i t x lo hi mx hop
      split at h
      · rename_i k n ex row hx
        split at h
        · rename_i e j l hh m hs hl hh' hm
          split at h
          · rename_i hc; cases h
            obtain ⟨i, h1, h2, h3⟩ := sliceElem_spec hte hs
            exact ok_slice_sl hop ht h1 h2 h3 hc.1 hx hl hh' hm (fun hne hn => by
              have := hc.2 (by cases mx <;> simp_all)
              simp [hn] at this) hob.1 hob.2.1 hob.2.2.1 hob.2.2.2
          · cases h
        · cases h
      · rename_i str hx
        split at h
        · rename_i l hh hl hh'
          split at h
          · rename_i hs; cases h
            obtain ⟨i, h1, h2⟩ := isStr_spec hte hs
            exact ok_slice_str hop ht h1 h2 hx hl hh' hob.1 hob.2.1 hob.2.2
          · cases h
        · cases h
      · cases h
    · rename_i args ts hop
      split at h
      · rename_i x y t t' ha hts
        have e1 : args = #[x, y] := by cases args; simp_all
        have e2 : ts = #[t, t'] := by cases ts; simp_all
        subst e1; subst e2
        split at h
        · rename_i htt; subst htt
          split at h
          · rename_i d e j key sy hd hs hx hy
            split at h
            · rename_i ow m row2 hO hsrc
              split at h
              · rename_i hc; cases h
                obtain ⟨i, h1, h2, h3⟩ := sliceElem_spec hte hs
                exact ok_append hop rfl hd (ht d hd) h1 h2 h3 hc.1 hc.2.1 hc.2.2.1 hx hO hc.2.2.2.1 hc.2.2.2.2 hob.1 (srcSV_ok (by simp [hop, Op.operands, Call.operands]) hy hsrc) hob.2
              · cases h
            · cases h
          · rename_i d e j sy hd hs hx hy
            split at h
            · rename_i m row2 hsrc
              split at h
              · rename_i hc; cases h
                obtain ⟨i, h1, h2, h3⟩ := sliceElem_spec hte hs
                exact ok_append_nil hop rfl hd (ht d hd) h1 h2 h3 hc.1 hc.2.1 hc.2.2 hx (srcSV_ok (by simp [hop, Op.operands, Call.operands]) hy hsrc) hob
              · cases h
            · cases h
          · cases h
        · cases h
      · cases h
    · rename_i args ts hop
      split at h
      · rename_i x y ha
        have e1 : args = #[x, y] := by cases args; simp_all
        subst e1
        split at h
        · rename_i k m k' n hx hy; cases h; simpa using ok_maxmin (C := C) (s := s.sy) (mx := true) hop ht hx hy
        · cases h
      · cases h
    · rename_i args ts hop
      split at h
      · rename_i x y ha
        have e1 : args = #[x, y] := by cases args; simp_all
        subst e1
        split at h
        · rename_i k m k' n hx hy; cases h; simpa using ok_maxmin (C := C) (s := s.sy) (mx := false) hop ht hx hy
        · cases h
      · cases h
    · cases h
/-! ### arrays -/
section
variable {P : Program} {C : Ctx} {o : Oper} {s : Sy}
theorem ok_buildA {te : TE} {t e : TypeId} {m : Nat} {parts : Array (Nat × Operand)} {ps : List (Nat × List D)} {i j : TyI} {out : List D} (hte : TEok P te) (ho : o.op = .build t parts) (ht : ∀ t, o.dst = some t → t < s.N)
    (hi : klook t te = some i) (hu : i.u = .array m e) (hj : klook e te = some j) (hp : partsD s.S parts.toList = some ps) (hf : fillS (fun q => some (q * j.size, j.size)) i.zero ps = some out) : Ok1 P C o s ⟨.d (.ag out), [], [], [], []⟩ := by
  refine ok_val (by simp [ho]) ht fun s' E a w hext hE => ?_
  obtain ⟨h1, h2⟩ := partsD_den hext hE (l := parts.toList) (fun x hx => by
    simp only [ho, Op.operands]
    simp only [List.mem_toArray, List.mem_map]
    exact ⟨x, hx, rfl⟩) hp
  obtain ⟨hun, inf, z, h3, h4, _, h5, h6⟩ := hte _ _ hi
  obtain ⟨_, infe, ze, g3, g4, _⟩ := hte _ _ hj
  have hz : RdL w E.Z i.zero z.cells.toList := h6.1 w E.Z
  obtain ⟨vout, h7, h8⟩ := fillS_spec hz h1 h2 hf
  have hb : P.built t (parts.map fun (i, x) => (i, a.eval x)).toList = some vout := by
    unfold Program.built
    rw [hun, hu]
    simp only [h3, h5, g3, g4]
    simpa using h7
  refine ⟨.agg vout, by simp [execOp, ho, run_build w t _ vout hb], ?_⟩
  simp only [DenV, RdV]
  exact ⟨vout.toList, by simp, h8⟩
theorem ok_indexAddr_lp {t e : TypeId} {m : Nat} {x y : Operand} {key off : Nat} {kd : IntKind} {n : Int} {i j : TyI} (ho : o.op = .indexAddr t x y) (ht : ∀ t, o.dst = some t → t < s.N) (hi : TyOk P t i) (hu : i.u = .array m e) (hj : TyOk P e j)
    (hx : evalO s.S x = some (.lp key off)) (hy : evalO s.S y = some (.d (.v (.int kd n)))) (h0 : 0 ≤ n) (h1 : n < m) : Ok1 P C o s ⟨.lp key (off + n.toNat * j.size), [], [], [], []⟩ := by
  refine ok_val (by simp [ho]) ht fun s' E a w hext hE => ?_
  have hx' := hext.ev hE (x := x) (by simp [ho, Op.operands]) hx
  have hy' := hext.ev hE (x := y) (by simp [ho, Op.operands]) hy
  simp only [DenV, RdV] at hx' hy'
  have hun := hi.under (w := w)
  rw [hu] at hun
  refine ⟨.pointer (some ⟨E.β key, off + n.toNat * j.size, none⟩), ?_, by simp [DenV]⟩
  simp [execOp, ho, hx', hy', Instr.indexAt, Instr.sureAddr, asIntOf, hun, h0, h1, hj.size, addr_add]
theorem ok_indexA {t e : TypeId} {m : Nat} {x y : Operand} {cs : List D} {d : D} {kd : IntKind} {n : Int} {i j : TyI} (ho : o.op = .index t x y) (ht : ∀ t, o.dst = some t → t < s.N) (hi : TyOk P t i) (hu : i.u = .array m e) (hj : TyOk P e j) (hj1 : j.size = 1) (hja : j.u = .string)
    (hx : evalO s.S x = some (.d (.ag cs))) (hy : evalO s.S y = some (.d (.v (.int kd n)))) (hd : cs[n.toNat]? = some d) (h0 : 0 ≤ n) (h1 : n < m) : Ok1 P C o s ⟨.d d, [], [], [], []⟩ := by
  refine ok_val (by simp [ho]) ht fun s' E a w hext hE => ?_
  have hx' := hext.ev hE (x := x) (by simp [ho, Op.operands]) hx
  have hy' := hext.ev hE (x := y) (by simp [ho, Op.operands]) hy
  simp only [DenV, RdV] at hx' hy'
  obtain ⟨vs, e1, h2⟩ := hx'
  have hun := hi.under (w := w)
  rw [hu] at hun
  have hue := hj.under (w := w)
  rw [hja] at hue
  obtain ⟨v, h3, h4⟩ := RdL_get h2 hd
  refine ⟨v, ?_, by simp only [DenV]; exact h4⟩
  simp [execOp, ho, e1, hy', Instr.index, asIntOf, hun, h0, h1, hj.size, hj1, part, isAgg, hue, h3]
end
/-- what is known of arrays -/
def stepA (te : TE) (s : Stt) (o : Oper) : Option (Res × Prop) :=
  if dstOk o s.N = true then
    match o.op with
    | .build t parts => match klook t te with
      | some i => match i.u with
        | .array _ e => match klook e te, partsD (fun t => klook t s.S) parts.toList with
          | some j, some ps => match fillS (fun q => some (q * j.size, j.size)) i.zero ps with
            | some out => some (⟨.d (.ag out), [], [], [], []⟩, True)
            | none => none
          | _, _ => none
        | _ => none
      | none => none
    | .indexAddr t x y => match evalO (fun t => klook t s.S) x, evalO (fun t => klook t s.S) y, klook t te with
      | some (.lp key off), some (.d (.v (.int _ n))), some i => match i.u with
        | .array m e => match klook e te with
          | some j => some (⟨.lp key (off + n.toNat * j.size), [], [], [], []⟩, 0 ≤ n ∧ n < m)
          | none => none
        | _ => none
      | _, _, _ => none
    | .index t x y => match evalO (fun t => klook t s.S) x, evalO (fun t => klook t s.S) y, klook t te with
      | some (.d (.ag cs)), some (.d (.v (.int _ n))), some i => match i.u with
        | .array m e => match klook e te with
          | some j => match j.u with
            | .string => if j.size = 1 then (match cs[n.toNat]? with | some d => some (⟨.d d, [], [], [], []⟩, 0 ≤ n ∧ n < m) | none => none) else none
            | _ => none
          | none => none
        | _ => none
      | _, _, _ => none
    | _ => none
  else none
theorem stepA_ok {P : Program} {C : Ctx} {te : TE} (hte : TEok P te) {s : Stt} {o : Oper} {r : Res} {ob : Prop} (h : stepA te s o = some (r, ob)) (hob : ob) : Ok1 P C o s.sy r := by
  unfold stepA at h
  split at h
  case isFalse => cases h
  case isTrue hdst =>
    have ht : ∀ t, o.dst = some t → t < s.sy.N := dstOk_spec hdst
    split at h
    · rename_i t parts hop
      split at h
      · rename_i i hi
        split at h
        · rename_i m e hu
          split at h
          · rename_i j ps hj hp
            split at h
            · rename_i out hf; cases h; exact ok_buildA hte hop ht hi hu hj hp hf
            · cases h
          · cases h
        · cases h
      · cases h
    · rename_i t x y hop
      split at h
      · rename_i key off kd n i hx hy hi
        split at h
        · rename_i m e hu
          split at h
          · rename_i j hj; cases h; exact ok_indexAddr_lp hop ht (hte _ _ hi) hu (hte _ _ hj) hx hy hob.1 hob.2
          · cases h
        · cases h
      · cases h
    · rename_i t x y hop
      split at h
      · rename_i cs kd n i hx hy hi
        split at h
        · rename_i m e hu
          split at h
          · rename_i j hj
            split at h
            · rename_i hju
              split at h
              · rename_i hj1
                split at h
                · rename_i d hd; cases h; exact ok_indexA hop ht (hte _ _ hi) hu (hte _ _ hj) hj1 hju hx hy hd hob.1 hob.2
                · cases h
              · cases h
            · cases h
          · cases h
        · cases h
      · cases h
    · cases h
/-! ### more operations -/
section
variable {P : Program} {C : Ctx} {o : Oper} {s : Sy}
theorem ok_nilCheck_lp {x : Operand} {key off : Nat} (ho : o.op = .nilCheck x) (ht : ∀ t, o.dst = some t → t < s.N) (hx : evalO s.S x = some (.lp key off)) : Ok1 P C o s ⟨.lp key off, [], [], [], []⟩ := by
  refine ok_val (by simp [ho]) ht fun s' E a w hext hE => ?_
  have h := hext.ev hE (x := x) (by simp [ho, Op.operands]) hx
  refine ⟨a.eval x, ?_, h⟩
  simp only [DenV] at h
  simp [execOp, ho, h]
theorem ok_nilCheck_oa {x : Operand} {key k n off : Nat} (ho : o.op = .nilCheck x) (ht : ∀ t, o.dst = some t → t < s.N) (hx : evalO s.S x = some (.oa key k n off)) : Ok1 P C o s ⟨.oa key k n off, [], [], [], []⟩ := by
  refine ok_val (by simp [ho]) ht fun s' E a w hext hE => ?_
  have h := hext.ev hE (x := x) (by simp [ho, Op.operands]) hx
  refine ⟨a.eval x, ?_, h⟩
  simp only [DenV] at h
  obtain ⟨g, _, h⟩ := h
  simp [execOp, ho, h]
theorem ok_nilCheck_ptr {x : Operand} {cs : List D} (ho : o.op = .nilCheck x) (ht : ∀ t, o.dst = some t → t < s.N) (hx : evalO s.S x = some (.d (.ptr cs))) : Ok1 P C o s ⟨.d (.ptr cs), [], [], [], []⟩ := by
  refine ok_val (by simp [ho]) ht fun s' E a w hext hE => ?_
  have h := hext.ev hE (x := x) (by simp [ho, Op.operands]) hx
  refine ⟨a.eval x, ?_, h⟩
  simp only [DenV, RdV] at h
  obtain ⟨b, off, h, _⟩ := h
  simp [execOp, ho, h]
theorem ok_field {t : TypeId} {x : Operand} {f : Nat} {cs : List D} {i j : TyI} {fs : Array Field} {fd : Field} (ho : o.op = .field t x f) (ht : ∀ t, o.dst = some t → t < s.N) (hx : evalO s.S x = some (.d (.ag cs)))
    (hi : TyOk P t i) (hu : i.u = .struct fs) (hf : fs[f]? = some fd) (hj : TyOk P fd.type j) (h1 : aggD j.u = false → j.size = 1) (hl : fd.offset + j.size ≤ cs.length) : Ok1 P C o s ⟨.d (mkD j.u ((cs.drop fd.offset).take j.size)), [], [], [], []⟩ := by
  refine ok_val (by simp [ho]) ht fun s' E a w hext hE => ?_
  have h := hext.ev hE (x := x) (by simp [ho, Op.operands]) hx
  simp only [DenV, RdV] at h
  obtain ⟨us, e1, h2⟩ := h
  have hun := hi.under (w := w)
  rw [hu] at hun
  have h3 : RdL w E.Z ((cs.drop fd.offset).take j.size) ((us.drop fd.offset).take j.size) := RdL_take _ (RdL_drop _ h2)
  have hlen : ((us.drop fd.offset).take j.size).length = j.size := by rw [RdL_length h3]; simp; omega
  have hone : aggD j.u = false → ∃ v, (us.drop fd.offset).take j.size = [v] := fun ha => by
    rw [h1 ha] at hlen ⊢
    exact List.length_eq_one_iff.1 hlen
  have hp := run_partV (w := w) (off := fd.offset) (us := us) hj hone
  refine ⟨valOf j.u ((us.drop fd.offset).take j.size), ?_, ?_⟩
  · simp [execOp, ho, e1, Instr.field, hun, hf, asAgg, hp]
  · simp only [DenV]
    unfold valOf mkD
    cases ha : aggD j.u with
    | true => simp only [if_true, RdV]; exact ⟨_, rfl, h3⟩
    | false =>
      obtain ⟨v, hv⟩ := hone ha
      rw [hv] at h3 ⊢
      simp only [Bool.false_eq_true, if_false, List.headD_cons]
      generalize (cs.drop fd.offset).take j.size = ds at h3
      cases ds with
      | nil => simp only [RdL] at h3; cases h3
      | cons d r =>
        simp only [RdL] at h3
        obtain ⟨v', vs', e2, h4, _⟩ := h3
        cases e2
        simpa using h4
theorem ok_mkIface {t : TypeId} {x : Operand} {d : D} {i : TyI} (ho : o.op = .makeInterface t x) (ht : ∀ t, o.dst = some t → t < s.N) (hx : evalO s.S x = some (.d d)) (hi : TyOk P t i) (hu : ∀ m, i.u ≠ .interface m) : Ok1 P C o s ⟨.d (.ifc t d), [], [], [], []⟩ := by
  refine ok_val (by simp [ho]) ht fun s' E a w hext hE => ?_
  have h := hext.ev hE (x := x) (by simp [ho, Op.operands]) hx
  simp only [DenV] at h
  refine ⟨.iface t (a.eval x), ?_, by simp only [DenV, RdV]; exact ⟨_, rfl, h⟩⟩
  have hun := hi.under (w := w)
  cases hk : i.u with
  | interface m => exact absurd hk (hu m)
  | _ => rw [hk] at hun; simp [execOp, ho, Instr.makeInterface, hun]
theorem mapM_den {s' : Sy} {E : Env} {a : Act} {w : World} (hext : Ext o s s') (hE : SatE C E s' a w) : ∀ {l : List Operand} {svs : List SV}, (∀ x ∈ l, x ∈ o.op.operands) → l.mapM (evalO s.S) = some svs → DenL E w svs (l.map a.eval)
  | [], svs, _, h => by simp at h; subst h; simp [DenL]
  | x :: l, svs, hm, h => by
    simp only [List.mapM_cons, Option.bind_eq_bind] at h
    cases hx : evalO s.S x with
    | none => simp [hx] at h
    | some sv =>
      cases hr : l.mapM (evalO s.S) with
      | none => simp [hx, hr] at h
      | some r =>
        simp [hx, hr] at h; subst h
        simp only [List.map_cons, DenL]
        exact ⟨_, _, rfl, hext.ev hE (hm x (by simp)) hx, mapM_den hext hE (fun y hy => hm y (by simp [hy])) hr⟩
theorem ok_makeMv {f : Nat} {first caps : Array Operand} {svs : List SV} (ho : o.op = .makeFunc (.func f) first caps) (ht : ∀ t, o.dst = some t → t < s.N) (hc : caps.toList = []) (hx : first.toList.mapM (evalO s.S) = some svs) : Ok1 P C o s ⟨.mv f svs, [], [], [], []⟩ := by
  refine ok_val (by simp [ho]) ht fun s' E a w hext hE => ?_
  have h := mapM_den hext hE (l := first.toList) (fun x hx => by simp [ho, Op.operands] at hx ⊢; exact .inl hx) hx
  have hcc : caps = #[] := by cases caps; simp at hc; simp [hc]
  subst hcc
  refine ⟨.func (.func f) (List.toArray (first.toList.map a.eval)) #[], ?_, by simp only [DenV]; exact ⟨_, rfl, h⟩⟩
  simp [execOp, ho, Instr.makeFunc]
  exact Array.ext' (by simp)
end
/-- what is known of further operations -/
def stepW (te : TE) (s : Stt) (o : Oper) : Option (Res × Prop) :=
  if dstOk o s.N = true then
    match o.op with
    | .store t x y => match o.dst, evalO (fun t => klook t s.S) x, evalO (fun t => klook t s.S) y, klook t te with
      | none, some (.oa key k n f), some sv, some i => match klook key s.O, cellsSV i.u sv with
        | some ow, some svs => match allD svs with
          | some ds => if ow.k = k ∧ ds.length = i.size ∧ f + ds.length ≤ k ∧ lfR ds = true then some (⟨.junk, [], [(key, ⟨ow.e, ow.k, ow.n, ow.x, setR n (setDs (ow.row n) f ds) ow.row⟩)], [], []⟩, n < ow.x) else none
          | none => none
        | _, _ => none
      | _, _, _, _ => none
    | .nilCheck x => match evalO (fun t => klook t s.S) x with
      | some (.lp key off) => some (⟨.lp key off, [], [], [], []⟩, True)
      | some (.oa key k n off) => some (⟨.oa key k n off, [], [], [], []⟩, True)
      | some (.d (.ptr cs)) => some (⟨.d (.ptr cs), [], [], [], []⟩, True)
      | _ => none
    | .field t x f => match evalO (fun t => klook t s.S) x, fieldOf te t f with
      | some (.d (.ag cs)), some (fd, j) => if one1 j = true ∧ fd.offset + j.size ≤ cs.length then some (⟨.d (mkD j.u ((cs.drop fd.offset).take j.size)), [], [], [], []⟩, True) else none
      | _, _ => none
    | .makeInterface t x => match evalO (fun t => klook t s.S) x, klook t te with
      | some (.d d), some i => match i.u with
        | .interface _ => none
        | _ => some (⟨.d (.ifc t d), [], [], [], []⟩, True)
      | _, _ => none
    | .makeFunc (.func f) first caps => match first.toList, caps.toList with
      | x :: r, [] => match (x :: r).mapM (evalO (fun t => klook t s.S)) with
        | some svs => some (⟨.mv f svs, [], [], [], []⟩, True)
        | none => none
      | _, _ => none
    | _ => none
  else none
theorem stepW_ok {P : Program} {C : Ctx} {te : TE} (hte : TEok P te) {s : Stt} {o : Oper} {r : Res} {ob : Prop} (h : stepW te s o = some (r, ob)) (hob : ob) : Ok1 P C o s.sy r := by
  unfold stepW at h
  split at h
  case isFalse => cases h
  case isTrue hdst =>
    have ht : ∀ t, o.dst = some t → t < s.sy.N := dstOk_spec hdst
    split at h
    · rename_i t x y hop
      split at h
      · rename_i key k n f sv i hd hx hy hi
        split at h
        · rename_i ow svs hO hc
          split at h
          · rename_i ds hds
            split at h
            · rename_i hcc; cases h
              exact ok_storeO (s := s.sy) hop hd hx hy hO hcc.1 (hte _ _ hi) hc hds hcc.2.2.2 hcc.2.1 hcc.2.2.1 hob
            · cases h
          · cases h
        · cases h
      · cases h
    · rename_i x hop
      split at h
      · rename_i key off hx; cases h; exact ok_nilCheck_lp hop ht hx
      · rename_i key k n off hx; cases h; exact ok_nilCheck_oa hop ht hx
      · rename_i cs hx; cases h; exact ok_nilCheck_ptr hop ht hx
      · cases h
    · rename_i t x f hop
      split at h
      · rename_i cs fd j hx hf
        obtain ⟨i, fs, h1, h2, h3, h4, h5⟩ := fieldOf_spec hte hf
        split at h
        · rename_i hcc; cases h; exact ok_field hop ht hx h1 h2 h3 h4 (one1_spec hcc.1) hcc.2
        · cases h
      · cases h
    · rename_i t x hop
      split at h
      · rename_i d i hx hi
        split at h
        · cases h
        · rename_i hne; cases h; exact ok_mkIface hop ht hx (hte _ _ hi) (fun m hm => hne m hm)
      · cases h
    · rename_i f first caps hop
      split at h
      · rename_i x r hf hc
        split at h
        · rename_i svs hs; cases h; exact ok_makeMv hop ht hc (by rw [hf]; exact hs)
        · cases h
      · cases h
    · cases h
/-- the operation, as far as it is known without more -/
def stepO (te : TE) (s : Stt) (o : Oper) : Option (Res × Prop) :=
  match stepB te s o with
  | some r => some r
  | none => match stepA te s o with
    | some r => some r
    | none => stepW te s o
theorem stepO_ok {P : Program} {C : Ctx} {te : TE} (hte : TEok P te) {s : Stt} {o : Oper} {r : Res} {ob : Prop} (h : stepO te s o = some (r, ob)) (hob : ob) : Ok1 P C o s.sy r := by
  unfold stepO at h
  split at h
  · rename_i x hx; cases h; exact stepB_ok hte hx hob
  · split at h
    · rename_i x hx; cases h; exact stepA_ok hte hx hob
    · exact stepW_ok hte h hob
theorem stepO_dstOk {te : TE} {st : Stt} {o : Oper} {x : Res × Prop} (h : stepO te st o = some x) : dstOk o st.N = true := by
  unfold stepO at h
  split at h
  · rename_i y hy
    unfold stepB at hy
    split at hy
    · assumption
    · cases hy
  · split at h
    · rename_i y hy
      unfold stepA at hy
      split at hy
      · assumption
      · cases hy
    · unfold stepW at h
      split at h
      · assumption
      · cases h
theorem stepO_defer {te : TE} {st : Stt} {o : Oper} {x : Res × Prop} (h : stepO te st o = some x) : ∀ c, o.op ≠ .defer c := by
  intro c hc
  unfold stepO at h
  split at h
  · rename_i y hy
    unfold stepB at hy
    rw [hc] at hy
    split at hy <;> cases hy
  · split at h
    · rename_i y hy
      unfold stepA at hy
      rw [hc] at hy
      split at hy <;> cases hy
    · unfold stepW at h
      rw [hc] at h
      split at h <;> cases h
end Go.Kin
