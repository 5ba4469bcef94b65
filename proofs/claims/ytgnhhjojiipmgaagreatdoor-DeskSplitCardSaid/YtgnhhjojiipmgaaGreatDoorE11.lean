/- Steps of a function body on data, and contracts of the functions of the seat, walked. -/
import Derived.Test.YtgnhhjojiipmgaaGreatDoorE8
set_option linter.unusedSimpArgs false
set_option linter.unusedVariables false
set_option linter.unusedSectionVars false
namespace Go.Cev
open Go.RowKit
noncomputable section
/-! ### literals -/
def putL : List Value → Nat → List Value → List Value
  | [], _, cs => cs
  | v :: vs, off, cs => putL vs (off + 1) (put v cs off)
def fillA (place : Nat → Option (Nat × Nat)) : List (Nat × Value) → List Value → Option (List Value)
  | [], cs => some cs
  | (i, v) :: rest, cs => match place i with
    | none => none
    | some (off, size) => cond (Nat.beq (len v.cells.toList) size && Nat.ble (off + len v.cells.toList) (len cs)) (fillA place rest (putL v.cells.toList off cs)) none
def placesA (tb : PT TyI) : List Field → Option (List (Nat × Nat))
  | [] => some []
  | f :: fs => match tb.get f.type with
    | none => none
    | some j => match placesA tb fs with
      | none => none
      | some l => some ((f.offset, j.size) :: l)
/-- the parts of a literal -/
def partsA (rg : PT Value) : List (Nat × Operand) → Option (List (Nat × Value))
  | [] => some []
  | (i, x) :: l => match evO rg x with
    | none => none
    | some v => match partsA rg l with
      | none => none
      | some vs => some ((i, v) :: vs)
def buildA (tb : PT TyI) (t : TypeId) (ps : List (Nat × Value)) : Option Value := match tb.get t with
  | none => none
  | some i => match i.zero, i.und with
    | some z, .struct fs => match placesA tb fs.toList with
      | none => none
      | some pl => match fillA (fun k => nth pl k) ps z.cells.toList with
        | some cs => some (.agg cs.toArray)
        | none => none
    | some z, .array _ e => match tb.get e with
      | none => none
      | some j => match fillA (fun k => some (k * j.size, j.size)) ps z.cells.toList with
        | some cs => some (.agg cs.toArray)
        | none => none
    | _, _ => none
/-- n times a row -/
def rep (z : List Value) : Nat → List Value
  | 0 => []
  | n + 1 => z ++ rep z n
/-- what a new block is called by -/
inductive AK where
  | ptr
  | slc (n : Nat)
  | mp
def AK.val : AK → Nat → Value
  | .ptr, b => .pointer (some ⟨b, 0, none⟩)
  | .slc n, b => .slice (some ⟨b, 0, none⟩) n n
  | .mp, b => .map (some b)
def alAlloc (tb : PT TyI) (e : TypeId) : Option (AO × AK) := match tb.get e with
  | some i => match i.zero with
    | some z => some (.cells z.cells.toList (0, e + 1) 0, .ptr)
    | none => none
  | none => none
def alBox (rg : PT Value) (e : TypeId) (x : Operand) : Option (AO × AK) := match evO rg x with
  | some v => some (.cells v.cells.toList (0, e + 1) 0, .ptr)
  | none => none
def alRow (tb : PT TyI) (rg : PT Value) (t : TypeId) (n : Nat) (ps : Array (Nat × Operand)) : Option (AO × AK) := match tb.get t, partsA rg ps.toList with
  | some i, some l => match i.und with
    | .slice e => match tb.get e with
      | some j => match j.zero with
        | some z => cond (Nat.ble (n * j.size) 1000000 && Nat.beq (len z.cells.toList) j.size && Nat.blt 0 j.size) (match fillA (fun k => some (k * j.size, j.size)) l (rep z.cells.toList n) with
          | some cs => some (.cells cs (j.size, e + 1) 0, .slc n)
          | none => none) none
        | none => none
      | none => none
    | _ => none
  | _, _ => none
/-- operations that make a block, and do nothing else -/
def alA (tb : PT TyI) (rg : PT Value) (o : Oper) : Option (AO × AK) := match o.op with
  | .alloc e => alAlloc tb e
  | .box e x => alBox rg e x
  | .buildSlice t n ps => alRow tb rg t n ps
  | .makeMap _ none => some (.map [] 0, .mp)
  | _ => none
end
section
variable {P : Program} {H : Nat} {w0 : World} {ω : Om} {α β γ δ : Type} {tb : PT TyI}
inductive PRs (ω : Om) : List (Nat × Value) → List (Nat × Value) → Prop
  | nil : PRs ω [] []
  | cons (i : Nat) {v v' : Value} {l l' : List (Nat × Value)} (h : VR ω v v') (hs : PRs ω l l') : PRs ω ((i, v) :: l) ((i, v') :: l')
theorem partsA_R {rg : PT Value} {ρ : Operand → Value} : ∀ {l : List (Nat × Operand)} {vs : List (Nat × Value)}, (∀ x ∈ l.map (·.2), ∀ v, evO rg x = some v → VR ω v (ρ x)) → partsA rg l = some vs → PRs ω vs (l.map fun (i, x) => (i, ρ x))
  | [], vs, _, h => by cases h; exact .nil
  | (i, x) :: l, vs, hx, h => by
    unfold partsA at h
    split at h
    · cases h
    · rename_i v hv
      split at h
      · cases h
      · rename_i us hu
        cases h
        exact .cons i (hx x (by simp) v hv) (partsA_R (fun y hy => hx y (List.mem_cons_of_mem _ hy)) hu)
theorem putL_VR : ∀ {cs cs' : List Value} {a : List Value} {a' : Array Value} (off k : Nat), VRs ω cs cs' → VRs ω a a'.toList →
    VRs ω (putL cs (off + k) a) ((cs'.zipIdx k).foldl (fun cs (c, j) => cs.setIfInBounds (off + j) c) a').toList
  | _, _, a, a', off, k, .nil, h => by simpa [putL] using h
  | _, _, a, a', off, k, .cons hv hs, h => by
    simp only [List.zipIdx_cons, List.foldl_cons, putL]
    exact putL_VR off (k + 1) hs (by rw [put_eq]; simpa using h.set (off + k) hv)
theorem fillA_VR {place place' : Nat → Option (Nat × Nat)} (hp : ∀ i x, place i = some x → place' i = some x) : ∀ {l l' : List (Nat × Value)} {a : List Value} {a' : Array Value} {x : List Value}, PRs ω l l' → VRs ω a a'.toList → fillA place l a = some x → ∃ y, Instr.fill place' a' l' = some y ∧ VRs ω x y.toList
  | _, _, a, a', x, .nil, h, he => by cases he; exact ⟨a', rfl, h⟩
  | _, _, a, a', x, .cons i (v := v) (v' := v') hv hs, h, he => by
    simp only [fillA] at he
    cases hpi : place i with
    | none => rw [hpi] at he; cases he
    | some os =>
      rw [hpi] at he
      obtain ⟨off, size⟩ := os
      simp only at he
      cases hc : (Nat.beq (len v.cells.toList) size && Nat.ble (off + len v.cells.toList) (len a)) with
      | false => rw [hc] at he; cases he
      | true =>
        rw [hc] at he
        simp only [Bool.and_eq_true, len_eq] at hc
        have h1 := Nat.eq_of_beq_eq_true hc.1
        have h2 := Nat.le_of_ble_eq_true hc.2
        have hcc := hv.cells
        have e1 : v'.cells.size = v.cells.size := by simpa using hcc.length.symm
        have e2 : a'.size = a.length := by simpa using h.length.symm
        simp only [Instr.fill, hp _ _ hpi]
        rw [if_neg (by simp at *; omega)]
        refine fillA_VR hp hs ?_ (by simpa using he)
        have e : ∀ (cs a : Array Value), cs.zipIdx.foldl (fun cs (c, j) => cs.setIfInBounds (off + j) c) a = (cs.toList.zipIdx 0).foldl (fun cs (c, j) => cs.setIfInBounds (off + j) c) a := fun cs a => by
          rw [← Array.foldl_toList]; simp
        rw [e]
        exact putL_VR off 0 hcc h
theorem placesA_ok (ht : TbOk P tb) : ∀ {fs : List Field} {pl : List (Nat × Nat)}, placesA tb fs = some pl → ∀ w, (fs.mapM fun f => (do pure (f.offset, ← sizeOf f.type) : Sem (Nat × Nat))).run P w = .ok pl w
  | [], pl, h, w => by cases h; rfl
  | f :: fs, pl, h, w => by
    unfold placesA at h
    split at h
    · cases h
    · rename_i j hj
      split at h
      · cases h
      · rename_i l hl
        cases h
        rw [List.mapM_cons]
        simp only [bind, Sem.run_bind' P, ht.size hj w, Result.andThen, pure, Sem.run]
        have := placesA_ok ht hl w
        simp only [bind, pure] at this
        rw [this]
theorem buildA_ok (ht : TbOk P tb) {t : TypeId} {l : List (Nat × Value)} {l' : Array (Nat × Value)} {v : Value} (h : buildA tb t l = some v) (hl : PRs ω l l'.toList) : ∃ v', (∀ w, (Instr.build t l').run P w = .ok v' w) ∧ VR ω v v' := by
  unfold buildA at h
  cases hi : tb.get t with
  | none => rw [hi] at h; cases h
  | some i =>
    rw [hi] at h
    simp only at h
    split at h
    · rename_i z fs hz hu
      split at h
      · cases h
      · rename_i pl hpl
        split at h
        · rename_i cs hcs
          cases h
          have hzv : VR ω z z := ht.zeroV hi hz
          obtain ⟨y, h1, h2⟩ := fillA_VR (place' := (pl.toArray[·]?)) (fun k x hk => by rw [nth_eq] at hk; simpa using hk) hl (a' := z.cells) hzv.cells hcs
          refine ⟨.agg y, fun w => ?_, by simpa using VR.agg h2⟩
          have h3 := ht.und hi w
          rw [hu] at h3
          unfold Instr.build
          simp only [bind, Sem.run_bind' P, ht.zero hi hz w, Result.andThen, h3]
          rw [Array.mapM_eq_mapM_toList]
          simp only [Sem.run_bind' P, Functor.map, bind, pure]
          have h4 := placesA_ok ht hpl w
          simp only [bind, pure] at h4
          rw [h4]
          simp only [Result.andThen, Sem.run, Function.comp, h1]
        · cases h
    · rename_i z n e hz hu
      split at h
      · cases h
      · rename_i j hj
        split at h
        · rename_i cs hcs
          cases h
          have hzv : VR ω z z := ht.zeroV hi hz
          obtain ⟨y, h1, h2⟩ := fillA_VR (place' := fun k => some (k * j.size, j.size)) (fun k x hk => hk) hl (a' := z.cells) hzv.cells hcs
          refine ⟨.agg y, fun w => ?_, by simpa using VR.agg h2⟩
          have h3 := ht.und hi w
          rw [hu] at h3
          unfold Instr.build
          simp only [bind, Sem.run_bind' P, ht.zero hi hz w, Result.andThen, h3, ht.size hj w]
          simp only [h1]; rfl
        · cases h
    · cases h
theorem rep_len (z : List Value) : ∀ n, (rep z n).length = n * z.length
  | 0 => by simp [rep]
  | n + 1 => by rw [rep, List.length_append, rep_len z n, Nat.succ_mul]; omega
theorem rep_get (z : List Value) (hz : 0 < z.length) : ∀ (n i : Nat), i < n * z.length → (rep z n)[i]? = z[i % z.length]?
  | 0, i, h => by simp at h
  | n + 1, i, h => by
    rw [rep]
    by_cases hi : i < z.length
    · rw [List.getElem?_append_left hi, Nat.mod_eq_of_lt hi]
    · rw [List.getElem?_append_right (by omega), rep_get z hz n (i - z.length) (by rw [Nat.succ_mul] at h; omega), ← Nat.mod_eq_sub_mod (by omega)]
theorem rep_eq (z : Array Value) (hz : 0 < z.size) (n : Nat) : ((Array.range (n * z.size)).map (z[· % z.size]!)).toList = rep z.toList n := by
  apply List.ext_getElem?
  intro i
  by_cases hi : i < n * z.size
  · rw [rep_get z.toList (by simpa using hz) n i (by simpa using hi)]
    have hm := Nat.mod_lt i hz
    simp [hi, hm]
  · rw [List.getElem?_eq_none (by simp; omega), List.getElem?_eq_none (by rw [rep_len]; simp; omega)]
theorem rep_VR {z : List Value} (hz : VRs ω z z) : ∀ n, VRs ω (rep z n) (rep z n)
  | 0 => .nil
  | n + 1 => hz.append (rep_VR hz n)
theorem run_newRow {e : TypeId} {cs : Array Value} (w : World) : (newRow e cs).run P w = .ok ⟨w.heap.size, 0, none⟩ { w with heap := w.heap.push (.cells cs e) } := by
  simp [newRow, newObj, bind, Sem.bind, Sem.run, pure]
theorem putL_len : ∀ (vs : List Value) (off : Nat) (cs : List Value), (putL vs off cs).length = cs.length
  | [], _, _ => rfl
  | v :: vs, off, cs => by rw [putL, putL_len vs, put_eq, List.length_set]
theorem fillA_len {place : Nat → Option (Nat × Nat)} : ∀ {l : List (Nat × Value)} {a x : List Value}, fillA place l a = some x → x.length = a.length
  | [], a, x, h => by cases h; rfl
  | (i, v) :: l, a, x, h => by
    simp only [fillA] at h
    cases hp : place i with
    | none => rw [hp] at h; cases h
    | some os =>
      rw [hp] at h
      obtain ⟨off, size⟩ := os
      simp only at h
      cases hc : (Nat.beq (len v.cells.toList) size && Nat.ble (off + len v.cells.toList) (len a)) with
      | false => rw [hc] at h; cases h
      | true =>
        rw [hc] at h
        have := fillA_len (place := place) (l := l) (a := putL v.cells.toList off a) (x := x) (by simpa using h)
        rw [this, putL_len]
/-- a new block, and its value -/
theorem alA_ok (ht : TbOk P tb) {rg : PT Value} {ρ : Operand → Value} {o : Oper} {ao : AO} {ak : AK} (h : alA tb rg o = some (ao, ak)) (hρ : OpdR ω rg ρ o.op.operands) : ∃ rm o', OR ω rm 0 ao o' ∧ (∀ w, (execOp ρ o).run P w = .ok (.value (ak.val w.heap.size)) { w with heap := w.heap.push o' }) ∧ ao.live ∧ ∀ ω' b r, ω' b = some (r, 0) → ω'.room b = rm → VR ω' (ak.val b) (ak.val r) := by
  have hptr : ∀ (rm : (Nat × Nat) × Nat) (ω' : Om) (b r : Nat), ω' b = some (r, 0) → ω'.room b = rm → VR ω' (AK.ptr.val b) (AK.ptr.val r) := fun rm ω' b r hb _ => by simpa [AK.val] using VR.ptr (o := 0) hb
  have hcl : ∀ {cs cs' : List Value} {e : TypeId} {k : Nat}, VRs ω cs cs' → OR ω ((k, e + 1), cs'.length) 0 (.cells cs (k, e + 1) 0) (.cells cs'.toArray e (0, 0)) := fun h => .cells (fun i v hv => by simpa using h.get hv) (fun _ => rfl) rfl (by simp) ⟨.inr rfl, fun _ => ⟨rfl, h.length.symm⟩⟩
  unfold alA at h
  unfold execOp
  split at h
  · rename_i e he
    rw [he] at hρ
    simp only [he]
    unfold alAlloc at h
    split at h
    · rename_i i hi
      split at h
      · rename_i z hz
        cases h
        have hzv : VR ω z z := ht.zeroV hi hz
        refine ⟨((0, e + 1), z.cells.toList.length), .cells z.cells e, ?_, fun w => ?_, Nat.zero_le _, hptr _⟩
        · exact hcl (e := e) (k := 0) hzv.cells
        · simp only [Instr.alloc, newVar, bind, Sem.run_bind' P, ht.zero hi hz w, Result.andThen, run_newRow]; rfl
      · cases h
    · cases h
  · rename_i e x he
    rw [he] at hρ
    simp only [he]
    unfold alBox at h
    split at h
    · rename_i v hv
      cases h
      have hx : VR ω v (ρ x) := hρ x (by simp [Op.operands]) v hv
      refine ⟨((0, e + 1), (ρ x).cells.toList.length), .cells (ρ x).cells e, ?_, fun w => ?_, Nat.zero_le _, hptr _⟩
      · exact hcl (e := e) (k := 0) hx.cells
      · simp only [Instr.box, newVar, bind, Sem.run_bind' P, Result.andThen, run_newRow]; rfl
    · cases h
  · rename_i t n ps he
    rw [he] at hρ
    simp only [he]
    unfold alRow at h
    split at h
    · rename_i i l hi hl
      split at h
      · rename_i e hu
        split at h
        · rename_i j hj
          split at h
          · rename_i z hz
            have hzv : VR ω z z := ht.zeroV hj hz
            have hp := partsA_R (ω := ω) (ρ := ρ) (l := ps.toList) (fun x hx v hv => hρ x (by simpa [Op.operands] using hx) v hv) hl
            cases hc : (Nat.ble (n * j.size) 1000000 && Nat.beq (len z.cells.toList) j.size && Nat.blt 0 j.size) with
            | false => rw [hc] at h; cases h
            | true =>
              rw [hc] at h
              simp only [Bool.and_eq_true, len_eq] at hc
              have h1 := Nat.le_of_ble_eq_true hc.1.1
              have h2 := Nat.eq_of_beq_eq_true hc.1.2
              have h3 : 0 < j.size := by simpa [Nat.blt_eq] using hc.2
              simp only [cond_true] at h
              split at h
              · rename_i cs hcs
                cases h
                have hsz : z.cells.size = j.size := by simpa using h2
                have e1 : ((Array.range (n * j.size)).map (z.cells[· % z.cells.size]!)).toList = rep z.cells.toList n := by
                  rw [← hsz]; exact rep_eq z.cells (by omega) n
                obtain ⟨y, q1, q2⟩ := fillA_VR (ω := ω) (place' := fun k => some (k * j.size, j.size)) (fun k x hk => hk) (l' := (ps.map fun (i, x) => (i, ρ x)).toList) (by simpa using hp) (a' := (Array.range (n * j.size)).map (z.cells[· % z.cells.size]!)) (by rw [e1]; exact rep_VR hzv.cells n) hcs
                refine ⟨((j.size, e + 1), y.toList.length), .cells y e, ?_, fun w => ?_, Nat.zero_le _, fun ω' b r hb hrm => ?_⟩
                · exact hcl (e := e) (k := j.size) q2
                · have hz0 : ¬ n * j.size = 0 ∨ n = 0 := by
                    by_cases hn : n = 0
                    · exact .inr hn
                    · exact .inl (Nat.mul_ne_zero hn (by omega))
                  have h4 := ht.und hi w
                  rw [hu] at h4
                  simp only [Instr.buildSlice, bind, Sem.run_bind' P, h4, ht.size hj w, Result.andThen]
                  rw [if_neg (by omega)]
                  rcases hz0 with hz0 | hz0
                  · simp only [pure, Sem.bind, Sem.run, Result.andThen, if_neg hz0, Sem.run_bind' P, ht.zero hj hz w, q1, run_newRow]; rfl
                  · subst hz0
                    have e2 : (Array.range (0 * j.size)).map (fun x => z.cells[x % z.cells.size]!) = (Array.range (0 * j.size)).map (fun x => (#[] : Array Value)[x % (#[] : Array Value).size]!) := by simp
                    rw [e2] at q1
                    simp only [pure, Sem.bind, Sem.run, Result.andThen, if_pos (Nat.zero_mul j.size), Sem.run_bind' P, q1, run_newRow]; rfl
                · have hy : y.size = n * j.size := by
                    have h7 := q2.length
                    have h8 := fillA_len hcs
                    rw [rep_len] at h8
                    have : z.cells.toList.length = j.size := h2
                    rw [this] at h8
                    have : y.toList.length = y.size := by simp
                    omega
                  have := VR.sl (o := 0) (n := n) hb (Nat.le_refl n) (by rw [hrm]; show 0 + n * j.size ≤ y.toList.length; rw [show y.toList.length = y.size by simp, hy]; omega)
                  simpa [AK.val] using this
              · cases h
          · cases h
        · cases h
      · cases h
    · cases h
  · rename_i t he
    simp only [he]
    cases h
    refine ⟨((0, 0), 0), .map #[] 0, .map 0 .nil, fun w => ?_, trivial, fun ω' b r hb _ => .map hb⟩
    simp [Instr.makeMap, newObj, bind, Sem.bind, Sem.run, pure, AK.val]
  · cases h
/-- as a thing done -/
noncomputable def mkA (ao : AO) (ak : AK) : M Nx := (nw ao).bd fun b => .ret (.val (ak.val b))
theorem sim_al (ht : TbOk P tb) {rg : PT Value} {ρ : Operand → Value} {o : Oper} {ao : AO} {ak : AK} (h : alA tb rg o = some (ao, ak)) (hρ : OpdR ω rg ρ o.op.operands) : Sim P H w0 ω (mkA ao ak) (execOp ρ o) NR := fun W w hw x W' hr => by
  obtain ⟨rm, o', h1, h2, h3, h4⟩ := alA_ok ht h hρ
  have := Sim.new (P := P) (H := H) (w0 := w0) (f := fun b => .ret (.val (ak.val b))) (k := fun r => .pure (Next.value (ak.val r))) (R := NR) h1 fun ω' hl r r' hr hrm => Sim.ret (.value (h4 ω' r r' hr hrm))
  obtain ⟨ω', y, w', g1, g2, g3, g4⟩ := this W w hw x W' hr
  refine ⟨ω', y, w', g1, ?_, g3, g4⟩
  rw [h2 w]
  simpa [Sem.run] using g2
end
end Go.Cev
namespace Go.Cev
open Go.RowKit
noncomputable section
def loadA (tb : PT TyI) (t : TypeId) (v : Value) : M Value := match v with
  | .pointer (some a) => (tyI tb t).bd fun i => ldV i a
  | _ => .no
def storeA (tb : PT TyI) (t : TypeId) (v x : Value) : M Unit := match v with
  | .pointer (some a) => (tyI tb t).bd fun i => stV i a x
  | _ => .no
/-- a bound that may be left away -/
def bndA (v : Option Value) (dflt top : Nat) : Option Nat := match v with
  | none => some dflt
  | some (.int _ (.ofNat k)) => cond (Nat.ble k top) (some k) none
  | some _ => none
/-- operands that may be left away -/
def evB (rg : PT Value) : Option Operand → Option (Option Value)
  | none => some none
  | some x => match evO rg x with
    | some v => some (some v)
    | none => none
def hiA (hi mx : Option Value) (n m : Nat) : Option Nat := match hi, mx with
  | none, some _ => none
  | _, _ => bndA hi n m
/-- how many cells an element of a row has -/
def pkS (a : Addr) : M Nat := fun W => match W.heap.get a.block with
  | some (.cells _ k _) => some (k.1, W)
  | _ => none
/-- a slice that has no room -/
def noRoom : Value := .slice (some ⟨0, 0, some 0⟩) 0 0
def sliceA (tb : PT TyI) (t : TypeId) (v : Value) (lo hi mx : Option Value) : M Value := (tyI tb t).bd fun i => match i.und, v with
  | .slice e, .slice a n c => (tyI tb e).bd fun j => (M.opt (bndA mx c c)).bd fun m => (M.opt (hiA hi mx n m)).bd fun h => (M.opt (bndA lo 0 h)).bd fun l =>
      (M.ok (Nat.ble h m)).bd fun _ => match a with
        | none => .ret (.slice none (h - l) (m - l))
        | some ⟨b, o, sp⟩ => match sp with
          | some x => .ret (.slice (some ⟨b, o, some x⟩) (h - l) (m - l))
          | none => cond (mx.isSome && Nat.beq m l) (.ret noRoom) ((pkS ⟨b, o, none⟩).bd fun k => (M.ok (Nat.beq k j.size)).bd fun _ => .ret (.slice (some (move ⟨b, o, none⟩ (l * j.size))) (h - l) (m - l)))
  | .string, .string s => match mx with
    | some _ => .no
    | none => (M.opt (bndA hi s.size s.size)).bd fun h => (M.opt (bndA lo 0 h)).bd fun l => .ret (.string (ofBl (((bl s).drop l).take (h - l))))
  | _, _ => .no
end
section
variable {P : Program} {H : Nat} {w0 : World} {ω : Om} {α β γ δ : Type} {tb : PT TyI}
theorem sim_load (ht : TbOk P tb) {t : TypeId} {v v' : Value} (h : VR ω v v') : Sim P H w0 ω (loadA tb t v) (Instr.loadAt t v') VR := by
  unfold loadA Instr.loadAt
  split
  · rename_i a
    have hv : ∃ a', v' = .pointer (some a') ∧ AR ω a a' := by cases h with | ptr hb => exact ⟨_, rfl, .ptr hb⟩
    obtain ⟨a', rfl, ha⟩ := hv
    refine Sim.ty ht fun i hi => ?_
    exact Sim.runR (x := a') (fun w => rfl) (Sim.ldV ht hi ha)
  · exact Sim.no
theorem sim_store (ht : TbOk P tb) {t : TypeId} {v v' x x' : Value} (h : VR ω v v') (hx : VR ω x x') : Sim P H w0 ω (storeA tb t v x) (Instr.storeAt t v' x') fun _ _ _ => True := by
  unfold storeA Instr.storeAt
  split
  · rename_i a
    have hv : ∃ a', v' = .pointer (some a') ∧ AR ω a a' := by cases h with | ptr hb => exact ⟨_, rfl, .ptr hb⟩
    obtain ⟨a', rfl, ha⟩ := hv
    refine Sim.ty ht fun i hi => ?_
    exact Sim.runR (x := a') (fun w => rfl) (Sim.stV ht hi ha hx)
  · exact Sim.no
/-- optional operands -/
inductive VRo (ω : Om) : Option Value → Option Value → Prop
  | none : VRo ω none none
  | some {v v' : Value} (h : VR ω v v') : VRo ω (some v) (some v')
theorem evB_R {rg : PT Value} {ρ : Operand → Value} {x : Option Operand} {v : Option Value} (hx : ∀ y, x = some y → ∀ v, evO rg y = some v → VR ω v (ρ y)) (h : evB rg x = some v) : VRo ω v (x.map ρ) := by
  cases x with
  | none => cases h; exact .none
  | some y =>
    simp only [evB] at h
    split at h
    · rename_i u hu; cases h; exact .some (hx y rfl u hu)
    · cases h
theorem bnd_run {v v' : Option Value} {d d' top top' k : Nat} {c : BoundsCode} (h : VRo ω v v') (hb : bndA v d top = some k) (ht : top ≤ top') : (v = none ∧ v' = none ∧ k = d) ∨ ∃ u u', v = some u ∧ v' = some u' ∧ k ≤ top ∧ ∀ (P : Program) (w : World), (Instr.sliceBound u' top' c).run P w = .ok k w := by
  cases h with
  | none => simp only [bndA] at hb; cases hb; exact .inl ⟨rfl, rfl, rfl⟩
  | some h =>
    unfold bndA at hb
    split at hb
    · rename_i he; cases he
    · rename_i kd m he
      cases he
      cases hc : Nat.ble m top with
      | false => rw [hc] at hb; cases hb
      | true =>
        rw [hc] at hb; cases hb
        have hc := Nat.le_of_ble_eq_true hc
        cases h
        refine .inr ⟨_, _, rfl, rfl, hc, fun P w => ?_⟩
        simp only [Instr.sliceBound, asIntOf, bind, Sem.run_bind' P, pure, Sem.run, Result.andThen]
        rw [if_pos ⟨Int.natCast_nonneg _, by show ((k : Int) ≤ _); omega⟩]; rfl
    · cases hb
theorem bounds_run {s : Bool} {len cap cap' m h l : Nat} {lo lo' hi hi' mx mx' : Option Value} (h1 : VRo ω lo lo') (h2 : VRo ω hi hi') (h3 : VRo ω mx mx') (hc : cap ≤ cap') (e1 : bndA mx cap cap = some m)
    (e2 : hiA hi mx len m = some h) (e3 : bndA lo 0 h = some l) : ∃ m', m ≤ m' ∧ (mx.isSome = true → m' = m) ∧ (mx = none → m' = cap') ∧ (∀ (P : Program) (w : World), (Instr.sliceBounds s len cap' lo' hi' mx').run P w = .ok (l, h, m') w) := by
  unfold Instr.sliceBounds
  rcases bnd_run (d' := 0) (c := if s then .slice3Acap else .slice3Alen) h3 e1 hc with ⟨rfl, rfl, rfl⟩ | ⟨u, u', rfl, rfl, hm, hr⟩
  · refine ⟨cap', hc, fun h => (by cases h), fun _ => rfl, fun P w => ?_⟩
    have e2' : bndA hi len m = some h := by cases hi <;> exact e2
    rcases bnd_run (d' := 0) (c := if s then .sliceAcap else .sliceAlen) h2 e2' hc with ⟨rfl, rfl, rfl⟩ | ⟨v, v', rfl, rfl, hh, hr2⟩
    · rcases bnd_run (d' := 0) (c := .sliceB) h1 e3 (Nat.le_refl _) with ⟨rfl, rfl, rfl⟩ | ⟨z, z', rfl, rfl, hl, hr3⟩
      · simp [bind, Sem.bind, Sem.run, pure]
      · simp only [bind, Sem.run_bind' P, pure, Sem.run, Result.andThen, Option.isSome_none, Bool.false_eq_true, if_false, hr3]
    · rcases bnd_run (d' := 0) (c := .sliceB) h1 e3 (Nat.le_refl _) with ⟨rfl, rfl, rfl⟩ | ⟨z, z', rfl, rfl, hl, hr3⟩
      · simp only [bind, Sem.run_bind' P, pure, Sem.run, Result.andThen, hr2]
      · simp only [bind, Sem.run_bind' P, pure, Sem.run, Result.andThen, hr2, Option.isSome_none, Bool.false_eq_true, if_false, hr3]
  · refine ⟨m, Nat.le_refl _, fun _ => rfl, fun h => (by cases h), fun P w => ?_⟩
    cases h2 with
    | none => cases e2
    | some h2 =>
      rcases bnd_run (d' := 0) (c := .slice3B) (.some h2) e2 (Nat.le_refl _) with ⟨q, _⟩ | ⟨v, v', q1, q2, hh, hr2⟩
      · cases q
      · cases q1; cases q2
        rcases bnd_run (d' := 0) (c := .slice3C) h1 e3 (Nat.le_refl _) with ⟨rfl, rfl, rfl⟩ | ⟨z, z', rfl, rfl, hl, hr3⟩
        · simp only [bind, Sem.run_bind' P, pure, Sem.run, Result.andThen, hr, hr2]
        · simp only [bind, Sem.run_bind' P, pure, Sem.run, Result.andThen, hr, hr2, Option.isSome_some, if_true, hr3]
theorem bnd_le {v : Option Value} {d top k : Nat} (h : bndA v d top = some k) (hd : d ≤ top) : k ≤ top := by
  unfold bndA at h
  split at h
  · cases h; exact hd
  · rename_i m
    cases hc : Nat.ble m top with
    | false => rw [hc] at h; cases h
    | true => rw [hc] at h; cases h; exact Nat.le_of_ble_eq_true hc
  · cases h
theorem Sim.peek {b r base : Nat} {o : Nat} {f : Nat → M α} {s : Sem β} {R : Om → α → β → Prop} (hb : ω b = some (r, base)) (h : Sim P H w0 ω (f (ω.room b).1.1) s R) : Sim P H w0 ω ((pkS ⟨b, o, none⟩).bd f) s R := fun W w hw x W' hr => by
  obtain ⟨k, W1, h1, h2⟩ := bd_some hr
  obtain ⟨ob, o', q1, q2, q3⟩ := hw.obj _ _ _ hb
  unfold pkS at h1
  simp only [q1] at h1
  cases q3 with
  | cells q3 qf qk qt qe => cases h1; rw [qk] at h; exact h W w hw x W' h2
  | _ => cases h1
theorem sim_slice (ht : TbOk P tb) {t : TypeId} {v v' : Value} {lo lo' hi hi' mx mx' : Option Value} (hv : VR ω v v') (h1 : VRo ω lo lo') (h2 : VRo ω hi hi') (h3 : VRo ω mx mx') :
    Sim P H w0 ω (sliceA tb t v lo hi mx) (Instr.sliceAt t v' lo' hi' mx') VR := by
  unfold sliceA
  refine Sim.ty ht fun i hi0 => ?_
  split
  · rename_i e a n c he
    refine Sim.ty ht fun j hj => Sim.opt fun m e1 => Sim.opt fun h e2 => Sim.opt fun l e3 => Sim.okL fun e4 => ?_
    have e4 := Nat.le_of_ble_eq_true e4
    have hlh : l ≤ h := bnd_le e3 (Nat.zero_le _)
    have hmc : m ≤ c := bnd_le e1 (Nat.le_refl _)
    have key : ∀ (a' : Option Addr) (c' : Nat) (u : Value), v' = .slice a' n c' → c ≤ c' → (∀ m', m ≤ m' → m' ≤ c' → (mx.isSome = true → m' = m) → (mx = none → m' = c') → VR ω u (.slice (if m' = l then a' else a'.map (·.add (l * j.size))) (h - l) (m' - l))) →
        Sim P H w0 ω (.ret u) (Instr.sliceAt t v' lo' hi' mx') VR := fun a' c' u hv' hcc hV => by
      obtain ⟨m', q1, q2, q3, q4⟩ := bounds_run (s := true) h1 h2 h3 hcc e1 e2 e3
      subst hv'
      refine Sim.optV (o := some _) fun u hu => ?_
      cases hu
      have hm' : m' ≤ c' := by
        cases hmx : mx with
        | none => rw [q3 hmx]; exact Nat.le_refl _
        | some x => rw [q2 (by rw [hmx]; rfl)]; omega
      refine ⟨_, fun w => ?_, hV m' q1 hm' q2 q3⟩
      have h5 := ht.und hi0 w
      rw [he] at h5
      simp only [Instr.sliceAt, Instr.slice, bind, Sem.run_bind' P, h5, Result.andThen, q4 P w, ht.size hj w]; rfl
    cases hv with
    | sl0 =>
      refine key none 0 _ rfl (Nat.le_refl _) fun m' hm hm0 q2 q3 => ?_
      have a1 : h - l = 0 := by omega
      have a2 : m - l = 0 := by omega
      have a3 : m' - l = 0 := by omega
      rw [a1, a2, a3]
      split <;> exact .sl0
    | @sl b r base o _ _ c' hb hc hrm =>
      simp only
      cases hcd : (mx.isSome && Nat.beq m l) with
      | true =>
        simp only [Bool.and_eq_true] at hcd
        have := Nat.eq_of_beq_eq_true hcd.2
        refine key _ _ _ rfl hc fun m' hm hm0 q2 q3 => ?_
        have := q2 hcd.1
        rw [if_pos (by omega), show h - l = 0 by omega, show m' - l = 0 by omega]
        exact .sle _ _ fun hh => by cases hh
      | false =>
        simp only [cond_false]
        refine Sim.peek hb (Sim.okL fun hk => ?_)
        have hk := Nat.eq_of_beq_eq_true hk
        refine key _ _ _ rfl hc fun m' hm hm0 q2 q3 => ?_
        by_cases hz : m' = l
        · rw [if_pos hz, show h - l = 0 by omega, show m - l = 0 by omega, show m' - l = 0 by omega]
          exact .sle _ _ fun _ => ⟨_, hb⟩
        · rw [if_neg hz]
          have hle : (o + l * j.size) + (m' - l) * (ω.room b).1.1 ≤ (ω.room b).2 := by
            rw [hk] at hrm ⊢
            have h6 : l * j.size + (m' - l) * j.size = m' * j.size := by rw [← Nat.add_mul]; congr 1; omega
            have h7 : m' * j.size ≤ c' * j.size := Nat.mul_le_mul_right _ hm0
            omega
          have h8 := VR.sl (n := h - l) (c := m - l) (c' := m' - l) hb (by omega) hle
          unfold move
          simp only [Option.map_some, Addr.add]
          split
          · rename_i h0; rw [h0] at h8 ⊢; exact h8
          · rw [show base + (o + l * j.size) = base + o + l * j.size by omega] at h8; exact h8
    | sle a a' hs =>
      obtain ⟨b, o, sp⟩ := a
      cases sp with
      | some x =>
        refine key _ _ _ rfl (Nat.le_refl _) fun m' hm hm0 q2 q3 => ?_
        rw [if_pos (by omega), show h - l = 0 by omega, show m - l = 0 by omega, show m' - l = 0 by omega]
        exact .sle _ _ fun hh => by cases hh
      | none =>
        obtain ⟨⟨r, base⟩, hb⟩ := hs rfl
        simp only
        cases hcd : (mx.isSome && Nat.beq m l) with
        | true =>
          refine key _ _ _ rfl (Nat.le_refl _) fun m' hm hm0 q2 q3 => ?_
          rw [if_pos (by omega), show h - l = 0 by omega, show m' - l = 0 by omega]
          exact .sle _ _ fun hh => by cases hh
        | false =>
          simp only [cond_false]
          refine Sim.peek hb (Sim.okL fun hk => ?_)
          refine key _ _ _ rfl (Nat.le_refl _) fun m' hm hm0 q2 q3 => ?_
          rw [if_pos (by omega), show h - l = 0 by omega, show m - l = 0 by omega, show m' - l = 0 by omega]
          exact .sle _ _ fun _ => ⟨_, hb⟩
  · rename_i s he
    cases hv
    split
    · exact Sim.no
    · refine Sim.opt fun h e2 => Sim.opt fun l e3 => ?_
      obtain ⟨m', q1, q2, q3, q4⟩ := bounds_run (s := false) (len := s.size) (cap := s.size) h1 h2 .none (Nat.le_refl _) (m := s.size) rfl (by cases hi <;> exact e2) e3
      have hlh : l ≤ h := bnd_le e3 (Nat.zero_le _)
      have hh : h ≤ s.size := bnd_le e2 (Nat.le_refl _)
      refine Sim.optV (o := some _) fun u hu => ?_
      cases hu
      have hx : mx' = none := by cases h3; rfl
      subst hx
      have e5 : ofBl (((bl s).drop l).take (h - l)) = s.extract l h := by
        apply ByteArray.ext
        rw [ByteArray.data_extract]
        apply Array.ext'
        simp [ofBl, bl, List.extract_eq_take_drop]
      refine ⟨.string (s.extract l h), fun w => ?_, by rw [e5]; exact .string _⟩
      have h5 := ht.und hi0 w
      rw [he] at h5
      simp only [Instr.sliceAt, Instr.slice, bind, Sem.run_bind' P, h5, Result.andThen, Option.isSome_none, Bool.false_eq_true, if_false, pure, Sem.run]
      rw [q4 P w]
  · exact Sim.no
end
end Go.Cev
namespace Go.Cev
open Go.RowKit
noncomputable section
/-! ### maps, whose keys are numbers, texts or truths -/
def scal : TypeDesc → Value → Bool
  | .int _, .int _ _ => true
  | .string, .string _ => true
  | .bool, .bool _ => true
  | _, _ => false
def sameA (d : TypeDesc) (k e : Value) : Option Bool := match d, k, e with
  | .int _, .int a m, .int b n => cond (kEq a b) (some (m == n)) none
  | .string, .string a, .string b => some (bEq a b)
  | .bool, .bool a, .bool b => some (a == b)
  | _, _, _ => none
def findA (d : TypeDesc) (k : Value) : List MapEntry → Nat → Option (Option (Nat × Value))
  | [], _ => some none
  | e :: es, i => match sameA d k e.key with
    | some true => some (some (i, e.val))
    | some false => findA d k es (i + 1)
    | none => none
def setE (k v : Value) : List MapEntry → Nat → List MapEntry
  | [], _ => []
  | e :: es, 0 => ⟨k, v, e.born⟩ :: es
  | e :: es, n + 1 => e :: setE k v es n
def delE : List MapEntry → Nat → List MapEntry
  | [], _ => []
  | _ :: es, 0 => es
  | e :: es, n + 1 => e :: delE es n
/-- a map's entries -/
def getM (v : Value) : M (List MapEntry × Nat) := match v with
  | .map none => .ret ([], 0)
  | .map (some r) => (gt r).bd fun o => match o with
    | .map es c => .ret (es, c)
    | _ => .no
  | _ => .no
def lookA (tb : PT TyI) (t : TypeId) (m k : Value) (ok : Bool) : M Value := (tyI tb t).bd fun i => match i.und with
  | .map kt et => (tyI tb kt).bd fun ki => (M.ok (scal ki.und k)).bd fun _ => (getM m).bd fun x => (M.opt (findA ki.und k x.1 0)).bd fun f => match f with
    | some (_, v) => .ret (cond ok (.tuple #[v, .bool true]) v)
    | none => (tyI tb et).bd fun ei => (M.opt ei.zero).bd fun z => .ret (cond ok (.tuple #[z, .bool false]) z)
  | _ => .no
def updA (tb : PT TyI) (t : TypeId) (m k v : Value) : M Unit := (tyI tb t).bd fun i => match i.und, m with
  | .map kt _, .map (some r) => (tyI tb kt).bd fun ki => (M.ok (scal ki.und k)).bd fun _ => (gt r).bd fun o => match o with
    | .map es c => (M.opt (findA ki.und k es 0)).bd fun f => match f with
      | some (n, _) => st r (.map (setE k v es n) c)
      | none => st r (.map (es ++ [⟨k, v, c⟩]) (c + 1))
    | _ => .no
  | _, _ => .no
def delA (tb : PT TyI) (t : TypeId) (m k : Value) : M Value := (tyI tb t).bd fun i => match i.und, m with
  | .map kt _, .map none => (tyI tb kt).bd fun ki => (M.ok (scal ki.und k)).bd fun _ => .ret (.tuple #[])
  | .map kt _, .map (some r) => (tyI tb kt).bd fun ki => (M.ok (scal ki.und k)).bd fun _ => (gt r).bd fun o => match o with
    | .map es c => (M.opt (findA ki.und k es 0)).bd fun f => match f with
      | some (n, _) => (st r (.map (delE es n) c)).bd fun _ => .ret (.tuple #[])
      | none => (st r (.map es c)).bd fun _ => .ret (.tuple #[])
    | _ => .no
  | _, _ => .no
end
section
variable {P : Program} {H : Nat} {w0 : World} {ω : Om} {α β γ δ : Type} {tb : PT TyI}
theorem checkKey_s {b : Bool} {n : Nat} {t : TypeId} {d : TypeDesc} {k : Value} {w : World} (h : (underlying t).run P w = .ok d w) (hs : scal d k = true) : (Instr.checkKey b (n + 1) t k).run P w = .ok () w := by
  unfold scal at hs
  split at hs <;> first | (cases hs; done) | (simp only [Instr.checkKey, bind, Sem.run_bind' P, h, Result.andThen]; rfl)
theorem scal_ok (ht : TbOk P tb) {t : TypeId} {i : TyI} (hi : tb.get t = some i) {k k' : Value} (h : scal i.und k = true) (hk : VR ω k k') : k' = k ∧ ∀ b w, (Instr.checkKey b 10000 t k).run P w = .ok () w := by
  refine ⟨?_, fun b w => checkKey_s (n := 9999) (ht.und hi w) h⟩
  unfold scal at h
  split at h <;> first | (cases h; done) | (cases hk; rfl)
theorem sameA_ok {d : TypeDesc} {k e e' : Value} {b : Bool} (h : sameA d k e = some b) (he : VR ω e e') : Instr.sameNow d k e' = some b ∧ e' = e ∧ (b = true → k = e) := by
  unfold sameA at h
  split at h
  · rename_i kd a m c n
    cases hc : kEq a c with
    | false => rw [hc] at h; cases h
    | true =>
      rw [hc] at h; cases h; cases he
      have := kEq_eq hc; subst this
      refine ⟨by simp [Instr.sameNow], rfl, fun hb => ?_⟩
      have : m = n := by simpa using hb
      rw [this]
  · cases h; cases he
    refine ⟨by simp only [Instr.sameNow, bEq_eq'], rfl, fun hb => ?_⟩
    rename_i x y
    have hx : lEq (bl x) (bl y) = true := hb
    rw [lEq_eq] at hx
    have : bl x = bl y := by simpa using hx
    congr 1
    apply ByteArray.ext
    exact Array.ext' this
  · cases h; cases he
    refine ⟨rfl, rfl, fun hb => ?_⟩
    have := eq_of_beq hb
    rw [this]
  · cases h
theorem ERs.length {es es' : List MapEntry} (h : ERs ω es es') : es.length = es'.length := by
  induction h with
  | nil => rfl
  | cons _ _ _ _ ih => simp [ih]
theorem findA_ok {d : TypeDesc} {k : Value} : ∀ {es es' : List MapEntry} {i : Nat} {r : Option (Nat × Value)}, ERs ω es es' → findA d k es i = some r →
    match r with
    | none => Instr.findNow d k es' i = some none
    | some (n, v) => ∃ v', Instr.findNow d k es' i = some (some (n, v')) ∧ VR ω v v' ∧ i ≤ n ∧ ∃ e, es'[n - i]? = some e ∧ e.key = k
  | _, _, i, r, .nil, h => by cases h; rfl
  | _, _, i, r, .cons (k := ek) (v := ev) born hk hv hs, h => by
    unfold findA at h
    cases hsm : sameA d k ek with
    | none => simp only [hsm] at h; cases h
    | some b =>
      obtain ⟨h1, h2, h3⟩ := sameA_ok hsm hk
      cases b with
      | true =>
        simp only [hsm] at h; cases h
        refine ⟨_, by simp only [Instr.findNow, h1], hv, Nat.le_refl _, _, by rw [Nat.sub_self]; rfl, ?_⟩
        rw [h2]; exact (h3 rfl).symm
      | false =>
        simp only [hsm] at h
        have ih := findA_ok hs h
        cases r with
        | none => simp only [Instr.findNow, h1]; exact ih
        | some x =>
          obtain ⟨n, v⟩ := x
          obtain ⟨v', g1, g2, g3, e, g4, g5⟩ := ih
          refine ⟨v', by simp only [Instr.findNow, h1]; exact g1, g2, by omega, e, ?_, g5⟩
          rw [show n - i = (n - (i + 1)) + 1 by omega]; exact g4
theorem ERs.set {es es' : List MapEntry} (h : ERs ω es es') {k k' v v' : Value} (hk : VR ω k k') (hv : VR ω v v') : ∀ (n : Nat), ERs ω (setE k v es n) (es'.modify n fun e => { e with key := k', val := v' }) := by
  induction h with
  | nil => intro n; simpa [setE] using ERs.nil
  | cons b h1 h2 h3 ih =>
    intro n
    cases n with
    | zero => simpa [setE] using ERs.cons b hk hv h3
    | succ n => simpa [setE] using ERs.cons b h1 h2 (ih n)
theorem ERs.del {es es' : List MapEntry} (h : ERs ω es es') : ∀ (n : Nat), ERs ω (delE es n) (es'.eraseIdx n) := by
  induction h with
  | nil => intro n; simpa [delE] using ERs.nil
  | cons b h1 h2 h3 ih =>
    intro n
    cases n with
    | zero => simpa [delE] using h3
    | succ n => simpa [delE] using ERs.cons b h1 h2 (ih n)
theorem ERs.app {es es' : List MapEntry} (h : ERs ω es es') {fs fs' : List MapEntry} (h' : ERs ω fs fs') : ERs ω (es ++ fs) (es' ++ fs') := by
  induction h with
  | nil => exact h'
  | cons b h1 h2 h3 ih => exact .cons b h1 h2 ih
/-- a map's object, read -/
theorem Sim.getMap {r r' : Nat} {f : AO → M α} {k : Obj → Sem β} {R : Om → α → β → Prop} (hr : ω r = some (r', 0)) (hf : ∀ o, (∀ es c, o ≠ .map es c) → f o = .no) (h : ∀ es es' c, ERs ω es es' → Sim P H w0 ω (f (.map es c)) (k (.map es'.toArray c)) R) : Sim P H w0 ω ((gt r).bd f) (Go.getObj r' >>= k) R := by
  refine Sim.getObj hr fun o o' ho => ?_
  show Sim P H w0 ω (f o) (Sem.bind (.pure o') k) R
  cases ho ((0, 0), 0) with
  | map c hes => exact h _ _ c hes
  | _ => rw [hf _ (fun es c e => by cases e)]; exact Sim.no
theorem M.assoc (m : M α) (f : α → M β) (g : β → M γ) : (m.bd f).bd g = m.bd fun a => (f a).bd g := by
  funext W
  simp only [M.bd]
  cases m W <;> rfl
theorem Sim.congrR {m : M α} {s s' : Sem β} {R : Om → α → β → Prop} (h : ∀ w, s.run P w = s'.run P w) (hs : Sim P H w0 ω m s' R) : Sim P H w0 ω m s R := fun W w hw a W' hr => by
  obtain ⟨ω', a', w', h1, h2, h3, h4⟩ := hs W w hw a W' hr
  exact ⟨ω', a', w', h1, by rw [h w]; exact h2, h3, h4⟩
theorem run_assoc (s : Sem α) (f : α → Sem β) (g : β → Sem γ) (w : World) : ((s >>= f) >>= g).run P w = (s >>= fun a => f a >>= g).run P w := by
  simp only [bind, Sem.run_bind' P]
  cases s.run P w <;> rfl
theorem sim_look (ht : TbOk P tb) {t : TypeId} {m m' k k' : Value} {ok : Bool} (hm : VR ω m m') (hk : VR ω k k') : Sim P H w0 ω (lookA tb t m k ok) (Instr.lookup t m' k' ok) VR := by
  unfold lookA Instr.lookup
  refine Sim.ty ht fun i hi => Sim.runR (ht.und hi) ?_
  split
  · rename_i kt et he
    rw [he]
    refine Sim.ty ht fun ki hki => Sim.okL fun hs => ?_
    obtain ⟨rfl, hck⟩ := scal_ok ht hki hs hk
    have hend : ∀ (es es' : List MapEntry) {ω' : Om}, Om.Le ω ω' → ERs ω' es es' → Sim P H w0 ω' ((M.opt (findA ki.und k' es 0)).bd fun f => match f with
        | some (_, v) => .ret (cond ok (.tuple #[v, .bool true]) v)
        | none => (tyI tb et).bd fun ei => (M.opt ei.zero).bd fun z => .ret (cond ok (.tuple #[z, .bool false]) z))
        (do
          Instr.checkKey es'.toArray.isEmpty 10000 kt k'
          let (v, ok') ← match ← Instr.findKey kt k' es' with
            | some (_, v) => pure (v, true)
            | none => pure (← zeroValue et, false)
          pure (if ok then .tuple #[v, .bool ok'] else v)) VR := fun es es' ω' hl hes => by
      refine Sim.opt fun f hf => Sim.runR (hck _) ?_
      have := findA_ok hes hf
      have hund := ht.und hki
      cases f with
      | none =>
        simp only at this
        refine Sim.ty ht fun ei hei => Sim.opt fun z hz => ?_
        refine Sim.runR (x := none) (fun w => by simp only [Instr.findKey, bind, Sem.run_bind' P, hund, Result.andThen, this]; rfl) ?_
        refine Sim.runR (ht.zero hei hz) ?_
        refine Sim.runR (x := (z, false)) (fun w => rfl) ?_
        cases ok with
        | true => exact Sim.ret (.tuple (cs := [z, .bool false]) (cs' := [z, .bool false]) (.cons (ht.zeroV hei hz) (.cons (.bool _) .nil)))
        | false => exact Sim.ret (ht.zeroV hei hz)
      | some x =>
        obtain ⟨n, v⟩ := x
        obtain ⟨v', g1, g2, _⟩ := this
        refine Sim.runR (x := some (n, v')) (fun w => by simp only [Instr.findKey, bind, Sem.run_bind' P, hund, Result.andThen, g1]; rfl) ?_
        refine Sim.runR (x := (v', true)) (fun w => rfl) ?_
        cases ok with
        | true => exact Sim.ret (.tuple (cs := [v, .bool true]) (cs' := [v', .bool true]) (.cons g2 (.cons (.bool _) .nil)))
        | false => exact Sim.ret g2
    unfold getM
    cases hm with
    | map0 =>
      refine Sim.runR (x := #[]) (fun w => rfl) ?_
      exact hend [] [] (Om.Le.refl ω) .nil
    | @map b r hb =>
      rw [M.assoc]
      refine Sim.getMap hb (fun o ho => ?_) fun es es' c hes => ?_
      · cases o <;> first | rfl | exact absurd rfl (ho _ _)
      · have := hend es es' (Om.Le.refl ω) hes
        exact this
    | _ => exact Sim.no
  · exact Sim.no
theorem sim_upd (ht : TbOk P tb) {t : TypeId} {m m' k k' v v' : Value} (hm : VR ω m m') (hk : VR ω k k') (hv : VR ω v v') : Sim P H w0 ω (updA tb t m k v) (Instr.mapUpdate t m' k' v') fun _ _ _ => True := by
  unfold updA Instr.mapUpdate
  refine Sim.ty ht fun i hi => Sim.runR (ht.und hi) ?_
  split
  · rename_i kt et r he
    rw [he]
    cases hm with
    | @map _ r' hb =>
    refine Sim.ty ht fun ki hki => Sim.okL fun hs => ?_
    obtain ⟨rfl, hck⟩ := scal_ok ht hki hs hk
    refine Sim.getMap hb (fun o ho => ?_) fun es es' c hes => ?_
    · cases o <;> first | rfl | exact absurd rfl (ho _ _)
    · refine Sim.runR (hck _) (Sim.opt fun f hf => ?_)
      have := findA_ok hes hf
      have hund := ht.und hki
      have fin : ∀ {o : AO} {o' : Obj}, (∀ rm, OR ω rm 0 o o') → Sim P H w0 ω (st r o) (setObj r' o') (fun _ _ _ => True) := fun {o o'} ho W w hw x W' hr => by
        have := Sim.setObj (P := P) (H := H) (w0 := w0) (f := fun u => M.ret u) (k := Sem.pure ()) (R := fun _ _ _ => True) hb ho (Sim.ret trivial)
        exact this W w hw x W' (by unfold M.bd; rw [hr]; rfl)
      cases f with
      | none =>
        simp only at this
        refine Sim.runR (x := none) (fun w => by simp only [Instr.findKey, bind, Sem.run_bind' P, hund, Result.andThen, this]; rfl) ?_
        refine fin fun rm => ?_
        have h2 := hes.app (fs := [⟨k', v, c⟩]) (fs' := [⟨k', v', c⟩]) (.cons c (hk) hv .nil)
        have := OR.map (rm := rm) (c + 1) h2
        simpa using this
      | some x =>
        obtain ⟨n, u⟩ := x
        obtain ⟨u', g1, g2, g3, e, g4, g5⟩ := this
        refine Sim.runR (x := some (n, u')) (fun w => by simp only [Instr.findKey, bind, Sem.run_bind' P, hund, Result.andThen, g1]; rfl) ?_
        have hkey : ((es'.toArray[n]?).map (·.key)).getD k' = k' := by
          have : es'.toArray[n]? = some e := by simpa using g4
          rw [this]; exact g5
        refine Sim.runR (x := k') (fun w => ?_) ?_
        · rw [hkey]
          have : Instr.sameBits 10000 k' k' = true := by
            unfold scal at hs
            split at hs <;> first | (cases hs; done) | simp [Instr.sameBits, beq_toListBytes]
          simp only [Instr.keyThatStays, this, if_true]; rfl
        · refine fin fun rm => ?_
          have h2 := OR.map (rm := rm) c (hes.set hk hv n)
          rw [show es'.toArray.modify n _ = (es'.modify n fun e => { e with key := k', val := v' }).toArray from by simp]; exact h2
  · exact Sim.no
theorem sim_del (ht : TbOk P tb) {t : TypeId} {m m' k k' : Value} {ts : Array TypeId} {ty : TypeId} (hts : ts[0]? = some t) (hm : VR ω m m') (hk : VR ω k k') : Sim P H w0 ω (delA tb t m k) (Builtin.delete_ ts ty #[m', k']) VR := by
  unfold delA Builtin.delete_
  refine Sim.ty ht fun i hi => ?_
  have e1 : (#[m', k'] : Array Value)[0]? = some m' := rfl
  have e2 : (#[m', k'] : Array Value)[1]? = some k' := rfl
  simp only [hts, e1, e2]
  refine Sim.runR (ht.und hi) ?_
  split
  · rename_i kt et he
    rw [he]
    cases hm
    refine Sim.ty ht fun ki hki => Sim.okL fun hs => ?_
    obtain ⟨rfl, hck⟩ := scal_ok ht hki hs hk
    exact Sim.runR (hck _) (Sim.ret (.tuple .nil))
  · rename_i kt et r he
    rw [he]
    cases hm with
    | @map _ r' hb =>
    refine Sim.ty ht fun ki hki => Sim.okL fun hs => ?_
    obtain ⟨rfl, hck⟩ := scal_ok ht hki hs hk
    refine Sim.getMap hb (fun o ho => ?_) fun es es' c hes => ?_
    · cases o <;> first | rfl | exact absurd rfl (ho _ _)
    · refine Sim.runR (hck _) (Sim.opt fun f hf => ?_)
      have := findA_ok hes hf
      have hund := ht.und hki
      cases f with
      | none =>
        simp only at this
        refine Sim.runR (x := none) (fun w => by simp only [Instr.findKey, bind, Sem.run_bind' P, hund, Result.andThen, this]; rfl) ?_
        refine Sim.setObj hb (fun _ => .map c hes) (Sim.ret (.tuple .nil))
      | some x =>
        obtain ⟨n, u⟩ := x
        obtain ⟨u', g1, g2, g3, e, g4, g5⟩ := this
        refine Sim.runR (x := some (n, u')) (fun w => by simp only [Instr.findKey, bind, Sem.run_bind' P, hund, Result.andThen, g1]; rfl) ?_
        have h2 := fun rm => OR.map (rm := rm) c (hes.del n)
        refine Sim.setObj hb (o := .map (delE es n) c) ?_ (Sim.ret (.tuple .nil))
        have h3 : es'.toArray.eraseIdxIfInBounds n = (es'.eraseIdx n).toArray := by
          simp [Array.eraseIdxIfInBounds, List.eraseIdx_toArray]
          intro hn; exact (List.eraseIdx_of_length_le hn).symm
        rw [h3]; exact h2
  · exact Sim.no
end
end Go.Cev
