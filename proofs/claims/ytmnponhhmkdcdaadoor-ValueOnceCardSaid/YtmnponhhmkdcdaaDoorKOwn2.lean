/- Slices of the function itself: literals, make; pieces. -/
import Derived.Test.YtmnponhhmkdcdaaDoorKOwn
import Derived.Test.YtmnponhhmkdcdaaDoorKMore
namespace Go.Kin
open Go.RowKit
section
variable {P : Program} {C : Ctx} {o : Oper} {s s' : Sy} {E : Env} {a : Act} {w : World}

/-- so often one behind the other -/
def repD {α : Type} (zs : List α) : Nat → List α
  | 0 => []
  | n + 1 => zs ++ repD zs n
def chunk {α : Type} (k : Nat) : Nat → List α → List (List α)
  | 0, _ => []
  | n + 1, l => l.take k :: chunk k n (l.drop k)
theorem repD_length {α : Type} (zs : List α) : ∀ n, (repD zs n).length = n * zs.length
  | 0 => by simp [repD]
  | n + 1 => by simp only [repD, List.length_append, repD_length zs n, Nat.add_mul]; omega
theorem RdL_rep {Z : Nat → Prop} {ds : List D} {vs : List Value} (h : RdL w Z ds vs) : ∀ n, RdL w Z (repD ds n) (repD vs n)
  | 0 => by simp [repD, RdL]
  | n + 1 => by simp only [repD]; exact RdL_append h (RdL_rep h n)
theorem repD_get {α : Type} (zs : List α) : ∀ (n j : Nat), j < n * zs.length → (repD zs n)[j]? = zs[j % zs.length]?
  | 0, j, h => by simp at h
  | n + 1, j, h => by
    simp only [repD]
    rcases Nat.lt_or_ge j zs.length with h1 | h1
    · rw [List.getElem?_append_left h1, Nat.mod_eq_of_lt h1]
    · rw [List.getElem?_append_right h1, repD_get zs n (j - zs.length) (by rw [Nat.add_mul] at h; omega), ← Nat.mod_eq_sub_mod h1]
theorem cells_rep (z : Array Value) (n : Nat) : ((Array.range (n * z.size)).map (z[· % z.size]!)).toList = repD z.toList n := by
  refine List.ext_getElem? fun j => ?_
  simp only [Array.toList_map, List.getElem?_map, Array.toList_range]
  rcases Nat.lt_or_ge j (n * z.size) with h | h
  · rw [List.getElem?_range h, repD_get z.toList n j (by simpa using h)]
    have hk : j % z.size < z.size := by
      rcases Nat.eq_zero_or_pos z.size with h0 | h0
      · rw [h0] at h; simp at h
      · exact Nat.mod_lt _ h0
    simp [hk]
  · rw [List.getElem?_eq_none (by simpa using h), List.getElem?_eq_none (by rw [repD_length]; simpa using h)]; rfl
theorem chunk_get {α : Type} (k : Nat) : ∀ (n : Nat) (l : List α) (i : Nat), i < n → (chunk k n l).getD i [] = (l.drop (i * k)).take k
  | 0, _, _, h => by omega
  | n + 1, l, 0, _ => by simp [chunk]
  | n + 1, l, i + 1, h => by
    simp only [chunk, List.getD_cons_succ]
    rw [chunk_get k n (l.drop k) i (by omega), List.drop_drop]
    congr 2
    rw [Nat.add_mul]; omega
theorem lfR_take : ∀ {ds : List D} {n : Nat}, lfR ds = true → lfR (ds.take n) = true
  | [], n, _ => by simp [lfR]
  | d :: ds, 0, _ => by simp [lfR]
  | d :: ds, n + 1, h => by simp only [lfR, Bool.and_eq_true, List.take_succ_cons] at h ⊢; exact ⟨h.1, lfR_take h.2⟩
theorem lfR_drop : ∀ {ds : List D} {n : Nat}, lfR ds = true → lfR (ds.drop n) = true
  | ds, 0, h => by simpa using h
  | [], n + 1, _ => by simp [lfR]
  | d :: ds, n + 1, h => by simp only [lfR, Bool.and_eq_true] at h; simpa using lfR_drop h.2

theorem core_buildSlice {t e len d : Nat} {parts : Array (Nat × Operand)} {ps : List (Nat × List D)} {i j : TyI} {out : List D} (ho : o.op = .buildSlice t len parts)
    (hi : TyOk P t i) (hu : i.u = .slice e) (hj : TyOk P e j) (hz : j.zero.length = j.size) (hlen : len * j.size ≤ 16777216) (htop : len ≤ topLen) (hp : partsD s.S parts.toList = some ps) (hf : fillS (fun i => some (i * j.size, j.size)) (repD j.zero len) ps = some out) (hol : out.length = len * j.size) (hlf : lfR out = true) :
    ∀ s' E a w, Ext o s s' → SatE C E s' a w → ∃ v' w', (execOp a.eval o).run P w = .ok (.value v') w' ∧ w.grownBy w' (oldB E none) ∧ (∀ g, v'.ownBlock = some g → w.heap.size ≤ g ∨ some g = oldB E none) ∧
      ∀ E' : Env, E'.Z = E.Z → E'.ω d = v' → OwnE E' w' d ⟨e, j.size, len, len, lstR (chunk j.size len out)⟩ := by
  intro s' E a w hext hE
  obtain ⟨h1, h2⟩ := partsD_den hext hE (l := parts.toList) (fun x hx => by
    simp only [ho, Op.operands]
    simp only [List.mem_toArray, List.mem_map]
    exact ⟨x, hx, rfl⟩) hp
  obtain ⟨hun, inf, z, h3, h4, _, h5, h6, _⟩ := hj
  have hzz : RdL w E.Z j.zero z.cells.toList := h6 w E.Z
  have hzs : z.cells.size = j.size := by rw [← Array.length_toList, RdL_length hzz, hz]
  have hcells : ∀ zero : Array Value, (len * j.size = 0 ∨ zero = z.cells) → ((Array.range (len * j.size)).map (zero[· % zero.size]!)).toList = repD z.cells.toList len := fun zero hzero => by
    rcases hzero with h0 | rfl
    · rw [h0]
      have : (repD z.cells.toList len).length = 0 := by rw [repD_length, Array.length_toList, hzs, h0]
      rw [List.eq_nil_of_length_eq_zero this]; simp
    · have := cells_rep z.cells len
      rw [hzs] at this
      rw [hzs]; exact this
  obtain ⟨vout, h7, h8⟩ := fillS_spec (place := fun i => some (i * j.size, j.size)) (vcells := ((repD z.cells.toList len)).toArray) (by simpa using RdL_rep hzz len) h1 h2 hf
  have hrun : ∀ zero : Array Value, (len * j.size = 0 ∨ zero = z.cells) → Instr.fill (fun i => some (i * j.size, j.size)) ((Array.range (len * j.size)).map (zero[· % zero.size]!)) (parts.toList.map fun (i, x) => (i, a.eval x)) = some vout := fun zero hzero => by
    rw [show (Array.range (len * j.size)).map (zero[· % zero.size]!) = (repD z.cells.toList len).toArray from Array.ext' (by rw [hcells zero hzero])]
    exact h7
  have hn : ¬ (16777216 < len * j.size) := by omega
  have hr : (execOp a.eval o).run P w = .ok (.value (.slice (some ⟨w.heap.size, 0, none⟩) len len)) (w.alloc (.cells vout e)) := by
    have hti := hi.1
    rw [hu] at hti
    by_cases h0 : len * j.size = 0
    · have := hrun #[] (.inl h0)
      simp [execOp, ho, Instr.buildSlice, run_underlying hti, sizeOf, typeInfo, h3, h4, h0] at this ⊢
      simp [this, run_newRow]
    · have := hrun z.cells (.inr rfl)
      simp [execOp, ho, Instr.buildSlice, run_underlying hti, sizeOf, typeInfo, zeroValue, h3, h4, h5, hn, h0] at this ⊢
      simp [this, run_newRow]
  have hvl : vout.toList.length = len * j.size := by rw [RdL_length h8, hol]
  have hmax : maxLen = 9223372036854775807 := rfl
  have htp : topLen = 140737488355328 := rfl
  refine ⟨_, _, hr, World.grownBy_alloc w _ none, fun g hg => .inl (by simp [Value.ownBlock] at hg; omega), fun E' hZ hkn => ?_⟩
  have hrow : ∀ q, q < len → lstR (chunk j.size len out) q = (out.drop (q * j.size)).take j.size := fun q hq => chunk_get j.size len out q hq
  refine ⟨⟨fun q hq => ?_, Nat.le_refl _, htop⟩, .inr ⟨w.heap.size, len, vout.toList, hkn, Nat.le_refl _, by omega, ?_, hvl, fun q hq => ?_⟩⟩
  · simp only at hq ⊢
    rw [hrow q hq]
    refine ⟨?_, lfR_take (lfR_drop hlf)⟩
    rw [List.length_take, List.length_drop, hol]
    have h9 : (q + 1) * j.size ≤ len * j.size := Nat.mul_le_mul_right _ hq
    rw [Nat.add_mul] at h9; omega
  · simp only [alloc_heap, if_true, Array.toArray_toList]
  · simp only at hq ⊢
    rw [hrow q hq, hZ]
    exact (RdL_take _ (RdL_drop _ h8)).mono ⟨fun _ h => h, fun b hb => by rw [alloc_heap, if_neg (by have := (hE.hp.z b hb).1; omega)]⟩

theorem ok_buildSlice {t e len d : Nat} {parts : Array (Nat × Operand)} {ps : List (Nat × List D)} {i j : TyI} {out : List D} (ho : o.op = .buildSlice t len parts) (hd : o.dst = some d) (ht : d < s.N)
    (hi : TyOk P t i) (hu : i.u = .slice e) (hj : TyOk P e j) (hz : j.zero.length = j.size) (hlen : len * j.size ≤ 16777216) (htop : len ≤ topLen) (hp : partsD s.S parts.toList = some ps) (hf : fillS (fun i => some (i * j.size, j.size)) (repD j.zero len) ps = some out) (hol : out.length = len * j.size) (hlf : lfR out = true) :
    Ok1 P C o s ⟨.own d, [], [(d, ⟨e, j.size, len, len, lstR (chunk j.size len out)⟩)], [d], []⟩ :=
  ok_own_of hd ht d none _ (by simp [ho]) (fun q hq => by cases hq) (core_buildSlice ho hi hu hj hz hlen htop hp hf hol hlf)

/-- a slice of the function's own, read -/
theorem OwnE.rd {E : Env} {w : World} {key : Nat} {e : Ow} (h : OwnE E w key e) : RdV w (fun b => E.Z b ∨ (E.ω key).ownBlock = some b) (.sl e.k e.n e.x e.row) (E.ω key) := by
  obtain ⟨⟨h0, h0', h0''⟩, h1⟩ := h
  have hk : Keeps w E.Z w (fun b => E.Z b ∨ (E.ω key).ownBlock = some b) := ⟨fun _ h => .inl h, fun _ _ => rfl⟩
  simp only [RdV]
  rcases h1 with ⟨h1, h2⟩ | ⟨g, cap, vs, h1, h2, h3, h4, h5, h6⟩
  · exact ⟨none, 0, by rw [h1]; congr 1; omega, h0', by omega, h0'', .inl h2⟩
  · refine ⟨some ⟨g, 0, none⟩, cap, by rw [h1], h0', h2, h0'', .inr ⟨g, 0, rfl, .inr (by rw [h1]; rfl), fun i hi => ⟨(h0 i hi).1, (h0 i hi).2, ?_⟩⟩⟩
    refine RdC_of_vals ((h6 i hi).mono hk) fun j hj => ?_
    have hjk : j < e.k := by rw [← (h0 i hi).1]; exact hj
    rw [List.getElem?_take_of_lt hjk, List.getElem?_drop]
    simp [World.cell?, h4]
/-- new memory that is read alone -/
theorem ok_data_of {d : Nat} (hd : o.dst = some d) (ht : d < s.N) (ow : Ow) (hnd : ∀ c, o.op ≠ .defer c)
    (h : ∀ s' E a w, Ext o s s' → SatE C E s' a w → ∃ v' w', (execOp a.eval o).run P w = .ok (.value v') w' ∧ w.grownBy w' (oldB E none) ∧ (∀ g, v'.ownBlock = some g → w.heap.size ≤ g ∨ some g = oldB E none) ∧
      ∀ E' : Env, E'.Z = E.Z → E'.ω d = v' → OwnE E' w' d ow) : Ok1 P C o s ⟨.d (.sl ow.k ow.n ow.x ow.row), [], [], [], []⟩ := by
  refine ⟨hnd, fun s' hx a w ⟨E, hE⟩ => ?_⟩
  obtain ⟨v', w', h1, h2, h3, h4⟩ := h s' E a w hx hE
  unfold gives
  rw [h1]
  have hb : Below w.heap.size w w' := ⟨h2.os, h2.tape, h2.output, h2.size, fun k hk => h2.block k hk (by simp [oldB])⟩
  have h5 := h4 ⟨E.β, fun _ => v', E.Z⟩ rfl rfl
  have hg := hE.grow hb (fun b => v'.ownBlock = some b) (fun b hb' => ⟨?_, .inr ?_⟩)
  · exact ⟨_, hg.slot (fun t e => by rw [hd] at e; cases e; rw [hx.n]; exact ht) (by simp only [DenV]; exact h5.rd)⟩
  · obtain ⟨_, h6⟩ := h5
    rcases h6 with ⟨h6, _⟩ | ⟨g, cap, vs, h6, _, _, h7, _⟩
    · simp only at h6; rw [h6] at hb'; simp [Value.ownBlock] at hb'
    · simp only at h6; rw [h6] at hb'; simp [Value.ownBlock] at hb'
      subst hb'
      exact (Array.getElem?_eq_some_iff.1 h7).1
  · rcases h3 b hb' with h | h
    · exact h
    · simp [oldB] at h
theorem ok_buildSliceD {t e len d : Nat} {parts : Array (Nat × Operand)} {ps : List (Nat × List D)} {i j : TyI} {out : List D} (ho : o.op = .buildSlice t len parts) (hd : o.dst = some d) (ht : d < s.N)
    (hi : TyOk P t i) (hu : i.u = .slice e) (hj : TyOk P e j) (hz : j.zero.length = j.size) (hlen : len * j.size ≤ 16777216) (htop : len ≤ topLen) (hp : partsD s.S parts.toList = some ps) (hf : fillS (fun i => some (i * j.size, j.size)) (repD j.zero len) ps = some out) (hol : out.length = len * j.size) (hlf : lfR out = true) :
    Ok1 P C o s ⟨.d (.sl j.size len len (lstR (chunk j.size len out))), [], [], [], []⟩ :=
  ok_data_of hd ht ⟨e, j.size, len, len, lstR (chunk j.size len out)⟩ (by simp [ho]) (core_buildSlice ho hi hu hj hz hlen htop hp hf hol hlf)

theorem ok_makeSlice {t e d : Nat} {x y : Operand} {kx ky : IntKind} {l c : Int} {i j : TyI} (ho : o.op = .makeSlice t x y) (hd : o.dst = some d) (ht : d < s.N) (hi : TyOk P t i) (hu : i.u = .slice e) (hj : TyOk P e j) (hz : j.zero.length = j.size) (hb0 : 0 < j.bytes) (hlf : lfR j.zero = true)
    (hx : evalO s.S x = some (.d (.v (.int kx l)))) (hy : evalO s.S y = some (.d (.v (.int ky c)))) (h0 : 0 ≤ l) (h1 : l ≤ c) (h2 : c * (j.bytes : Int) ≤ 140737488355328) :
    Ok1 P C o s ⟨.own d, [], [(d, ⟨e, j.size, l.toNat, l.toNat, fun _ => j.zero⟩)], [d], []⟩ := by
  refine ok_own_of hd ht d none _ (by simp [ho]) (fun q hq => by cases hq) fun s' E a w hext hE => ?_
  have hx' := hext.ev hE (x := x) (by simp [ho, Op.operands]) hx
  have hy' := hext.ev hE (x := y) (by simp [ho, Op.operands]) hy
  simp only [DenV, RdV] at hx' hy'
  obtain ⟨hun, inf, z, h3, h4, h4b, h5, h6, _⟩ := hj
  have hzz : RdL w E.Z j.zero z.cells.toList := h6 w E.Z
  have hzs : z.cells.size = j.size := by rw [← Array.length_toList, RdL_length hzz, hz]
  have hti := hi.1
  rw [hu] at hti
  have hc : c ≤ 140737488355328 := by
    have h7 : c * 1 ≤ c * (j.bytes : Int) := Int.mul_le_mul_of_nonneg_left (by omega) (by omega)
    omega
  have hr := run_make (P := P) w t e inf z hti h3 h5 kx ky l c h0 h1 (by rw [h4b, Int.mul_comm]; omega) (by omega)
  have hmax : maxLen = 9223372036854775807 := rfl
  have htp : topLen = 140737488355328 := rfl
  refine ⟨_, _, by simp only [execOp, ho, hx', hy', Sem.run_bind, hr, Result.andThen_ok]; rfl, World.grownBy_alloc w _ none, fun g hg => .inl (by simp [Value.ownBlock] at hg; omega), fun E' hZ hkn => ?_⟩
  have hcl : (madeCells z.cells (c.toNat * inf.size)).toList = repD z.cells.toList c.toNat := by
    have := cells_rep z.cells c.toNat
    rw [hzs] at this
    unfold madeCells
    rw [hzs, h4]; exact this
  refine ⟨⟨fun q hq => ⟨hz, hlf⟩, Nat.le_refl _, by simp only; omega⟩, .inr ⟨w.heap.size, c.toNat, repD z.cells.toList c.toNat, hkn, by simp only; omega, by omega, ?_, by rw [repD_length, Array.length_toList, hzs], fun q hq => ?_⟩⟩
  · simp only [alloc_heap, if_true]
    congr 2
    exact Array.ext' (by rw [hcl])
  · simp only at hq ⊢
    have hqc : q < c.toNat := by omega
    have : ((repD z.cells.toList c.toNat).drop (q * j.size)).take j.size = z.cells.toList := by
      refine List.ext_getElem? fun p => ?_
      rcases Nat.lt_or_ge p j.size with hp | hp
      · have h8 := lt_mul_of hqc hp
        rw [List.getElem?_take_of_lt hp, List.getElem?_drop, repD_get _ _ _ (by rw [Array.length_toList, hzs]; exact h8), Array.length_toList, hzs]
        congr 1
        rw [Nat.mul_comm, Nat.mul_add_mod, Nat.mod_eq_of_lt hp]
      · rw [List.getElem?_eq_none (by simp; omega), List.getElem?_eq_none (by simp [hzs]; omega)]
    rw [this]
    exact h6 _ _

theorem ok_append_nil {x y : Operand} {d : Nat} {t e : TypeId} {i j : TyI} {ts : Array TypeId} {m : Nat} {row2 : Nat → List D} (ho : o.op = .call { callee := .builtin .append, args := #[x, y], argTypes := ts }) (hts : ts = #[t, t]) (hd : o.dst = some d) (ht : d < s.N)
    (hi : TyOk P t i) (hu : i.u = .slice e) (hj : TyOk P e j) (hz : j.zero.length = j.size) (hs0 : 0 < j.size) (hb0 : 0 < j.bytes) (hx : evalO s.S x = some (.d (.v (.slice none 0 0))))
    (hsrc : ∀ s' E a w, Ext o s s' → SatE C E s' a w → SrcOf w E.Z (a.eval y) m j.size row2) (hb : (0 + m) * j.bytes ≤ 140737488355328) : Ok1 P C o s ⟨.own d, [], [(d, ⟨e, j.size, 0 + m, 0 + m, catR 0 (fun _ => []) row2⟩)], [d], []⟩ := by
  subst hts
  refine ok_own_of hd ht d none _ (by simp [ho]) (fun q hq => by cases hq) fun s' E a w hext hE => ?_
  have hx' := hext.ev hE (x := x) (by simp [ho, Op.operands, Call.operands]) hx
  simp only [DenV, RdV] at hx'
  obtain ⟨v', w', h1, h2, h3, h4⟩ := append_run (P := P) (E := E) (w := w) (ty := o.type) hi hu hj hz hs0 hb0 (v := .slice none 0 0) (ow := ⟨e, j.size, 0, 0, fun _ => []⟩) rfl rfl rfl (fun E' hZ kn hkn => ⟨⟨by simp, by simp, by simp⟩, .inl ⟨hkn, rfl⟩⟩) (hsrc s' E a w hext hE) (fun b hb => ⟨(hE.hp.z b hb).1, by simp [Value.ownBlock]⟩) hb
  refine ⟨v', w', ?_, h2, h3, fun E' hZ hkn => h4 E' hZ d hkn⟩
  simp [execOp, ho, resolve, invoke, builtin, hx', h1]

/-- what a followed slice yields to an append -/
def srcSV (O : FO) (k : Nat) : SV → Option (Nat × (Nat → List D))
  | .d (.sl k' m _ row) => if k' = k then some (m, row) else none
  | .own key => match O key with
    | some ow => if ow.k = k then some (ow.n, ow.row) else none
    | none => none
  | .d (.v (.slice none 0 0)) => some (0, fun _ => [])
  | _ => none
theorem srcSV_ok {y : Operand} {k m : Nat} {row2 : Nat → List D} (hm : y ∈ o.op.operands) {sv : SV} (hy : evalO s.S y = some sv) (h : srcSV s.O k sv = some (m, row2)) : ∀ s' E a w, Ext o s s' → SatE C E s' a w → SrcOf w E.Z (a.eval y) m k row2 := by
  unfold srcSV at h
  split at h
  · split at h
    · rename_i hk; subst hk; cases h; exact src_d hm hy
    · cases h
  · split at h
    · rename_i ow hO
      split at h
      · rename_i hk; subst hk; cases h; exact src_own hm hy hO
      · cases h
    · cases h
  · cases h; exact src_nil hm hy
  · cases h

/-! ### pieces -/
/-- a bound, if there is one -/
def bndO (S : FS) (d : Nat) : Option Operand → Option Int
  | none => some (d : Int)
  | some x => match evalO S x with
    | some (.d (.v (.int _ n))) => some n
    | _ => none
theorem bndO_den {d : Nat} (hext : Ext o s s') (hE : SatE C E s' a w) {x : Option Operand} (hm : ∀ y, x = some y → y ∈ o.op.operands) {n : Int} (h : bndO s.S d x = some n) :
    (x = none ∧ n = d) ∨ ∃ y k, x = some y ∧ a.eval y = .int k n := by
  cases x with
  | none => simp [bndO] at h; exact .inl ⟨rfl, h.symm⟩
  | some y =>
    simp only [bndO] at h
    split at h
    · rename_i k m hy
      cases h
      have := hext.ev hE (hm y rfl) hy
      simp only [DenV, RdV] at this
      exact .inr ⟨y, k, rfl, this⟩
    · cases h

theorem ok_slice_sl {t e : Nat} {x : Operand} {lo hi mx : Option Operand} {k n ex : Nat} {row : Nat → List D} {l h m : Int} {i j : TyI} (ho : o.op = .slice t x lo hi mx) (ht : ∀ t, o.dst = some t → t < s.N) (hti : TyOk P t i) (hu : i.u = .slice e) (hj : TyOk P e j) (hk : j.size = k)
    (hx : evalO s.S x = some (.d (.sl k n ex row))) (hl : bndO s.S 0 lo = some l) (hh : bndO s.S n hi = some h) (hm : bndO s.S ex mx = some m) (hmx : mx ≠ none → hi ≠ none) (h0 : 0 ≤ l) (h1 : l ≤ h) (h2 : h ≤ m) (h3 : m ≤ ex) :
    Ok1 P C o s ⟨.d (.sl k (h - l).toNat (m - l).toNat (offR l.toNat row)), [], [], [], []⟩ := by
  refine ok_val (by simp [ho]) ht fun s' E a w hext hE => ?_
  have hx' := hext.ev hE (x := x) (by simp [ho, Op.operands]) hx
  have hl' := bndO_den hext hE (x := lo) (fun y hy => by simp [ho, Op.operands, hy]) hl
  have hh' := bndO_den hext hE (x := hi) (fun y hy => by simp [ho, Op.operands, hy]) hh
  have hm' := bndO_den hext hE (x := mx) (fun y hy => by simp [ho, Op.operands, hy]) hm
  simp only [DenV, RdV] at hx'
  obtain ⟨ad, cp, e1, e2, e3, e4, e5⟩ := hx'
  have hpu := hti.1
  rw [hu] at hpu
  have hel : P.elem t = e := by simp [Program.elem, hpu]
  have hpu' : P.underlying t = some (.slice (P.elem t)) := by rw [hel]; exact hpu
  have hs := hj.size (w := w)
  -- the capacity behind
  have hrun : ∃ M : Nat, (m ≤ M) ∧ (M : Int) ≤ cp ∧ (execOp a.eval o).run P w = .ok (.value (.slice (if M = l.toNat then ad else ad.map (·.add (l.toNat * j.size))) (h.toNat - l.toNat) (M - l.toNat))) w := by
    rcases hm' with ⟨rfl, rfl⟩ | ⟨ym, km, rfl, em⟩
    · refine ⟨cp, by omega, Int.le_refl _, ?_⟩
      rcases hl' with ⟨rfl, rfl⟩ | ⟨yl, kl, rfl, el⟩ <;> rcases hh' with ⟨rfl, rfl⟩ | ⟨yh, kh, rfl, eh⟩
      · simp [execOp, ho, e1, run_sliceAt_slice w t _ _ _ _ hpu', run_slice_all w t ad n cp hpu', hel, hs, sliced]
      · simp [execOp, ho, e1, eh, run_sliceAt_slice w t _ _ _ _ hpu', run_slice_h w t ad n cp hpu' kh h (by omega) (by omega), hel, hs, sliced]
      · simp [execOp, ho, e1, el, run_sliceAt_slice w t _ _ _ _ hpu', run_slice_l w t ad n cp hpu' kl l (by omega) (by omega), hel, hs, sliced]
      · simp [execOp, ho, e1, el, eh, run_sliceAt_slice w t _ _ _ _ hpu', run_slice_lh w t ad n cp hpu' kl kh l h (by omega) (by omega) (by omega), hel, hs, sliced]
    · refine ⟨m.toNat, by omega, by omega, ?_⟩
      rcases hh' with ⟨rfl, rfl⟩ | ⟨yh, kh, rfl, eh⟩
      · exact absurd rfl (hmx (by simp))
      · rcases hl' with ⟨rfl, rfl⟩ | ⟨yl, kl, rfl, el⟩
        · simp [execOp, ho, e1, eh, em, run_sliceAt_slice w t _ _ _ _ hpu', run_slice_hm w t ad n cp hpu' kh km h m (by omega) (by omega) (by omega), hel, hs, sliced]
        · simp [execOp, ho, e1, el, eh, em, run_sliceAt_slice w t _ _ _ _ hpu', run_slice_lhm w t ad n cp hpu' kl kh km l h m (by omega) (by omega) (by omega) (by omega), hel, hs, sliced]
  obtain ⟨M, hM1, hM2, hrun⟩ := hrun
  refine ⟨_, hrun, ?_⟩
  simp only [DenV, RdV]
  refine ⟨_, _, by rw [show h.toNat - l.toNat = (h - l).toNat from by omega], by omega, by omega, by omega, ?_⟩
  rcases e5 with e5 | ⟨b, off, rfl, hz, e5⟩
  · exact .inl (by omega)
  · rcases Nat.eq_zero_or_pos (m - l).toNat with h9 | h9
    · exact .inl h9
    · right
      have hne : ¬ (M = l.toNat) := by omega
      refine ⟨b, off + l.toNat * k, ?_, hz, fun q hq => ?_⟩
      · rw [if_neg hne]; simp [addr_add, hk]
      · have := e5 (l.toNat + q) (by omega)
        refine ⟨this.1, this.2.1, ?_⟩
        have h10 := this.2.2
        rw [show off + (l.toNat + q) * k = off + l.toNat * k + q * k from by rw [Nat.add_mul]; omega] at h10
        exact h10

/-- a piece of a text -/
theorem ok_slice_str {t : Nat} {x : Operand} {lo hi : Option Operand} {str : ByteArray} {l h : Int} {i : TyI} (ho : o.op = .slice t x lo hi none) (ht : ∀ t, o.dst = some t → t < s.N) (hti : TyOk P t i) (hu : i.u = .string)
    (hx : evalO s.S x = some (.d (.v (.string str)))) (hl : bndO s.S 0 lo = some l) (hh : bndO s.S (bytes str).length hi = some h) (h0 : 0 ≤ l) (h1 : l ≤ h) (h2 : h ≤ (bytes str).length) :
    Ok1 P C o s ⟨.d (.v (.string (mkS (((bytes str).drop l.toNat).take (h - l).toNat)))), [], [], [], []⟩ := by
  refine ok_val (by simp [ho]) ht fun s' E a w hext hE => ?_
  have hx' := hext.ev hE (x := x) (by simp [ho, Op.operands]) hx
  have hl' := bndO_den hext hE (x := lo) (fun y hy => by simp [ho, Op.operands, hy]) hl
  have hh' := bndO_den hext hE (x := hi) (fun y hy => by simp [ho, Op.operands, hy]) hh
  simp only [DenV, RdV] at hx'
  have hpu := hti.1
  rw [hu] at hpu
  have hsz := size_bytes str
  have hex : str.extract l.toNat h.toNat = mkS (((bytes str).drop l.toNat).take (h - l).toNat) := by
    apply ByteArray.ext
    apply Array.ext'
    simp only [mkS, bytes, ByteArray.data_extract, Array.toList_extract, List.extract_eq_take_drop]
    congr 1; omega
  have hb : ∀ (k : IntKind) (i : Int) (y : Nat) (code : BoundsCode), 0 ≤ i → i ≤ y → (Instr.sliceBound (.int k i) y code).run P w = .ok i.toNat w := fun k i y code h0 h1 => run_sliceBound w k i y code h0 h1
  refine ⟨.string (str.extract l.toNat h.toNat), ?_, by rw [hex]; simp [DenV, RdV]⟩
  rcases hl' with ⟨rfl, rfl⟩ | ⟨yl, kl, rfl, el⟩ <;> rcases hh' with ⟨rfl, rfl⟩ | ⟨yh, kh, rfl, eh⟩
  · have hall : str.extract 0 (bytes str).length = str := by
      apply ByteArray.ext
      apply Array.ext'
      simp [bytes]
    simp [execOp, ho, hx', run_sliceAt_string w t _ _ _ _ hpu, Instr.slice, run_underlying hpu, Instr.sliceBounds, hall]
  · simp [execOp, ho, hx', eh, run_sliceAt_string w t _ _ _ _ hpu, Instr.slice, run_underlying hpu, Instr.sliceBounds, hsz, hb kh h _ _ (by omega) h2]
  · simp [execOp, ho, hx', el, run_sliceAt_string w t _ _ _ _ hpu, Instr.slice, run_underlying hpu, Instr.sliceBounds, hsz, hb kl l _ _ h0 (by omega)]
  · have e1 := hb kh h (bytes str).length .sliceAlen (by omega) h2
    have e2 := hb kl l h.toNat .sliceB h0 (by omega)
    simp [execOp, ho, hx', el, eh, run_sliceAt_string w t _ _ _ _ hpu, Instr.slice, run_underlying hpu, Instr.sliceBounds, hsz, e1, e2]
end
end Go.Kin
