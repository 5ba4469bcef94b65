/- Steps of a function body on data, and contracts of the functions of the seat, walked. -/
import Derived.Test.YtonchjamoblioaaGreatDoorKOst
set_option linter.unusedSimpArgs false
set_option linter.unusedVariables false
set_option linter.unusedSectionVars false
namespace Go.Kin
open Go.RowKit
/-! ### a slice of the function's own, cut to its first elements, its capacity too; what is appended to that is a new one -/
section
variable {P : Program} {C : Ctx} {o : Oper} {s s' : Sy} {E : Env} {a : Act} {w : World}
theorem ok_slice_ex {t e : Nat} {x yh ym : Operand} {key : Nat} {ow : Ow} {kh km : IntKind} {h m : Int} {i j : TyI} (ho : o.op = .slice t x none (some yh) (some ym)) (ht : ∀ t, o.dst = some t → t < s.N) (hti : TyOk P t i) (hu : i.u = .slice e) (hj : TyOk P e j)
    (hx : evalO s.S x = some (.own key)) (hO : s.O key = some ow) (hh : evalO s.S yh = some (.d (.v (.int kh h)))) (hm : evalO s.S ym = some (.d (.v (.int km m)))) (he : h = m) (h0 : 0 ≤ h) (h1 : h ≤ ow.n) (h2 : 0 < ow.n) :
    Ok1 P C o s ⟨.oa key 0 h.toNat 0, [], [], [], []⟩ := by
  subst he
  refine ok_val (by simp [ho]) ht fun s' E a w hext hE => ?_
  have hx' := hext.ev hE (x := x) (by simp [ho, Op.operands]) hx
  have eh := hext.ev hE (x := yh) (by simp [ho, Op.operands]) hh
  have em := hext.ev hE (x := ym) (by simp [ho, Op.operands]) hm
  simp only [DenV, RdV] at hx' eh em
  obtain ⟨⟨_, q2, _⟩, q3⟩ := hE.hp.own key ow (by rw [hext.o key (by rw [hO]; simp)]; exact hO)
  have hpu := hti.1
  rw [hu] at hpu
  have hel : P.elem t = e := by simp [Program.elem, hpu]
  have hpu' : P.underlying t = some (.slice (P.elem t)) := by rw [hel]; exact hpu
  have hs := hj.size (w := w)
  rcases q3 with ⟨_, q3⟩ | ⟨g, cap, vs, q3, q4, _⟩
  · omega
  · rw [q3] at hx'
    refine ⟨.slice (some ⟨g, 0, none⟩) h.toNat h.toNat, ?_, ?_⟩
    · simp [execOp, ho, hx', eh, em, run_sliceAt_slice w t _ _ _ _ hpu', run_slice_hm w t (some ⟨g, 0, none⟩) ow.n cap hpu' kh km h h (by omega) (by omega) (by omega), hel, hs, sliced, addr_add]
    · simp only [DenV]; exact ⟨g, by rw [q3]; rfl, fun h9 => by omega, fun _ => rfl⟩
theorem append_ex {t e : TypeId} {ty : TypeId} {i j : TyI} (hi : TyOk P t i) (hu : i.u = .slice e) (hj : TyOk P e j) (hz : j.zero.length = j.size) (hs0 : 0 < j.size) (hb0 : 0 < j.bytes) {ow : Ow} (he : ow.e = e) (hk : ow.k = j.size) {n g : Nat} (hnx : n ≤ ow.x)
    {key : Nat} (hown : OwnE E w key ow) (hg : (E.ω key).ownBlock = some g) {x : Value} {m : Nat} {row2 : Nat → List D} (hm0 : 0 < m) (hsrc : SrcOf w E.Z x m j.size row2) (hZ : ∀ b, E.Z b → b < w.heap.size) (hb : (n + m) * j.bytes ≤ 140737488355328) :
    ∃ v' w', (Builtin.append_ #[t, t] ty #[.slice (some ⟨g, 0, none⟩) n n, x]).run P w = .ok v' w' ∧ w.grownBy w' none ∧ (∀ g, v'.ownBlock = some g → w.heap.size ≤ g) ∧
      ∀ E' : Env, E'.Z = E.Z → ∀ kn, E'.ω kn = v' → OwnE E' w' kn ⟨e, j.size, n + m, n + m, catR n ow.row row2⟩ := by
  obtain ⟨h1, inf, z, h2, h3, h4, h5, h6, _⟩ := hj
  have ht : P.underlying t = some (.slice e) := hu ▸ hi.1
  have hzs : z.cells.size = j.size := by rw [← Array.length_toList, RdL_length (h6 w E.Z), hz]
  have hnm : n + m ≤ 140737488355328 := by
    have := Nat.le_mul_of_pos_right (n + m) hb0
    omega
  have htop : topLen = 140737488355328 := rfl
  have hml : maxLen = 9223372036854775807 := rfl
  obtain ⟨⟨o1, o2, o3⟩, o4⟩ := hown
  have hrows : ∀ q, q < n + m → (catR n ow.row row2 q).length = j.size ∧ lfR (catR n ow.row row2 q) = true := fun q hq => by
    unfold catR
    by_cases hqn : q < n
    · rw [if_pos hqn, ← hk]; exact o1 q (by omega)
    · rw [if_neg hqn]
      rcases hsrc with ⟨rfl, _⟩ | ⟨_, _, _, _, _, _, _, s6⟩
      · omega
      · have := s6 (q - n) (by omega); exact ⟨this.1, this.2.1⟩
  rcases hsrc with ⟨rfl, _⟩ | ⟨ad, cx, news, rfl, s2, s3, s4, s6⟩
  · omega
  · have hlst : ∀ (olds : List Value), olds.length = n * j.size → (∀ q, q < n → RdL w E.Z (ow.row q) ((olds.drop (q * j.size)).take j.size)) → ∀ (rest : List Value) q, q < n + m → RdL w E.Z (catR n ow.row row2 q) (((olds ++ news ++ rest).drop (q * j.size)).take j.size) := fun olds hl hr rest q hq => by
      unfold catR
      by_cases hqn : q < n
      · rw [if_pos hqn]
        have := hr q hqn
        have hle := lt_mul_of hqn hs0
        have e : ((olds ++ news ++ rest).drop (q * j.size)).take j.size = (olds.drop (q * j.size)).take j.size := by
          refine List.ext_getElem? fun p => ?_
          rcases Nat.lt_or_ge p j.size with h | h
          · have := lt_mul_of hqn h
            rw [List.getElem?_take_of_lt h, List.getElem?_take_of_lt h, List.getElem?_drop, List.getElem?_drop, List.append_assoc, List.getElem?_append_left (by omega)]
          · rw [List.getElem?_eq_none (by simp; omega), List.getElem?_eq_none (by simp; omega)]
        rw [e]; exact this
      · rw [if_neg hqn]
        have := (s6 (q - n) (by omega)).2.2
        have e : ((olds ++ news ++ rest).drop (q * j.size)).take j.size = (news.drop ((q - n) * j.size)).take j.size := by
          refine List.ext_getElem? fun p => ?_
          rcases Nat.lt_or_ge p j.size with h | h
          · have h7 := lt_mul_of (show q - n < m by omega) h
            have h8 : q * j.size = n * j.size + (q - n) * j.size := by rw [← Nat.add_mul]; congr 1; omega
            rw [List.getElem?_take_of_lt h, List.getElem?_take_of_lt h, List.getElem?_drop, List.getElem?_drop, List.append_assoc, List.getElem?_append_right (by omega), List.getElem?_append_left (by omega)]
            congr 1; omega
          · rw [List.getElem?_eq_none (by simp; omega), List.getElem?_eq_none (by simp; omega)]
        rw [e]; exact this
    have hgrow : ∀ (olds : List Value) (old : Nat), olds.length = n * j.size → (∀ q, q < n → RdL w E.Z (ow.row q) ((olds.drop (q * j.size)).take j.size)) → ∀ (E' : Env), E'.Z = E.Z → ∀ kn, E'.ω kn = .slice (some ⟨w.heap.size, 0, none⟩) (n + m) (grownCap w (n + m) old e) →
        OwnE E' (w.drew.alloc (.cells (olds.toArray ++ news.toArray ++ Builtin.zeroCells z.cells (grownCap w (n + m) old e - (n + m))) e)) kn ⟨e, j.size, n + m, n + m, catR n ow.row row2⟩ := fun olds old hl hr E' hEZ kn hkn => by
      have hge := grownCap_ge w (n + m) old e
      have hcm := grownCap_le_maxLen w (n + m) old e (by omega)
      refine ⟨⟨hrows, Nat.le_refl _, by simp; omega⟩, .inr ⟨w.heap.size, _, (olds ++ news ++ (Builtin.zeroCells z.cells (grownCap w (n + m) old e - (n + m))).toList), hkn, hge, hcm, ?_, ?_, fun q hq => ?_⟩⟩
      · have := _root_.Go.heap_alloc_new w.drew (.cells (olds.toArray ++ news.toArray ++ Builtin.zeroCells z.cells (grownCap w (n + m) old e - (n + m))) e)
        refine this.trans ?_
        congr 2
        apply Array.ext'
        simp
      · rw [List.length_append, List.length_append, hl, s2, Array.length_toList, size_zeroCells, hzs, ← Nat.add_mul, ← Nat.add_mul]
        congr 1; omega
      · rw [hEZ]
        refine RdL_congr (w := w) ⟨fun _ h => h, fun b hb => ?_⟩ (hlst olds hl hr _ q hq) rfl
        exact _root_.Go.heap_alloc_old w.drew _ (hZ b hb)
    have hgb : ∀ (obj : Obj) (row : Option Nat), w.grownBy (w.drew.alloc obj) row := fun obj row => ⟨rfl, rfl, rfl, by simp, fun k hk _ => _root_.Go.heap_alloc_old w.drew _ hk⟩
    rcases o4 with ⟨o4, o5⟩ | ⟨g', cap, vs, o4, o5, o6, o7, o8, o9⟩
    · rw [o4] at hg; cases hg
    · rw [o4] at hg
      simp [Value.ownBlock] at hg
      subst hg
      have hle : n * j.size ≤ vs.length := by rw [o8, ← hk]; exact Nat.mul_le_mul_right _ (by omega)
      have hol : (vs.take (n * j.size)).length = n * j.size := by rw [List.length_take]; omega
      have hor : ∀ q, q < n → RdL w E.Z (ow.row q) (((vs.take (n * j.size)).drop (q * j.size)).take j.size) := fun q hq => by
        rw [take_drop_row hq, ← hk]; exact o9 q (by omega)
      have hcell : ∀ (p : Nat) (u : Value), (vs.take (n * j.size))[p]? = some u → w.cell? ((⟨g', 0, none⟩ : Addr).add p) = some u := fun p u hu => by
        have hp : p < n * j.size := by rw [← hol]; exact (List.getElem?_eq_some_iff.1 hu).1
        rw [List.getElem?_take_of_lt hp] at hu
        rw [addr_add]
        simp [World.cell?, o7, hu]
      have hr := run_append_grow (P := P) w t ty e inf z ht h2 h5 ⟨g', 0, none⟩ n n (vs.take (n * j.size)) (by rw [h3]; exact hol) hcell ad m cx news (by rw [h3]; exact s2) s3 (by omega) (by omega) (growslice_fits (by omega) (by rw [h4]; exact hb))
      exact ⟨_, _, hr, hgb _ _, fun g' hg => by simp [Value.ownBlock] at hg; omega, fun E' hEZ kn hkn => hgrow _ n hol hor E' hEZ kn hkn⟩
theorem ok_append_ex {x y : Operand} {d key n f : Nat} {ow : Ow} {t e : TypeId} {i j : TyI} {ts : Array TypeId} {m : Nat} {row2 : Nat → List D} (ho : o.op = .call { callee := .builtin .append, args := #[x, y], argTypes := ts }) (hts : ts = #[t, t]) (hd : o.dst = some d) (ht : d < s.N)
    (hi : TyOk P t i) (hu : i.u = .slice e) (hj : TyOk P e j) (hz : j.zero.length = j.size) (hs0 : 0 < j.size) (hb0 : 0 < j.bytes) (hx : evalO s.S x = some (.oa key 0 n f)) (hO : s.O key = some ow) (he : ow.e = e) (hk : ow.k = j.size) (hnx : n ≤ ow.x) (hm0 : 0 < m)
    (hsrc : ∀ s' E a w, Ext o s s' → SatE C E s' a w → SrcOf w E.Z (a.eval y) m j.size row2) (hb : (n + m) * j.bytes ≤ 140737488355328) : Ok1 P C o s ⟨.own d, [], [(d, ⟨e, j.size, n + m, n + m, catR n ow.row row2⟩)], [d], []⟩ := by
  subst hts
  refine ok_own_of hd ht d none _ (by simp [ho]) (fun q hq => by cases hq) fun s' E a w hext hE => ?_
  have hx' := hext.ev hE (x := x) (by simp [ho, Op.operands, Call.operands]) hx
  simp only [DenV] at hx'
  obtain ⟨g, hg, _, hv⟩ := hx'
  have hv := hv trivial
  have hO' : s'.O key = some ow := by rw [hext.o key (by rw [hO]; simp)]; exact hO
  have hw := hE.hp.own key ow hO'
  obtain ⟨v', w', h1, h2, h3, h4⟩ := append_ex (P := P) (E := E) (w := w) (ty := o.type) hi hu hj hz hs0 hb0 he hk hnx hw hg hm0 (hsrc s' E a w hext hE) (fun b hb => (hE.hp.z b hb).1) hb
  refine ⟨v', w', ?_, h2, fun g hg => .inl (h3 g hg), fun E' hZ hkn => h4 E' hZ d hkn⟩
  simp [execOp, ho, resolve, invoke, builtin, hv, h1]
end
end Go.Kin
namespace Go.Kin
open Go.RowKit
/-! ### a struct literal of which some parts are slices of the function's own -/
def setManyW : List SV → Nat → List SV → List SV
  | cs, _, [] => cs
  | cs, off, d :: r => setManyW (cs.set off d) (off + 1) r
def fillW (place : Nat → Option (Nat × Nat)) : List SV → List (Nat × List SV) → Option (List SV)
  | cells, [] => some cells
  | cells, (i, ds) :: r => match place i with
    | some (off, size) => if ds.length = size ∧ off + ds.length ≤ cells.length then fillW place (setManyW cells off ds) r else none
    | none => none
def partW (O : FO) : SV → Option (List SV)
  | .own key => match O key with | some _ => some [.own key] | none => none
  | sv => match partD sv with | some ds => some (ds.map SV.d) | none => none
def partsW (S : FS) (O : FO) : List (Nat × Operand) → Option (List (Nat × List SV))
  | [] => some []
  | (i, x) :: r => match evalO S x with
    | some sv => match partW O sv, partsW S O r with
      | some ds, some l => some ((i, ds) :: l)
      | _, _ => none
    | none => none
section
variable {P : Program} {C : Ctx} {o : Oper} {s s' : Sy} {E : Env} {a : Act} {w : World}
theorem DenL_len : ∀ {svs : List SV} {vs : List Value}, DenL E w svs vs → svs.length = vs.length
  | [], vs, h => by simp only [DenL] at h; subst h; rfl
  | sv :: r, vs, h => by
    simp only [DenL] at h
    obtain ⟨v, vs', rfl, _, h2⟩ := h
    simp [DenL_len h2]
theorem DenL_set {d : SV} {v : Value} (hv : DenV E w d v) : ∀ {cs : List SV} {vs : List Value} {i : Nat}, DenL E w cs vs → DenL E w (cs.set i d) (vs.set i v)
  | [], vs, i, h => by simp only [DenL] at h; subst h; simp [DenL]
  | c :: cs, vs, i, h => by
    simp only [DenL] at h
    obtain ⟨v', vs', rfl, h1, h2⟩ := h
    cases i with
    | zero => simp only [List.set_cons_zero, DenL]; exact ⟨v, vs', rfl, hv, h2⟩
    | succ i => simp only [List.set_cons_succ, DenL]; exact ⟨v', _, rfl, h1, DenL_set hv h2⟩
theorem DenL_setMany : ∀ {ds cs : List SV} {us vs : List Value} {off : Nat}, DenL E w cs vs → DenL E w ds us → DenL E w (setManyW cs off ds) (setManyV vs off us)
  | [], cs, us, vs, off, h, h' => by simp only [DenL] at h'; subst h'; exact h
  | d :: ds, cs, us, vs, off, h, h' => by
    simp only [DenL] at h'
    obtain ⟨v', vs', rfl, h1, h2⟩ := h'
    simp only [setManyW, setManyV]
    exact DenL_setMany (DenL_set h1 h) h2
theorem DenLW : ∀ {ds : List D} {vs : List Value}, RdL w E.Z ds vs → DenL E w (ds.map SV.d) vs
  | [], vs, h => by simp only [RdL] at h; subst h; simp [DenL]
  | d :: ds, vs, h => by
    simp only [RdL] at h
    obtain ⟨v, vs', rfl, h1, h2⟩ := h
    simp only [List.map_cons, DenL]
    exact ⟨v, vs', rfl, h1, DenLW h2⟩
theorem partW_den (hE : SatE C E s a w) {sv : SV} {ds : List SV} (h : partW s.O sv = some ds) {v : Value} (hv : DenV E w sv v) : DenL E w ds v.cells.toList := by
  unfold partW at h
  split at h
  · rename_i key
    split at h
    · rename_i ow hO
      cases h
      simp only [DenV] at hv
      subst hv
      have hc : (E.ω key).cells = #[E.ω key] := by
        obtain ⟨_, h3⟩ := hE.hp.own key ow hO
        rcases h3 with ⟨h3, _⟩ | ⟨g, cap, vs, h3, _⟩ <;> rw [h3] <;> rfl
      rw [hc]
      simp only [DenL, DenV]
      exact ⟨_, [], rfl, rfl, rfl⟩
    · cases h
  · split at h
    · rename_i ds' hd
      cases h
      exact DenLW (partD_den hd hv)
    · cases h
theorem fillW_spec {place : Nat → Option (Nat × Nat)} : ∀ {parts : List (Nat × List SV)} {vparts : List (Nat × Value)} {cells : List SV} {vcells : Array Value} {out : List SV}, DenL E w cells vcells.toList →
    parts.map (·.1) = vparts.map (·.1) → (∀ (j : Nat) (p : Nat × List SV) (vp : Nat × Value), parts[j]? = some p → vparts[j]? = some vp → DenL E w p.2 vp.2.cells.toList) → fillW place cells parts = some out →
    ∃ vout, Instr.fill place vcells vparts = some vout ∧ DenL E w out vout.toList
  | [], vparts, cells, vcells, out, hc, hm, _, h => by
    cases vparts with
    | cons => simp at hm
    | nil => simp [fillW] at h; subst h; exact ⟨vcells, rfl, hc⟩
  | (i, ds) :: r, vparts, cells, vcells, out, hc, hm, hp, h => by
    cases vparts with
    | nil => simp at hm
    | cons vp vr =>
      obtain ⟨i', v⟩ := vp
      simp only [List.map_cons, List.cons.injEq] at hm
      obtain ⟨rfl, hm⟩ := hm
      simp only [fillW] at h
      cases hpl : place i with
      | none => simp [hpl] at h
      | some os =>
        obtain ⟨off, size⟩ := os
        simp only [hpl] at h
        split at h
        · rename_i hcond
          have h0 := hp 0 (i, ds) (i, v) rfl rfl
          have hl0 := DenL_len h0
          have hlc := DenL_len hc
          simp only [Array.length_toList] at hl0 hlc
          have hnot : ¬ (v.cells.size ≠ size || off + v.cells.size > vcells.size) = true := by
            simp; constructor
            · rw [← hl0]; exact hcond.1
            · rw [← hl0, ← hlc]; exact hcond.2
          obtain ⟨vout, h3, h4⟩ := fillW_spec (vparts := vr) (vcells := v.cells.zipIdx.foldl (fun cs (c, j) => cs.setIfInBounds (off + j) c) vcells) (out := out)
            (by
              have := foldl_set off v.cells.toList 0 vcells
              have e2 : v.cells.zipIdx.foldl (fun cs (c, j) => cs.setIfInBounds (off + j) c) vcells = (v.cells.toList.zipIdx 0).foldl (fun cs (c, j) => cs.setIfInBounds (off + j) c) vcells := by
                rw [← Array.foldl_toList]; simp
              rw [e2, this]
              exact DenL_setMany hc h0) hm (fun j p vp hj hvj => hp (j + 1) p vp (by simpa using hj) (by simpa using hvj)) h
          refine ⟨vout, ?_, h4⟩
          simp only [Instr.fill, hpl]
          rw [if_neg hnot]
          exact h3
        · cases h
theorem partsW_den (hext : Ext o s s') (hE : SatE C E s' a w) : ∀ {l : List (Nat × Operand)} {ps : List (Nat × List SV)}, (∀ x ∈ l, x.2 ∈ o.op.operands) → partsW s.S s.O l = some ps →
    ps.map (·.1) = (l.map fun (i, x) => (i, a.eval x)).map (·.1) ∧ ∀ (j : Nat) (p : Nat × List SV) (vp : Nat × Value), ps[j]? = some p → (l.map fun (i, x) => (i, a.eval x))[j]? = some vp → DenL E w p.2 vp.2.cells.toList
  | [], ps, _, h => by simp [partsW] at h; subst h; simp
  | (i, x) :: r, ps, hm, h => by
    simp only [partsW] at h
    cases hx : evalO s.S x with
    | none => simp [hx] at h
    | some sv =>
      simp only [hx] at h
      cases hp : partW s.O sv with
      | none => simp [hp] at h
      | some ds =>
        cases hr : partsW s.S s.O r with
        | none => simp [hp, hr] at h
        | some l =>
          simp [hp, hr] at h
          subst h
          obtain ⟨h1, h2⟩ := partsW_den hext hE (fun y hy => hm y (by simp [hy])) hr
          have hp' : partW s'.O sv = some ds := by
            unfold partW at hp ⊢
            split at hp
            · rename_i key
              split at hp
              · rename_i ow hO
                rw [hext.o key (by rw [hO]; simp), hO]; exact hp
              · cases hp
            · exact hp
          refine ⟨by simpa using h1, fun j p vp hj hvj => ?_⟩
          cases j with
          | zero =>
            simp at hj hvj
            subst hj; subst hvj
            exact partW_den hE hp' (hext.ev hE (hm (i, x) (by simp)) hx)
          | succ j => exact h2 j p vp (by simpa using hj) (by simpa using hvj)
theorem ok_buildW {te : TE} {t : TypeId} {parts : Array (Nat × Operand)} {ps : List (Nat × List SV)} {fs : Array Field} {i : TyI} {pl : List (Nat × Nat)} {out : List SV} (hte : TEok P te) (ho : o.op = .build t parts) (ht : ∀ t, o.dst = some t → t < s.N)
    (hi : klook t te = some i) (hu : i.u = .struct fs) (hpl : placesOf te fs.toList = some pl) (hp : partsW s.S s.O parts.toList = some ps) (hf : fillW (fun j => pl[j]?) (i.zero.map SV.d) ps = some out) : Ok1 P C o s ⟨.sg out, [], [], [], []⟩ := by
  refine ok_val (by simp [ho]) ht fun s' E a w hext hE => ?_
  obtain ⟨h1, h2⟩ := partsW_den hext hE (l := parts.toList) (fun x hx => by
    simp only [ho, Op.operands]
    simp only [List.mem_toArray, List.mem_map]
    exact ⟨x, hx, rfl⟩) hp
  obtain ⟨hun, inf, z, h3, h4, _, h5, h6⟩ := hte _ _ hi
  have hz : DenL E w (i.zero.map SV.d) z.cells.toList := DenLW (h6.1 w E.Z)
  obtain ⟨vout, h7, h8⟩ := fillW_spec hz h1 h2 hf
  have hb : P.built t (parts.map fun (i, x) => (i, a.eval x)).toList = some vout := by
    unfold Program.built
    rw [hun, hu]
    simp only [h3, h5, placesOf_spec hte hpl]
    simpa using h7
  refine ⟨.agg vout, by simp [execOp, ho, run_build w t _ vout hb], ?_⟩
  simp only [DenV]
  exact ⟨vout.toList, by simp, h8⟩
theorem ok_store_sg {t T : TypeId} {x y : Operand} {key off : Nat} {cs svs : List SV} {i : TyI} (ho : o.op = .store t x y) (hd : o.dst = none) (hx : evalO s.S x = some (.lp key off)) (hy : evalO s.S y = some (.sg svs)) (hL : s.L key = some (T, cs)) (hi : TyOk P t i)
    (hown : ownsOk s.O svs = true) (hleaf : svs.all leafSV = true) (hsz : svs.length = i.size) (hl : off + svs.length ≤ cs.length) : Ok1 P C o s ⟨.junk, [(key, T, setCs cs off svs)], [], [], []⟩ := by
  refine ⟨by simp [ho], fun s' hext a w ⟨E, hE⟩ => ?_⟩
  have hx' := hext.ev hE (x := x) (by simp [ho, Op.operands]) hx
  have hy' := hext.ev hE (x := y) (by simp [ho, Op.operands]) hy
  simp only [DenV] at hx' hy'
  obtain ⟨us, hy1, hy2⟩ := hy'
  have hcs : DenL E w svs (a.eval y).cells.toList := by rw [hy1]; simpa [Value.cells] using hy2
  have hL' : s'.L key = some (T, cs) := by rw [hext.l key (by rw [hL]; simp)]; exact hL
  have hlen := DenL_length hcs
  have hown2 : ownsOk s'.O svs = true := by
    have : ∀ l : List SV, ownsOk s.O l = true → ownsOk s'.O l = true := by
      intro l
      induction l with
      | nil => intro _; rfl
      | cons z r ih =>
        intro h
        cases z with
        | own k =>
          simp only [ownsOk, Bool.and_eq_true] at h ⊢
          obtain ⟨e, he⟩ := Option.isSome_iff_exists.1 h.1
          exact ⟨by rw [hext.o k (by rw [he]; simp), he]; rfl, ih h.2⟩
        | _ => simp only [ownsOk] at h ⊢; exact ih h
    exact this svs hown
  have hone := den_one hE hleaf hown2 hcs
  obtain ⟨w', hr, hS⟩ := run_stores (P := P) (off := off) svs (a.eval y).cells.toList 0 cs s' w hE hL' (by omega) hcs (fun _ _ h => h) (fun w' hw' sv v hh => DenV.mono (E' := E) ⟨fun _ h => h, hw'⟩ rfl rfl hh) hone
  have hsz' : (a.eval y).cells.size = i.size := by rw [← Array.length_toList, hlen, hsz]
  have hrun : (execOp a.eval o).run P w = .ok .skip w' := by
    simp [execOp, ho, hx', Instr.storeAt, Instr.sureAddr, storeVar, hi.size, hsz', hr]
  unfold gives
  rw [hrun, hd]
  refine ⟨E, ?_⟩
  have e1 : apply none ⟨.junk, [(key, T, setCs cs off svs)], [], [], []⟩ s' = { s' with L := fun k => if k = key then some (T, setCs cs (off + 0) svs) else s'.L k } := by
    unfold apply
    congr 1
    · funext t; cases s'.S t <;> simp [kill_nil]
    · funext k; by_cases hk : k = key <;> simp [klook, hk, killE_nil]
  rw [e1]; exact hS
end
end Go.Kin
