/- Steps of a function body on data, and contracts of the functions of the seat, walked. -/
import Derived.Test.YtgnhhjojiipmgaaGreatDoorKAttr
import Derived.ProofKit
import Derived.SizedLaws
set_option linter.unusedSimpArgs false
set_option linter.unusedVariables false
set_option linter.unusedSectionVars false
namespace Go.Kin
open Go.RowKit
/-! ### what a row's reading says, as data -/
def okFs (te : TE) (rec : TypeId → Bool) : Nat → List Field → Nat → Bool
  | off, [], n => off == n
  | off, f :: r, n => f.offset == off && rec f.type && (match klook f.type te with | some j => okFs te rec (off + j.size) r n | none => false)
/-- a type, whose parts are among some types -/
def okOne (te : TE) (ts : List TypeId) (t : TypeId) : Bool := match klook t te with
    | some i => match i.u with
      | .bool => true
      | .int _ => true
      | .string => true
      | .slice e => (match klook e te with | some j => j.size != 0 && j.bytes != 0 && ts.contains e | none => false)
      | .struct fs => okFs te (fun t => ts.contains t) 0 fs.toList i.size
      | _ => false
    | none => false
def okAll (te : TE) (ts : List TypeId) : Bool := ts.all (okOne te ts)
def ShpFs (rec : TypeId → List D → Prop) : List Field → List D → Prop
  | [], ds => ds = []
  | f :: r, ds => ∃ d1 d2, ds = d1 ++ d2 ∧ rec f.type d1 ∧ ShpFs rec r d2
def Shp (te : TE) : Nat → TypeId → List D → Prop
  | 0, _, _ => False
  | m + 1, t, ds => match klook t te with
    | some i => match i.u with
      | .bool => ∃ b, ds = [.v (.bool b)]
      | .int k => ∃ n, ds = [.v (.int k n)] ∧ k.min ≤ n ∧ n ≤ k.max
      | .string => ∃ s, ds = [.v (.string (mkS s))] ∧ s.length ≤ reachBytes
      | .slice e => (match klook e te with | some j => ∃ n row, ds = [.sl j.size n n row] ∧ n ≤ topLen ∧ n * j.bytes ≤ reachBytes ∧ ∀ i, i < n → Shp te m e (row i) | none => False)
      | .struct fs => ShpFs (Shp te m) fs.toList ds
      | _ => False
    | none => False
section
variable {H : Type} {enc : TypeId × Value → H} {P : Program} {W : World} {te : TE}
theorem TyOk.cellsOf {t : TypeId} {i : TyI} (h : TyOk P t i) : P.cellsOf t = i.size := by
  obtain ⟨_, inf, z, h1, h2, _⟩ := h
  simp [Program.cellsOf, h1, h2]
theorem TyOk.bytesOf {t : TypeId} {i : TyI} (h : TyOk P t i) : P.bytesOf t = i.bytes := by
  obtain ⟨_, inf, z, h1, _, h3, _⟩ := h
  simp [Program.bytesOf, h1, h3]
theorem mem_weightsAll {e : TypeId} {x : Nat} : ∀ {l : List (DataW H)} {d : DataW H}, d ∈ l → x ∈ d.weights P e → x ∈ DataW.weightsAll P e l
  | [], _, h, _ => by cases h
  | d' :: r, d, h, hx => by
    simp only [DataW.weightsAll, List.mem_append]
    rcases List.mem_cons.1 h with rfl | h
    · exact .inl hx
    · exact .inr (mem_weightsAll h hx)
theorem list_of {α : Type} {n : Nat} {p : Nat → α → Prop} (h : ∀ i, i < n → ∃ x, p i x) : ∃ l : List α, l.length = n ∧ ∀ i x, l[i]? = some x → p i x := by
  induction n with
  | zero => exact ⟨[], rfl, fun i x hx => by simp at hx⟩
  | succ n ih =>
    obtain ⟨l, h1, h2⟩ := ih fun i hi => h i (by omega)
    obtain ⟨x, hx⟩ := h n (by omega)
    refine ⟨l ++ [x], by simp [h1], fun i y hy => ?_⟩
    rcases Nat.lt_or_ge i l.length with hi | hi
    · rw [List.getElem?_append_left hi] at hy; exact h2 i y hy
    · rw [List.getElem?_append_right hi] at hy
      have : i = n := by
        rcases Nat.eq_or_lt_of_le hi with e | e
        · omega
        · have : i - l.length ≠ 0 := by omega
          obtain ⟨k, hk⟩ := Nat.exists_eq_succ_of_ne_zero this
          rw [hk] at hy; simp at hy
      subst this
      rw [h1] at hy; simp at hy; subst hy; exact hx
theorem lfR_append : ∀ {a b : List D}, lfR a = true → lfR b = true → lfR (a ++ b) = true
  | [], b, _, h => by simpa using h
  | d :: a, b, h, h' => by
    simp only [lfR, Bool.and_eq_true, List.cons_append] at h ⊢
    exact ⟨h.1, lfR_append h.2 h'⟩
theorem shpFs_lf {rec : TypeId → List D → Prop} (h : ∀ t ds, rec t ds → lfR ds = true) : ∀ {fs : List Field} {ds : List D}, ShpFs rec fs ds → lfR ds = true
  | [], ds, hh => by simp only [ShpFs] at hh; subst hh; rfl
  | f :: fs, ds, hh => by
    simp only [ShpFs] at hh
    obtain ⟨d1, d2, rfl, h1, h2⟩ := hh
    exact lfR_append (h _ _ h1) (shpFs_lf h h2)
theorem shp_lf : ∀ {m t : Nat} {ds : List D}, Shp te m t ds → lfR ds = true
  | 0, _, _, h => h.elim
  | m + 1, t, ds, h => by
    simp only [Shp] at h
    split at h
    · rename_i i hi
      split at h
      · obtain ⟨b, rfl⟩ := h; rfl
      · obtain ⟨n, rfl, _⟩ := h; rfl
      · obtain ⟨s, rfl, _⟩ := h; rfl
      · split at h
        · obtain ⟨n, row, rfl, _⟩ := h; rfl
        · exact h.elim
      · exact shpFs_lf (fun t ds hh => shp_lf hh) h
      · exact h.elim
    · exact h.elim
theorem trod_rd (hte : TEok P te) {sp : Nat → Bool} {ts : List TypeId} (hts : okAll te ts = true) : ∀ (fuel t : Nat) (cs : List Value) (d : DataW H) (ps : List MemPlace), ts.contains t = true → DataW.trod enc P W 0 sp true fuel t cs = some (d, ps) → (∀ x ∈ d.weights P t, x ≤ reachBytes) →
    ∃ ds, Shp te fuel t ds ∧ RdL W (fun b => b < W.heap.size) ds cs
  | 0, _, _, _, _, _, h, _ => by simp [DataW.trod] at h
  | fuel + 1, t, cs, d, ps, hmem, h, hw => by
    have hok := List.all_eq_true.1 hts t (by simpa using hmem)
    simp only [okOne] at hok
    cases hi : klook t te with
    | none => simp [hi] at hok
    | some i =>
      simp only [hi] at hok
      have hti := hte t i hi
      have hu := hti.1
      simp only [Shp, hi]
      cases hd : i.u <;> simp only [hd] at hok hu ⊢ <;> first | (cases hok; done) | skip
      case bool =>
        match cs, h with
        | [], h => simp [DataW.trod, hu] at h
        | [v], h =>
          cases v <;> simp [DataW.trod, hu] at h
          rename_i b
          exact ⟨[.v (.bool b)], ⟨b, rfl⟩, by simp [RdL, RdV]⟩
        | _ :: _ :: _, h => simp [DataW.trod, hu] at h
      case int k =>
        match cs, h with
        | [], h => simp [DataW.trod, hu] at h
        | [v], h =>
          cases v <;> simp [DataW.trod, hu] at h
          rename_i k' n
          obtain ⟨⟨rfl, hwf⟩, _⟩ := h
          simp only [Lit.wf, Bool.and_eq_true, decide_eq_true_eq] at hwf
          exact ⟨[.v (.int k' n)], ⟨n, rfl, hwf.1, hwf.2⟩, by simp [RdL, RdV]⟩
        | _ :: _ :: _, h => simp [DataW.trod, hu] at h
      case string =>
        match cs, h with
        | [], h => simp [DataW.trod, hu] at h
        | [v], h =>
          cases v <;> simp [DataW.trod, hu] at h
          rename_i s
          obtain ⟨_, rfl, _⟩ := h
          simp only [DataW.weights, List.mem_singleton, forall_eq] at hw
          refine ⟨[.v (.string s)], ⟨bytes s, by simp [mkS, bytes], ?_⟩, by simp [RdL, RdV]⟩
          simpa [bytes] using hw
        | _ :: _ :: _, h => simp [DataW.trod, hu] at h
      case slice e =>
        cases hj : klook e te with
        | none => simp [hj] at hok
        | some j =>
          simp only [hj, Bool.and_eq_true, bne_iff_ne, ne_eq] at hok ⊢
          obtain ⟨⟨hs, hb⟩, hoke⟩ := hok
          have htj := hte e j hj
          have hcj := htj.cellsOf
          have hbj := htj.bytesOf
          have hcase : (cs = [.slice none 0 0] ∧ d = .nil) ∨ (∃ a len cap, cs = [.slice (some a) len cap]) := by
            match cs, h with
            | [], h => simp [DataW.trod, hu] at h
            | [v], h =>
              cases v <;> try (simp [DataW.trod, hu] at h; done)
              rename_i a len cap
              cases a with
              | some a => exact .inr ⟨a, len, cap, rfl⟩
              | none =>
                cases len <;> cases cap <;> simp [DataW.trod, hu] at h
                exact .inl ⟨rfl, h.1.symm⟩
            | _ :: _ :: _, h => simp [DataW.trod, hu] at h
          rcases hcase with ⟨rfl, rfl⟩ | ⟨a, len, cap, rfl⟩
          · exact ⟨[.sl j.size 0 0 nilRow], ⟨0, nilRow, rfl, by simp, by simp, fun i hi => by omega⟩, by simp only [RdL, RdV]; exact ⟨_, _, rfl, ⟨none, 0, rfl, by simp, by simp, by simp, by simp⟩, rfl⟩⟩
          · unfold DataW.trod at h
            simp only [hu] at h
            split at h
            · rename_i hc
              rw [Option.bind_eq_some_iff] at h
              obtain ⟨elems, he, h⟩ := h
              rw [Option.map_eq_some_iff] at h
              obtain ⟨rest, hr, hd'⟩ := h
              simp only [Prod.mk.injEq] at hd'
              obtain ⟨rfl, _⟩ := hd'
              simp only [DataW.weights, hu] at hw
              have hlen : elems.length = len := by simpa using mapM_some_length he
              have hlb : len * j.bytes ≤ reachBytes := by
                have := hw (((elems.map (·.1)).length + (rest.map (·.1)).length) * P.bytesOf e) (List.mem_cons_self ..)
                rw [hbj] at this
                refine Nat.le_trans (Nat.mul_le_mul_right _ ?_) this
                simp [hlen]
              have hlt : len ≤ topLen := by
                have h1 : len * 1 ≤ len * j.bytes := Nat.mul_le_mul_left _ (Nat.one_le_iff_ne_zero.2 hb)
                have h2 : reachBytes ≤ topLen := by decide
                omega
              have hrow : ∀ k, k < len → ∃ row : List D, Shp te fuel e row ∧ row.length = j.size ∧ ∃ cells : List Value, cells.length = j.size ∧ RdL W (fun b => b < W.heap.size) row cells ∧ ∀ q, q < j.size → W.cell? ((a.add (k * j.size)).add q) = cells[q]? := fun k hk => by
                have h1 := mapM_some_get he k k (by simp [hk])
                have hx : ∃ x, elems[k]? = some x := ⟨elems[k]'(by omega), by simp [hlen, hk]⟩
                obtain ⟨x, hx⟩ := hx
                rw [hx, Option.bind_eq_some_iff] at h1
                obtain ⟨cells, hc1, hc2⟩ := h1
                obtain ⟨_, hcl, hcc⟩ := World.cells?_some hc1
                rw [hcj] at hcl hcc
                obtain ⟨x1, x2⟩ := x
                obtain ⟨ds, hds, hrd⟩ := trod_rd hte hts fuel e cells x1 x2 hoke hc2 (fun y hy => hw y (by
                  refine List.mem_cons_of_mem _ (List.mem_append_left _ (mem_weightsAll ?_ hy))
                  exact List.mem_map.2 ⟨(x1, x2), List.mem_of_getElem? hx, rfl⟩))
                have hl := RdL_length hrd
                exact ⟨ds, hds, by rw [← hl, hcl], cells, hcl, hrd, hcc⟩
              rcases Nat.eq_zero_or_pos len with h0 | h0
              · subst h0
                exact ⟨[.sl j.size 0 0 nilRow], ⟨0, nilRow, rfl, by simp, by simp, fun i hi => by omega⟩, by simp only [RdL, RdV]; exact ⟨_, _, rfl, ⟨some a, cap, rfl, by simp, by simp, by simp, by simp⟩, rfl⟩⟩
              · have hsp : a.spot = none ∧ a.block < W.heap.size := by
                  obtain ⟨row, _, _, cells, hcl, _, hcc⟩ := hrow 0 h0
                  have h1 := hcc 0 (by omega)
                  have : ∃ v, cells[0]? = some v := ⟨cells[0]'(by omega), by simp⟩
                  obtain ⟨v, hv⟩ := this
                  rw [hv] at h1
                  simp only [Nat.zero_mul, Addr.add, if_true] at h1
                  unfold World.cell? at h1
                  split at h1
                  · rename_i hheap
                    refine ⟨?_, (Array.getElem?_eq_some_iff.1 hheap).1⟩
                    cases hsp : a.spot with
                    | none => rfl
                    | some x => simp [hsp] at h1
                  · cases h1
                obtain ⟨ab, ao, asp⟩ := a
                obtain ⟨rfl, hlt'⟩ := hsp
                obtain ⟨es, hel, hes⟩ := list_of hrow
                have hget : ∀ i, i < len → es[i]? = some (es.getD i []) := fun i hi => by
                  have : i < es.length := by omega
                  rw [List.getD_eq_getElem?_getD, List.getElem?_eq_getElem this]; rfl
                refine ⟨[.sl j.size len len fun i => es.getD i []], ⟨len, _, rfl, hlt, hlb, fun i hi => (hes i _ (hget i hi)).1⟩, ?_⟩
                simp only [RdL, RdV]
                refine ⟨_, _, rfl, ⟨some ⟨ab, ao, none⟩, cap, rfl, Nat.le_refl _, hc.2.1, hlt, .inr ⟨ab, ao, rfl, hlt', fun i hi => ?_⟩⟩, rfl⟩
                obtain ⟨_, hl, cells, hcl, hrd, hcc⟩ := hes i _ (hget i hi)
                refine ⟨hl, shp_lf (hes i _ (hget i hi)).1, RdC_of_vals hrd fun z hz => ?_⟩
                have := hcc z (by omega)
                rw [addr_add, addr_add] at this
                exact this
            · simp at h
      case struct fs =>
        have hcs : cs.length = i.size ∧ ∃ xs, fs.toList.mapM (fun f => DataW.trod enc P W 0 sp true fuel f.type ((cs.drop f.offset).take (P.cellsOf f.type))) = some xs ∧ d = .agg (xs.map (·.1)) := by
          unfold DataW.trod at h
          simp only [hu] at h
          split at h
          · rename_i hl
            rw [Option.map_eq_some_iff] at h
            obtain ⟨xs, h1, h2⟩ := h
            simp only [Prod.mk.injEq] at h2
            exact ⟨by rw [hl, hti.cellsOf], xs, h1, h2.1.symm⟩
          · simp at h
        obtain ⟨hl, xs, hxs, rfl⟩ := hcs
        simp only [DataW.weights, hu] at hw
        have key : ∀ (l : List Field) (off : Nat) (xs : List (DataW H × List MemPlace)), okFs te (fun t => ts.contains t) off l i.size = true → l.mapM (fun f => DataW.trod enc P W 0 sp true fuel f.type ((cs.drop f.offset).take (P.cellsOf f.type))) = some xs →
            (∀ x ∈ DataW.weightsEach P (l.map (·.type)) (xs.map (·.1)), x ≤ reachBytes) → ∃ ds, ShpFs (Shp te fuel) l ds ∧ RdL W (fun b => b < W.heap.size) ds (cs.drop off) := by
          intro l
          induction l with
          | nil =>
            intro off xs h1 h2 _
            simp only [okFs, beq_iff_eq] at h1
            exact ⟨[], rfl, by rw [List.drop_eq_nil_of_le (by omega)]; rfl⟩
          | cons f r ih =>
            intro off xs h1 h2 h3
            simp only [okFs, Bool.and_eq_true, beq_iff_eq] at h1
            obtain ⟨⟨rfl, hokf⟩, h1⟩ := h1
            cases hj : klook f.type te with
            | none => simp [hj] at h1
            | some j =>
              simp only [hj] at h1
              have hcj := (hte _ j hj).cellsOf
              rw [List.mapM_cons] at h2
              simp only [Option.bind_eq_bind, Option.bind_eq_some_iff, Option.pure_def, Option.some.injEq] at h2
              obtain ⟨x, hx, ys, hys, rfl⟩ := h2
              obtain ⟨x1, x2⟩ := x
              simp only [List.map_cons, DataW.weightsEach, List.mem_append] at h3
              obtain ⟨d1, hd1, hr1⟩ := trod_rd hte hts fuel f.type _ x1 x2 hokf hx (fun y hy => h3 y (.inl hy))
              obtain ⟨d2, hd2, hr2⟩ := ih (f.offset + j.size) ys h1 hys (fun y hy => h3 y (.inr hy))
              refine ⟨d1 ++ d2, ⟨d1, d2, rfl, hd1, hd2⟩, ?_⟩
              have := RdL_append hr1 hr2
              rwa [hcj, ← List.drop_drop, List.take_append_drop] at this
        obtain ⟨ds, h1, h2⟩ := key fs.toList 0 xs hok hxs hw
        exact ⟨ds, h1, by simpa using h2⟩
def aggT (te : TE) (t : TypeId) : Bool := match klook t te with | some i => aggD i.u | none => false
def ArgShp (te : TE) (t : TypeId) (x : D) : Prop := ∃ m ds, Shp te m t ds ∧ (if aggT te t = true then x = .ag ds else ds = [x])
theorem arg_rd (hte : TEok P te) {sp : Nat → Bool} {ts : List TypeId} (hts : okAll te ts = true) {t : TypeId} {v : Value} {d : DataW H} {ps : List MemPlace} {r : Reach} {b0 : Nat} (hmem : ts.contains t = true) (hval : Value.okWide P W r b0 t v) (h : DataW.Trod enc P W 0 sp true t v d ps) (hw : ∀ x ∈ d.weights P t, x ≤ reachBytes) :
    ∃ x, ArgShp te t x ∧ RdV W (fun b => b < W.heap.size) x v := by
  obtain ⟨fuel, h⟩ := h
  obtain ⟨ds, h1, h2⟩ := trod_rd hte hts fuel t _ d ps hmem h hw
  have hok := List.all_eq_true.1 hts t (by simpa using hmem)
  cases fuel with
  | zero => simp [Shp] at h1
  | succ m =>
    simp only [okOne] at hok
    cases hi : klook t te with
    | none => simp [hi] at hok
    | some i =>
      simp only [hi] at hok
      have hu := (hte t i hi).1
      have one : aggD i.u = false → (∃ x, ds = [x]) → (∀ cs, v ≠ .agg cs) → ∃ x, ArgShp te t x ∧ RdV W (fun b => b < W.heap.size) x v := fun hag ⟨x, hx⟩ hna => by
        subst hx
        refine ⟨x, ⟨m + 1, [x], h1, by simp [aggT, hi, hag]⟩, ?_⟩
        simp only [RdL] at h2
        obtain ⟨u, us, h3, h4, rfl⟩ := h2
        have : v.cells.toList = [v] := by
          cases v <;> first | rfl | exact absurd rfl (hna _)
        rw [this] at h3
        cases h3
        exact h4
      have h1' := h1
      simp only [Shp, hi] at h1
      cases hd : i.u <;> simp only [hd] at hok hu h1 one <;> first | (cases hok; done) | skip
      case bool =>
        obtain ⟨b, rfl⟩ := h1
        refine one rfl ⟨_, rfl⟩ fun cs hc => ?_
        subst hc; simp [Value.okWide, Cell.okWide, Cell.ok, hu] at hval
      case int k =>
        obtain ⟨b, rfl, _⟩ := h1
        refine one rfl ⟨_, rfl⟩ fun cs hc => ?_
        subst hc; simp [Value.okWide, Cell.okWide, Cell.ok, hu] at hval
      case string =>
        obtain ⟨b, rfl, _⟩ := h1
        refine one rfl ⟨_, rfl⟩ fun cs hc => ?_
        subst hc; simp [Value.okWide, Cell.okWide, Cell.ok, hu] at hval
      case slice e =>
        cases hj : klook e te with
        | none => simp [hj] at h1
        | some j =>
          simp only [hj] at h1
          obtain ⟨n, row, rfl, _⟩ := h1
          refine one rfl ⟨_, rfl⟩ fun cs hc => ?_
          subst hc; simp [Value.okWide, Cell.okWide, Cell.ok, hu] at hval
      case struct fs =>
        simp only [Value.okWide, hu] at hval
        obtain ⟨cs, rfl, _⟩ := hval
        refine ⟨.ag ds, ⟨m + 1, ds, h1', by simp [aggT, hi, hd, aggD]⟩, ?_⟩
        simp only [RdV]
        exact ⟨cs.toList, by simp, h2⟩
open Go.ChangeShapes in
theorem post_of_below {f : Func} {s : ChangeSpec} {apart fresh handsOn again : Bool} {W' : World} {args : Array Value} {v : Value} {ds gs : List (DataW H)} {before pa pv : List MemPlace}
    (hW : DataW.Whole enc P f.params.toList s.vars apart W args.toList ds gs before)
    (hres : ∀ (b : Nat) (sp : Nat → Bool) (hd : Bool), DataW.TrodAll enc P W' b sp hd f.resultTypes.toList (v.resultList f.resultTypes.size) (s.fn H (ds ++ gs)).results [])
    (hargs : ∀ sp : Nat → Bool, (∀ p ∈ before, sp p.block = true) → DataW.TrodAll enc P W' 0 sp true f.params.toList args.toList (s.fn H (ds ++ gs)).args pa)
    (hvars : ∀ sp : Nat → Bool, (∀ p ∈ before, sp p.block = true) → DataW.TrodVars enc P W' sp s.vars (s.fn H (ds ++ gs)).vars pv)
    (hps : before = pa ++ pv) (hb : Below W.heap.size W W')
    (hok : ∀ (j : Nat) (t : TypeId) (r : Value), f.resultTypes[j]? = some t → (v.resultList f.resultTypes.size)[j]? = some r → Value.okWide P W' .any 0 t r) :
    s.post enc P f apart fresh handsOn again W args v W' := by
  have hold : ∀ p ∈ before, (fun b => decide (b < W.heap.size)) p.block = true := fun p hp => by simpa using hW.lt p hp
  have hlt : ∀ p ∈ before, p.block < W.heap.size := fun p hp => hW.lt p hp
  refine ⟨ds, gs, before, [], pa, pv, hW, hres _ _ _, hargs _ hold, hvars _ hold, World.keptBut_mono (fun p hp => ⟨hp, ?_⟩) (hb.frame (· ∈ before)), fun _ => ?_⟩
  · rw [hps, List.mem_append] at hp
    exact Or.inr hp
  · obtain ⟨_, _, _, _, _, hz, hn⟩ := hW
    refine ⟨hok, _, _, ([] ++ pa) ++ pv, ⟨[] ++ pa, pv, trodAll_append (hargs _ (fun _ _ => rfl)) (hres _ _ _), hvars _ (fun _ _ => rfl), rfl, ?_, ?_⟩, ?_⟩
    · intro b off hp
      have hp' : MemPlace.cell b off ∈ before := by rw [hps]; simpa using hp
      rw [hb.frozen (p := ⟨b, off, none⟩) (hlt _ hp')]
      exact hz b off hp'
    · intro ha
      have := hn ha
      rw [hps] at this
      simpa using this
    · intro p hp _
      rw [hps]
      simpa using hp
theorem trodAll_stays (hl : laidOutB P = true) {W' : World} {sp' : Nat → Bool} : ∀ {ts : List TypeId} {vs : List Value} {ds : List (DataW H)} {ps : List MemPlace}, (∀ t ∈ ts, P.readableRec t = true ∧ t < P.types.size) → DataW.TrodAll enc P W 0 (fun _ => true) true ts vs ds ps →
    (∀ p ∈ ps, W.sameAt W' p) → (∀ p ∈ ps, sp' p.block = true) → DataW.TrodAll enc P W' 0 sp' true ts vs ds ps
  | [], [], [], _, _, h, _, _ => h
  | t :: ts, v :: vs, d :: ds, ps, hr, ⟨p, q, h1, h2, e⟩, hs, hp => by
    subst e
    exact ⟨p, q, WideElems.Trod_stays hl (hr t (List.mem_cons_self ..)).1 (hr t (List.mem_cons_self ..)).2 h1 (fun x hx => hs x (List.mem_append_left _ hx)) (fun x hx => hp x (List.mem_append_left _ hx)),
      trodAll_stays hl (fun t ht => hr t (List.mem_cons_of_mem _ ht)) h2 (fun x hx => hs x (List.mem_append_right _ hx)) (fun x hx => hp x (List.mem_append_right _ hx)), rfl⟩
def ArgsShp (te : TE) : List TypeId → List D → Prop
  | [], [] => True
  | t :: ts, x :: xs => ArgShp te t x ∧ ArgsShp te ts xs
  | _, _ => False
theorem args_rd (hte : TEok P te) {sp : Nat → Bool} {us : List TypeId} (hts : okAll te us = true) {r : Reach} {b0 : Nat} : ∀ {ts : List TypeId} {vs : List Value} {ds : List (DataW H)} {ps : List MemPlace}, (∀ t ∈ ts, us.contains t = true) → (∀ (j : Nat) t v, ts[j]? = some t → vs[j]? = some v → Value.okWide P W r b0 t v) → DataW.TrodAll enc P W 0 sp true ts vs ds ps →
    (∀ x ∈ DataW.weightsEach P ts ds, x ≤ reachBytes) → ∃ xs, ArgsShp te ts xs ∧ RdL W (fun b => b < W.heap.size) xs vs
  | [], [], [], _, _, _, _, _ => ⟨[], trivial, rfl⟩
  | t :: ts, v :: vs, d :: ds, ps, hok, hval, ⟨p, q, h1, h2, e⟩, hw => by
    simp only [DataW.weightsEach, List.mem_append] at hw
    obtain ⟨x, hx1, hx2⟩ := arg_rd hte hts (hok t (List.mem_cons_self ..)) (hval 0 t v rfl rfl) h1 (fun y hy => hw y (.inl hy))
    obtain ⟨xs, h3, h4⟩ := args_rd hte hts (fun t ht => hok t (List.mem_cons_of_mem _ ht)) (fun j t v h h' => hval (j + 1) t v (by simpa using h) (by simpa using h')) h2 (fun y hy => hw y (.inr hy))
    exact ⟨x :: xs, ⟨hx1, h3⟩, by simp only [RdL]; exact ⟨v, vs, rfl, hx2, h4⟩⟩
/-- **A law's row.** Its function answers true at data of the parameters' shapes; its arguments read as before. -/
theorem law_row {C : _root_.Go.Checked} {os : Os} {f : FuncId} {fn : Func} {s : ChangeSpec} {tb : TypeId} (us : List TypeId) (hts : okAll te us = true) (hC : C.prog = P) (hte : TEok P te) (own : ownKnob P.godebug = none) (hlaid : laidOutB P = true) (started : os.Started) (noInit : P.inits.idxOf? f = none) (hfn : P.funcs[f]? = some fn)
    (witness : ∃ (w : World) (tape : Tape) (i : Input), w.os = os ∧ (w.forCall tape i).Shaped C.prog ∧ i.vars = [] ∧ Input.okWide C.prog (w.forCall tape i) .any w.heap.size f i ∧
      s.pre6 enc C.prog fn [] false (w.forCall tape i).memory i.args ∧ ({} : Assume).holds C.prog (lone (Frame.enter C.prog f i.args .normal) [] (w.forCall tape i)))
    (hvars : s.vars = []) (hres : fn.resultTypes = #[tb]) (htb : P.underlying tb = some .bool)
    (hs : ∀ (ds : List (DataW H)), ds.length = fn.params.size → (s.fn H ds).results = [.lit (.bool true)] ∧ (s.fn H ds).args = ds ∧ (s.fn H ds).vars = [])
    (hok : (fn.params.toList.all fun t => us.contains t && P.readableRec t && decide (t < P.types.size)) = true)
    (h : ∀ xs, ArgsShp te fn.params.toList xs → FnOK NoI P f xs (.v (.bool true))) :
    ReturnsInHanded {} C os f .any (s.pre6 enc C.prog fn [] false) (s.post enc C.prog fn false true false false) := by
  subst hC
  refine returnsInHanded_of_change_sized own started noInit hfn witness ?_
  intro W base args ds gs before hval hW _ hwt _
  have hW' := hW
  obtain ⟨p, q, hA, hV, rfl, hfz, hnd⟩ := hW
  rw [hvars] at hV
  have hgs : gs = [] ∧ q = [] := by
    cases gs with
    | nil => exact ⟨rfl, hV⟩
    | cons g gs => exact hV.elim
  obtain ⟨rfl, rfl⟩ := hgs
  have hall : ∀ t ∈ fn.params.toList, us.contains t = true ∧ C.prog.readableRec t = true ∧ t < C.prog.types.size := fun t ht => by
    have := List.all_eq_true.1 hok t ht
    simpa [and_assoc] using this
  have hwt' : ∀ x ∈ DataW.weightsEach C.prog fn.params.toList ds, x ≤ reachBytes := fun x hx => by
    have hv0 : s.plain.varTypes C.prog = [] := by simp [DataSpec.varTypes, ChangeSpec.plain, hvars]
    rw [hv0, List.append_nil, List.append_nil] at hwt
    simpa using List.all_eq_true.1 hwt x hx
  obtain ⟨xs, hx1, hx2⟩ := args_rd hte hts (fun t ht => (hall t ht).1) (fun j t v h1 h2 => hval j t v (by simpa using h1) (by simpa using h2)) hA hwt'
  have hc := (h xs hx1).2 W (fun b => b < W.heap.size) args.toList trivial (fun b hb => hb) hx2
  rw [Array.toArray_toList] at hc
  refine Calls.mono hc fun e W' he => ?_
  obtain ⟨v, Z', rfl, hb, _, hv⟩ := he
  simp only [RdV] at hv
  subst hv
  have hlen : ds.length = fn.params.size := by
    have : ∀ {ts : List TypeId} {vs : List Value} {ds : List (DataW H)} {ps : List MemPlace}, DataW.TrodAll enc C.prog W 0 (fun _ => true) true ts vs ds ps → ds.length = ts.length := by
      intro ts
      induction ts with
      | nil => intro vs ds ps h; cases vs <;> cases ds <;> first | rfl | exact h.elim
      | cons t ts ih =>
        intro vs ds ps h
        cases vs with
        | nil => exact h.elim
        | cons v vs => cases ds with
          | nil => exact h.elim
          | cons d ds => obtain ⟨_, _, _, h2, _⟩ := h; simp [ih h2]
    simpa using this hA
  obtain ⟨e1, e2, e3⟩ := hs ds hlen
  refine ⟨.bool true, rfl, post_of_below (pa := p) (pv := []) hW' (fun b sp hd => ?_) (fun sp hsp => ?_) (fun sp _ => ?_) rfl hb ?_⟩
  · rw [List.append_nil, e1, hres]
    exact ⟨[], [], ⟨1, by simp [DataW.trod, htb, Value.cells]⟩, rfl, rfl⟩
  · rw [List.append_nil, e2]
    exact trodAll_stays hlaid (fun t ht => (hall t ht).2) hA (fun x hx => hb.same (hW'.lt x (by simpa using hx))) (fun x hx => hsp x (by simpa using hx))
  · rw [List.append_nil, e3, hvars]; rfl
  · intro j t r hj hr
    rw [hres] at hj hr
    match j, hj, hr with
    | 0, hj, hr =>
      simp [Value.resultList] at hj hr
      subst hj; subst hr
      simp [Value.okWide, Cell.okWide, Cell.ok, htb]
/-- the elements of a slice, as a list -/
def nth {α : Type} [Inhabited α] (l : List α) (i : Nat) : α := l.getD i default
theorem nth_mem {α : Type} [Inhabited α] {l : List α} {i : Nat} (h : i < l.length) : nth l i ∈ l := by
  unfold nth; rw [List.getD_eq_getElem?_getD, List.getElem?_eq_getElem h]; exact List.getElem_mem h
theorem nth_of {α : Type} [Inhabited α] {l : List α} {i : Nat} {a : α} (h : l[i]? = some a) : nth l i = a := by
  unfold nth; rw [List.getD_eq_getElem?_getD, h]; rfl
theorem rows_list {α : Type} [Inhabited α] {f : α → List D} {p : α → Prop} {n : Nat} {row : Nat → List D} (h : ∀ i, i < n → ∃ a, row i = f a ∧ p a) : ∃ l : List α, l.length = n ∧ (∀ i, i < n → row i = f (nth l i)) ∧ ∀ a ∈ l, p a := by
  obtain ⟨l, h1, h2⟩ := list_of h
  refine ⟨l, h1, fun i hi => ?_, fun a ha => ?_⟩
  · obtain ⟨a, ha⟩ : ∃ a, l[i]? = some a := ⟨l[i]'(by omega), by simp [h1, hi]⟩
    rw [nth_of ha]; exact (h2 i a ha).1
  · obtain ⟨i, hi⟩ := List.getElem?_of_mem ha
    exact (h2 i a hi).2
theorem nth_append_left {α : Type} [Inhabited α] {l m : List α} {i : Nat} (h : i < l.length) : nth (l ++ m) i = nth l i := by
  unfold nth; simp only [List.getD_eq_getElem?_getD]; rw [List.getElem?_append_left h]
theorem nth_append_right {α : Type} [Inhabited α] {l m : List α} {i : Nat} (h : l.length ≤ i) : nth (l ++ m) i = nth m (i - l.length) := by
  unfold nth; simp only [List.getD_eq_getElem?_getD]; rw [List.getElem?_append_right h]
theorem nth_take {α : Type} [Inhabited α] {l : List α} {i n : Nat} (h : i < n) : nth (l.take n) i = nth l i := by
  unfold nth; simp only [List.getD_eq_getElem?_getD]; rw [List.getElem?_take_of_lt h]
theorem nth_drop {α : Type} [Inhabited α] {l : List α} {i n : Nat} : nth (l.drop n) i = nth l (n + i) := by
  unfold nth; simp only [List.getD_eq_getElem?_getD]; rw [List.getElem?_drop]
theorem take_succ_nth {α : Type} [Inhabited α] {l : List α} {i : Nat} (h : i < l.length) : l.take (i + 1) = l.take i ++ [nth l i] := by
  rw [List.take_succ_eq_append_getElem h]; congr 1; simp [nth, List.getD_eq_getElem?_getD, h]
theorem drop_nth {α : Type} [Inhabited α] {l : List α} {i : Nat} (h : i < l.length) : l.drop i = nth l i :: l.drop (i + 1) := by
  rw [List.drop_eq_getElem_cons h]; congr 1; simp [nth, List.getD_eq_getElem?_getD, h]
theorem catR_snoc {α : Type} [Inhabited α] (f : α → List D) (l : List α) (a : α) (i : Nat) (h : i < (l ++ [a]).length) : catR l.length (fun i => f (nth l i)) (lstR [f a]) i = f (nth (l ++ [a]) i) := by
  unfold catR
  by_cases hi : i < l.length
  · rw [if_pos hi, nth_append_left hi]
  · have : i = l.length := by simp at h; omega
    subst this
    rw [if_neg hi, nth_append_right (Nat.le_refl _)]
    simp [lstR, nth]
theorem catR_append {α : Type} [Inhabited α] (f : α → List D) (l m : List α) (i : Nat) (_h : i < (l ++ m).length) : catR l.length (fun i => f (nth l i)) (fun i => f (nth m i)) i = f (nth (l ++ m) i) := by
  unfold catR
  by_cases hi : i < l.length
  · rw [if_pos hi, nth_append_left hi]
  · rw [if_neg hi, nth_append_right (by omega)]
theorem args_nil {xs : List D} (h : ArgsShp te [] xs) : xs = [] := by
  cases xs with
  | nil => rfl
  | cons x xs => exact h.elim
theorem args_cons {t : TypeId} {ts : List TypeId} {xs : List D} (h : ArgsShp te (t :: ts) xs) : ∃ x r, xs = x :: r ∧ ArgShp te t x ∧ ArgsShp te ts r := by
  cases xs with
  | nil => exact h.elim
  | cons x xs => exact ⟨x, xs, rfl, h.1, h.2⟩
end
end Go.Kin
namespace Go.Kin
open Go.RowKit
theorem var_below {P : Program} {w w' : World} {n : String} {cs : Array Value} (hv : w.var? P n = some cs) (hb : RowKit.Below w.heap.size w w') : w'.var? P n = some cs := by
  unfold World.var? at *
  cases hg : P.globalNamed n with
  | none => rw [hg] at hv; cases hv
  | some g =>
    rw [hg] at hv
    simp only [Option.bind_some] at hv ⊢
    by_cases hlt : g < w.heap.size
    · rw [hb.block g hlt]; exact hv
    · rw [Array.getElem?_eq_none (by omega)] at hv; cases hv
theorem rd_one {w : World} {Z : Nat → Prop} {x : Value} {vs : List Value} (h : RdL w Z [.v x] vs) : vs = [x] := by
  simp only [RdL, RdV] at h
  obtain ⟨v, r, rfl, rfl, rfl⟩ := h; rfl
theorem rd_two {w : World} {Z : Nat → Prop} {x y : Value} {vs : List Value} (h : RdL w Z [.v x, .v y] vs) : vs = [x, y] := by
  simp only [RdL, RdV] at h
  obtain ⟨v, r, rfl, rfl, v', r', rfl, rfl, rfl⟩ := h; rfl
/-- a library's function of plain values that leaves the world alone, or makes new memory -/
theorem FnOK.lib {I : World → Prop} {P : Program} {f : FuncId} {args : List D} {x : Value} (he : Kin.Enters P f)
    (h : ∀ w Z vs, I w → RdL w Z args vs → Calls P f vs.toArray w fun e w' => e = .returned x ∧ RowKit.Below w.heap.size w w') : FnOK I P f args (.v x) := by
  refine ⟨he, fun w Z vs hI hZ hr => (h w Z vs hI hr).mono ?_⟩
  rintro e w' ⟨rfl, hb⟩
  exact ⟨x, Z, rfl, hb, fun b hz => ⟨Nat.lt_of_lt_of_le (hZ b hz) hb.size, .inl hz⟩, by simp only [RdV]⟩
theorem FnOK.weak {I I' : World → Prop} {P : Program} {f : FuncId} {args : List D} {x : D} (h : FnOK I P f args x) (hi : ∀ w, I' w → I w) : FnOK I' P f args x :=
  ⟨h.1, fun w Z vs hI => h.2 w Z vs (hi w hI)⟩
theorem mkS_size (s : List UInt8) : (mkS s).size = s.length := by rw [size_bytes]; simp
theorem wrap_id {n : Int} (h : -9223372036854775808 ≤ n ∧ n ≤ 9223372036854775807) : IntKind.i64.wrap n = n := by
  simp [IntKind.wrap, IntKind.signed, IntKind.bits]; omega
theorem bytes_lit (l : List UInt8) : Kin.bytes ⟨l.toArray⟩ = l := by simp [Kin.bytes]
end Go.Kin
namespace Go.Kin
open Go.RowKit
/-! ### a box of the function itself is read alone from now on: it becomes data -/
mutual
def frbSV (key : Nat) (ds : List D) : SV → SV
  | .lp k off => if k = key then .d (.ptr (ds.drop off)) else .lp k off
  | .fn f caps => match allD (frbL key ds caps) with
    | some es => .d (.fn f es)
    | none => .fn f (frbL key ds caps)
  | .op p sv => .op p (frbSV key ds sv)
  | .d x => .d x
  | .own k => .own k
  | .oa k a b c => .oa k a b c
  | .mv f caps => .mv f (frbL key ds caps)
  | .sg caps => .sg (frbL key ds caps)
  | .junk => .junk
def frbL (key : Nat) (ds : List D) : List SV → List SV
  | [] => []
  | sv :: r => frbSV key ds sv :: frbL key ds r
end
def frbS (key : Nat) (ds : List D) : List (Nat × SV) → List (Nat × SV)
  | [] => []
  | (t, sv) :: r => (t, frbSV key ds sv) :: frbS key ds r
def frbLL (key : Nat) (ds : List D) : List (Nat × TypeId × List SV) → List (Nat × TypeId × List SV)
  | [] => []
  | (t, T, svs) :: r => (t, T, frbL key ds svs) :: frbLL key ds r
theorem frbS_look {key : Nat} {ds : List D} (t : Nat) : ∀ (l : List (Nat × SV)), klook t (frbS key ds l) = (klook t l).map (frbSV key ds)
  | [] => rfl
  | (t', sv) :: r => by simp only [frbS, klook]; by_cases h : t = t' <;> simp [h, frbS_look t r]
theorem frbLL_look {key : Nat} {ds : List D} (t : Nat) : ∀ (l : List (Nat × TypeId × List SV)), klook t (frbLL key ds l) = (klook t l).map fun x => (x.1, frbL key ds x.2)
  | [] => rfl
  | (t', T, sv) :: r => by simp only [frbLL, klook]; by_cases h : t = t' <;> simp [h, frbLL_look t r]
mutual
theorem frbSV_den {E E' : Env} {w : World} {key : Nat} {ds : List D} (hk : Keeps w E.Z w E'.Z) (hβ : E'.β = E.β) (hω : E'.ω = E.ω) (hz : E'.Z (E.β key)) (hd : ∀ off, RdC w E'.Z (E.β key) off (ds.drop off)) : ∀ {sv : SV} {v : Value}, DenV E w sv v → DenV E' w (frbSV key ds sv) v
  | .own k, v, h => by simp only [frbSV, DenV] at h ⊢; rw [hω]; exact h
  | .oa k a b c, v, h => by simp only [frbSV, DenV] at h ⊢; rw [hω]; exact h
  | .fn f caps, v, h => by
    simp only [DenV] at h
    obtain ⟨vs, h1, h2⟩ := h
    have h3 := frbL_den hk hβ hω hz hd h2
    simp only [frbSV]
    cases ha : allD (frbL key ds caps) with
    | none => simp only [DenV]; exact ⟨vs, h1, h3⟩
    | some es => simp only [DenV, RdV]; exact ⟨vs, h1, RdL_of_DenL ha h3⟩
  | .op p sv, v, h => by simp only [frbSV, DenV] at h ⊢; exact ⟨fun hp => frbSV_den hk hβ hω hz hd (h.1 hp), h.2⟩
  | .d x, v, h => by simp only [frbSV, DenV] at h ⊢; exact h.mono hk
  | .lp k o, v, h => by
    simp only [frbSV]
    simp only [DenV] at h
    split
    · rename_i e; subst e
      simp only [DenV, RdV]
      exact ⟨E.β k, o, h, hz, hd o⟩
    · simp only [DenV]; rw [hβ]; exact h
  | .mv f caps, v, h => by
    simp only [frbSV, DenV] at h ⊢
    obtain ⟨vs, h1, h2⟩ := h
    exact ⟨vs, h1, frbL_den hk hβ hω hz hd h2⟩
  | .sg caps, v, h => by
    simp only [frbSV, DenV] at h ⊢
    obtain ⟨vs, h1, h2⟩ := h
    exact ⟨vs, h1, frbL_den hk hβ hω hz hd h2⟩
  | .junk, v, h => by simp [frbSV, DenV]
theorem frbL_den {E E' : Env} {w : World} {key : Nat} {ds : List D} (hk : Keeps w E.Z w E'.Z) (hβ : E'.β = E.β) (hω : E'.ω = E.ω) (hz : E'.Z (E.β key)) (hd : ∀ off, RdC w E'.Z (E.β key) off (ds.drop off)) : ∀ {svs : List SV} {vs : List Value}, DenL E w svs vs → DenL E' w (frbL key ds svs) vs
  | [], vs, h => by simpa [frbL, DenL] using h
  | sv :: r, vs, h => by
    simp only [frbL, DenL] at h ⊢
    obtain ⟨v, vs', e, h1, h2⟩ := h
    exact ⟨v, vs', e, frbSV_den hk hβ hω hz hd h1, frbL_den hk hβ hω hz hd h2⟩
end
def frbF (key : Nat) (ds : List D) : List (Act × List (Nat × SV)) → List (Act × List (Nat × SV))
  | [] => []
  | (a, S) :: r => (a, frbS key ds S) :: frbF key ds r
theorem mem_frbF {key : Nat} {ds : List D} {p : Act × List (Nat × SV)} : ∀ {fz : List (Act × List (Nat × SV))}, p ∈ frbF key ds fz → ∃ S, (p.1, S) ∈ fz ∧ p.2 = frbS key ds S
  | [], h => by simp [frbF] at h
  | (a, S) :: r, h => by
    simp only [frbF, List.mem_cons] at h
    rcases h with rfl | h
    · exact ⟨S, by simp, rfl⟩
    · obtain ⟨S', h1, h2⟩ := mem_frbF h; exact ⟨S', by simp [h1], h2⟩
def frbSt (key : Nat) (ds : List D) (s : Stt) : Stt := ⟨s.N, s.df, frbS key ds s.S, frbLL key ds (delK key s.L), s.O, frbF key ds s.fz, s.pin⟩
theorem Sat.freezeB {C : Ctx} {s : Stt} (key : Nat) (hlk : lentK key = false) {T : TypeId} {cs : List SV} {ds : List D} (hL : klook key s.L = some (T, cs)) (hds : allD cs = some ds) {a : Act} {w : World} (h : Sat C s.sy a w) : Sat C (frbSt key ds s).sy a w := by
  obtain ⟨E, hE⟩ := h
  let E' : Env := { E with Z := fun b => E.Z b ∨ E.β key = b }
  refine ⟨E', ?_⟩
  have hk0 : Keeps w E.Z w E'.Z := ⟨fun _ h => .inl h, fun _ _ => rfl⟩
  obtain ⟨vs, hv1, hv2⟩ := hE.hp.loc key T cs hL
  have hz : E'.Z (E.β key) := .inr rfl
  have hd : ∀ off, RdC w E'.Z (E.β key) off (ds.drop off) := fun off => by
    have h3 := (RdL_of_DenL hds hv2).mono hk0
    have h4 : RdC w E'.Z (E.β key) 0 ds := RdC_of_vals h3 (fun i _ => by simp [World.cell?, hv1])
    have := RdC_drop off h4
    rwa [Nat.zero_add] at this
  have hLL : ∀ key' T cs, klook key' (frbLL key ds (delK key s.L)) = some (T, cs) → key' ≠ key ∧ ∃ cs0, klook key' s.L = some (T, cs0) ∧ cs = frbL key ds cs0 := fun key' T cs hk => by
    rw [frbLL_look, look_delK] at hk
    by_cases e : key' = key
    · simp [e] at hk
    · rw [if_neg e] at hk
      refine ⟨e, ?_⟩
      cases hx : klook key' s.L with
      | none => simp [hx] at hk
      | some x => obtain ⟨T', cs'⟩ := x; simp [hx] at hk; obtain ⟨rfl, rfl⟩ := hk; exact ⟨cs', rfl, rfl⟩
  refine ⟨hE.sz, hE.df, fun t sv hs => ?_, ⟨hE.hp.bel, fun b hb => ?_, fun key' T cs hk => ?_, fun key' e hk => ?_, fun key1 key2 e1 e2 hk hk' heq => ?_, fun key' o hk => ?_, fun key' e g hk hg => ?_, fun key1 key2 e1 e2 g hk hk' hg hg' => ?_⟩, fun b o hb => ?_, fun p hp t sv ht => ?_⟩
  · simp only [Stt.sy, frbSt, frbS_look] at hs
    cases hx : klook t s.S with
    | none => simp [hx] at hs
    | some sv0 =>
      simp [hx] at hs; subst hs
      obtain ⟨v, h1, h2⟩ := hE.slots t sv0 hx
      exact ⟨v, h1, frbSV_den (E' := E') hk0 rfl rfl hz hd h2⟩
  · rcases hb with hb | hb
    · exact hE.hp.z b hb
    · subst hb
      have h1 := hE.hp.locN key _ hL
      have h2 : C.w0.heap.size ≤ E.β key := h1.1.elim (fun h => h.2) (fun h5 => by rw [hlk] at h5; cases h5.1)
      exact ⟨hE.hp.lt hL, fun hlt => by omega, .inr h2⟩
  · obtain ⟨_, cs0, h1, rfl⟩ := hLL _ _ _ hk
    obtain ⟨us, h2, h3⟩ := hE.hp.loc key' T cs0 h1
    exact ⟨us, h2, frbL_den (E' := E') hk0 rfl rfl hz hd h3⟩
  · obtain ⟨T', cs'⟩ := e
    obtain ⟨hne, cs0, h1, _⟩ := hLL _ _ _ hk
    have h2 := hE.hp.locN key' _ h1
    refine ⟨h2.1, fun hz => ?_⟩
    rcases hz with hz | hz
    · exact h2.2 hz
    · exact hne (hE.hp.locD key' key _ _ h1 hL hz.symm)
  · obtain ⟨T1, cs1⟩ := e1
    obtain ⟨T2, cs2⟩ := e2
    obtain ⟨_, c1, h1, _⟩ := hLL _ _ _ hk
    obtain ⟨_, c2, h2, _⟩ := hLL _ _ _ hk'
    exact hE.hp.locD key1 key2 _ _ h1 h2 heq
  · obtain ⟨h2, h3⟩ := hE.hp.own key' o hk
    refine ⟨h2, h3.imp id ?_⟩
    rintro ⟨g, cap, us, q1, q2, q3, q4, q5, q6⟩
    exact ⟨g, cap, us, q1, q2, q3, q4, q5, fun i hi => (q6 i hi).mono hk0⟩
  · have h2 := hE.hp.ownN key' e g hk hg
    refine ⟨h2.1, fun hz => ?_, fun key1 e' hk' => ?_⟩
    · rcases hz with hz | hz
      · exact h2.2.1 hz
      · exact h2.2.2 key _ hL hz
    · obtain ⟨T', cs'⟩ := e'
      obtain ⟨_, c1, h3, _⟩ := hLL _ _ _ hk'
      exact h2.2.2 key1 _ h3
  · exact hE.hp.ownD key1 key2 _ _ g hk hk' hg hg'
  · obtain ⟨p1, p2, p3, p4, p5⟩ := hE.pins b o hb
    refine ⟨p1, p2, fun hz => ?_, fun key1 e he => ?_, p5⟩
    · rcases hz with hz | hz
      · exact p3 hz
      · exact p4 key _ hL hz
    · obtain ⟨T', cs'⟩ := e
      obtain ⟨_, c1, h3, _⟩ := hLL _ _ _ he
      exact p4 key1 _ h3
  · obtain ⟨S, h1, h2⟩ := mem_frbF hp
    rw [h2, frbS_look] at ht
    cases hx : klook t S with
    | none => simp [hx] at ht
    | some x =>
      simp [hx] at ht; subst ht
      obtain ⟨v, h3, h4⟩ := hE.waits _ h1 t x hx
      exact ⟨v, h3, frbSV_den (E' := E') hk0 rfl rfl hz hd h4⟩
theorem Exec.freezeB {R : Rn} {k : List Item} {s : Stt} (key : Nat) (hlk : lentK key = false) {T : TypeId} {cs : List SV} {ds : List D} (hL : klook key s.L = some (T, cs)) (hds : allD cs = some ds) (h : Exec R k (frbSt key ds s).sy) : Exec R k s.sy := fun a w hs => h a w (hs.freezeB key hlk hL hds)
theorem kfreezeB {P : Program} {C : Ctx} {ops : Array Oper} {i : Nat} {dl : List (Option Tmp)} {o : Oper} {r : List Oper} {st st' : Stt} {Q : Sy → Prop} (key : Nat) {T : TypeId} {cs : List SV} {ds : List D} (hL : klook key st.L = some (T, cs)) (hds : allD cs = some ds) (hs : frbSt key ds st = st')
    (h : WalkI P C ops i dl (o :: r) st'.sy Q) (hlk : lentK key = false := by decide) : WalkI P C ops i dl (o :: r) st.sy Q := fun hi hl => by
  subst hs
  obtain ⟨s', h1, h2⟩ := h hi hl
  exact ⟨s', fun a w hs => h1 a w (hs.freezeB key hlk hL hds), h2⟩
attribute [go_sem] frbSt frbS frbLL frbSV frbL frbF
end Go.Kin
