/- Steps of a function body on data, and contracts of the functions of the seat, walked. -/
import Derived.Test.YtonchjamoblioaaGreatDoorKLoop
import Derived.ProofKit
import Derived.SizedLaws
import Derived.Test.YtonchjamoblioaaGreatDoorVDef
import Derived.Lib.Bytealg
import Derived.Lib.Fields
import Derived.Shelf.Strings.Builder1
import Derived.Shelf.Strings.Builder2
import Derived.Shelf.Strings.OnBuilder
import Derived.Shelf.Small.Strs
import Derived.Shelf.Strconv.Atoi
import Derived.Shelf.Strconv.Itoa0
import Derived.Shelf.Strconv.Itoa1
import Derived.Shelf.LaysM
import Derived.Shelf.Strconv.Itoa2
import Derived.Shelf.Strconv.Itoa3
import Derived.Shelf.Strconv.AtoiErrFast
import Derived.Shelf.Strconv.ParseIntEmpty
import Derived.Shelf.Strconv.AtoiFail
import Derived.Shelf.Strconv.Clone
import Derived.Shelf.Strconv.SyntaxError
import Derived.Shelf.LaysC
import Derived.Shelf.Strconv.ToError
import Derived.Shelf.Strconv.Lower
import Derived.Shelf.Strconv.ParseUint10
import Derived.Shelf.Strconv.ParseUint10Empty
import Derived.Shelf.Strconv.ParseUint10Any
import Derived.Shelf.Strconv.ParseInt10
import Derived.Shelf.Strconv.AtoiLong
import Derived.Shelf.Strconv.AtoiInnerAll
import Derived.Shelf.Strconv.RangeError
import Derived.Shelf.Strconv.ToErrorRange
import Derived.Shelf.Strconv.AtoiAll
import Derived.Shelf.Strconv.ErrVarAll
import Derived.Shelf.Strings.Search1
import Derived.Shelf.Strings.Prefix
import Derived.Shelf.Strings.Fields
import Derived.Shelf.Strings.SplitShaped
import Derived.Shelf.Unicode.Latin
import Derived.Shelf.Unicode.Is16White
import Derived.Shelf.Unicode.IsSpaceAny
import Derived.Shelf.Unicode.Is16Any
import Derived.Shelf.Unicode.Is32Any
import Derived.Shelf.Unicode.ExclAny
import Derived.Test.YtonchjamoblioaaGreatDoorRows
set_option linter.unusedSimpArgs false
set_option linter.unusedVariables false
set_option linter.unusedSectionVars false
namespace Go.Kin
open Go.RowKit
/-! ### what a row's reading says, as data -/
def okFs (te : TE) (rec : TypeId → Bool) : Nat → List Field → Nat → Bool
  | off, [], n => off == n
  | off, f :: r, n => f.offset == off && rec f.type && (match klook f.type te with | some j => okFs te rec (off + j.size) r n | none => false)
/-- a type, whose parts are among some types -/
def okOne (te : TE) (ts : List TypeId) (t : TypeId) : Bool := match klook t te with
    | some i => match i.u with
      | .bool => true
      | .int _ => true
      | .string => true
      | .slice e => (match klook e te with | some j => j.size != 0 && j.bytes != 0 && ts.contains e | none => false)
      | .struct fs => okFs te (fun t => ts.contains t) 0 fs.toList i.size
      | _ => false
    | none => false
def okAll (te : TE) (ts : List TypeId) : Bool := ts.all (okOne te ts)
def ShpFs (rec : TypeId → List D → Prop) : List Field → List D → Prop
  | [], ds => ds = []
  | f :: r, ds => ∃ d1 d2, ds = d1 ++ d2 ∧ rec f.type d1 ∧ ShpFs rec r d2
def Shp (te : TE) : Nat → TypeId → List D → Prop
  | 0, _, _ => False
  | m + 1, t, ds => match klook t te with
    | some i => match i.u with
      | .bool => ∃ b, ds = [.v (.bool b)]
      | .int k => ∃ n, ds = [.v (.int k n)] ∧ k.min ≤ n ∧ n ≤ k.max
      | .string => ∃ s, ds = [.v (.string (mkS s))] ∧ s.length ≤ reachBytes
      | .slice e => (match klook e te with | some j => ∃ n row, ds = [.sl j.size n n row] ∧ n ≤ topLen ∧ n * j.bytes ≤ reachBytes ∧ ∀ i, i < n → Shp te m e (row i) | none => False)
      | .struct fs => ShpFs (Shp te m) fs.toList ds
      | _ => False
    | none => False
section
variable {H : Type} {enc : TypeId × Value → H} {P : Program} {W : World} {te : TE}
theorem TyOk.cellsOf {t : TypeId} {i : TyI} (h : TyOk P t i) : P.cellsOf t = i.size := by
  obtain ⟨_, inf, z, h1, h2, _⟩ := h
  simp [Program.cellsOf, h1, h2]
theorem TyOk.bytesOf {t : TypeId} {i : TyI} (h : TyOk P t i) : P.bytesOf t = i.bytes := by
  obtain ⟨_, inf, z, h1, _, h3, _⟩ := h
  simp [Program.bytesOf, h1, h3]
theorem mem_weightsAll {e : TypeId} {x : Nat} : ∀ {l : List (DataW H)} {d : DataW H}, d ∈ l → x ∈ d.weights P e → x ∈ DataW.weightsAll P e l
  | [], _, h, _ => by cases h
  | d' :: r, d, h, hx => by
    simp only [DataW.weightsAll, List.mem_append]
    rcases List.mem_cons.1 h with rfl | h
    · exact .inl hx
    · exact .inr (mem_weightsAll h hx)
theorem list_of {α : Type} {n : Nat} {p : Nat → α → Prop} (h : ∀ i, i < n → ∃ x, p i x) : ∃ l : List α, l.length = n ∧ ∀ i x, l[i]? = some x → p i x := by
  induction n with
  | zero => exact ⟨[], rfl, fun i x hx => by simp at hx⟩
  | succ n ih =>
    obtain ⟨l, h1, h2⟩ := ih fun i hi => h i (by omega)
    obtain ⟨x, hx⟩ := h n (by omega)
    refine ⟨l ++ [x], by simp [h1], fun i y hy => ?_⟩
    rcases Nat.lt_or_ge i l.length with hi | hi
    · rw [List.getElem?_append_left hi] at hy; exact h2 i y hy
    · rw [List.getElem?_append_right hi] at hy
      have : i = n := by
        rcases Nat.eq_or_lt_of_le hi with e | e
        · omega
        · have : i - l.length ≠ 0 := by omega
          obtain ⟨k, hk⟩ := Nat.exists_eq_succ_of_ne_zero this
          rw [hk] at hy; simp at hy
      subst this
      rw [h1] at hy; simp at hy; subst hy; exact hx
theorem lfR_append : ∀ {a b : List D}, lfR a = true → lfR b = true → lfR (a ++ b) = true
  | [], b, _, h => by simpa using h
  | d :: a, b, h, h' => by
    simp only [lfR, Bool.and_eq_true, List.cons_append] at h ⊢
    exact ⟨h.1, lfR_append h.2 h'⟩
theorem shpFs_lf {rec : TypeId → List D → Prop} (h : ∀ t ds, rec t ds → lfR ds = true) : ∀ {fs : List Field} {ds : List D}, ShpFs rec fs ds → lfR ds = true
  | [], ds, hh => by simp only [ShpFs] at hh; subst hh; rfl
  | f :: fs, ds, hh => by
    simp only [ShpFs] at hh
    obtain ⟨d1, d2, rfl, h1, h2⟩ := hh
    exact lfR_append (h _ _ h1) (shpFs_lf h h2)
theorem shp_lf : ∀ {m t : Nat} {ds : List D}, Shp te m t ds → lfR ds = true
  | 0, _, _, h => h.elim
  | m + 1, t, ds, h => by
    simp only [Shp] at h
    split at h
    · rename_i i hi
      split at h
      · obtain ⟨b, rfl⟩ := h; rfl
      · obtain ⟨n, rfl, _⟩ := h; rfl
      · obtain ⟨s, rfl, _⟩ := h; rfl
      · split at h
        · obtain ⟨n, row, rfl, _⟩ := h; rfl
        · exact h.elim
      · exact shpFs_lf (fun t ds hh => shp_lf hh) h
      · exact h.elim
    · exact h.elim
theorem trod_rd (hte : TEok P te) {sp : Nat → Bool} {ts : List TypeId} (hts : okAll te ts = true) : ∀ (fuel t : Nat) (cs : List Value) (d : DataW H) (ps : List MemPlace), ts.contains t = true → DataW.trod enc P W 0 sp true fuel t cs = some (d, ps) → (∀ x ∈ d.weights P t, x ≤ reachBytes) →
    ∃ ds, Shp te fuel t ds ∧ RdL W (fun b => b < W.heap.size) ds cs
  | 0, _, _, _, _, _, h, _ => by simp [DataW.trod] at h
  | fuel + 1, t, cs, d, ps, hmem, h, hw => by
    have hok := List.all_eq_true.1 hts t (by simpa using hmem)
    simp only [okOne] at hok
    cases hi : klook t te with
    | none => simp [hi] at hok
    | some i =>
      simp only [hi] at hok
      have hti := hte t i hi
      have hu := hti.1
      simp only [Shp, hi]
      cases hd : i.u <;> simp only [hd] at hok hu ⊢ <;> first | (cases hok; done) | skip
      case bool =>
        match cs, h with
        | [], h => simp [DataW.trod, hu] at h
        | [v], h =>
          cases v <;> simp [DataW.trod, hu] at h
          rename_i b
          exact ⟨[.v (.bool b)], ⟨b, rfl⟩, by simp [RdL, RdV]⟩
        | _ :: _ :: _, h => simp [DataW.trod, hu] at h
      case int k =>
        match cs, h with
        | [], h => simp [DataW.trod, hu] at h
        | [v], h =>
          cases v <;> simp [DataW.trod, hu] at h
          rename_i k' n
          obtain ⟨⟨rfl, hwf⟩, _⟩ := h
          simp only [Lit.wf, Bool.and_eq_true, decide_eq_true_eq] at hwf
          exact ⟨[.v (.int k' n)], ⟨n, rfl, hwf.1, hwf.2⟩, by simp [RdL, RdV]⟩
        | _ :: _ :: _, h => simp [DataW.trod, hu] at h
      case string =>
        match cs, h with
        | [], h => simp [DataW.trod, hu] at h
        | [v], h =>
          cases v <;> simp [DataW.trod, hu] at h
          rename_i s
          obtain ⟨_, rfl, _⟩ := h
          simp only [DataW.weights, List.mem_singleton, forall_eq] at hw
          refine ⟨[.v (.string s)], ⟨bytes s, by simp [mkS, bytes], ?_⟩, by simp [RdL, RdV]⟩
          simpa [bytes] using hw
        | _ :: _ :: _, h => simp [DataW.trod, hu] at h
      case slice e =>
        cases hj : klook e te with
        | none => simp [hj] at hok
        | some j =>
          simp only [hj, Bool.and_eq_true, bne_iff_ne, ne_eq] at hok ⊢
          obtain ⟨⟨hs, hb⟩, hoke⟩ := hok
          have htj := hte e j hj
          have hcj := htj.cellsOf
          have hbj := htj.bytesOf
          have hcase : (cs = [.slice none 0 0] ∧ d = .nil) ∨ (∃ a len cap, cs = [.slice (some a) len cap]) := by
            match cs, h with
            | [], h => simp [DataW.trod, hu] at h
            | [v], h =>
              cases v <;> try (simp [DataW.trod, hu] at h; done)
              rename_i a len cap
              cases a with
              | some a => exact .inr ⟨a, len, cap, rfl⟩
              | none =>
                cases len <;> cases cap <;> simp [DataW.trod, hu] at h
                exact .inl ⟨rfl, h.1.symm⟩
            | _ :: _ :: _, h => simp [DataW.trod, hu] at h
          rcases hcase with ⟨rfl, rfl⟩ | ⟨a, len, cap, rfl⟩
          · exact ⟨[.sl j.size 0 0 nilRow], ⟨0, nilRow, rfl, by simp, by simp, fun i hi => by omega⟩, by simp only [RdL, RdV]; exact ⟨_, _, rfl, ⟨none, 0, rfl, by simp, by simp, by simp, by simp⟩, rfl⟩⟩
          · unfold DataW.trod at h
            simp only [hu] at h
            split at h
            · rename_i hc
              rw [Option.bind_eq_some_iff] at h
              obtain ⟨elems, he, h⟩ := h
              rw [Option.map_eq_some_iff] at h
              obtain ⟨rest, hr, hd'⟩ := h
              simp only [Prod.mk.injEq] at hd'
              obtain ⟨rfl, _⟩ := hd'
              simp only [DataW.weights, hu] at hw
              have hlen : elems.length = len := by simpa using mapM_some_length he
              have hlb : len * j.bytes ≤ reachBytes := by
                have := hw (((elems.map (·.1)).length + (rest.map (·.1)).length) * P.bytesOf e) (List.mem_cons_self ..)
                rw [hbj] at this
                refine Nat.le_trans (Nat.mul_le_mul_right _ ?_) this
                simp [hlen]
              have hlt : len ≤ topLen := by
                have h1 : len * 1 ≤ len * j.bytes := Nat.mul_le_mul_left _ (Nat.one_le_iff_ne_zero.2 hb)
                have h2 : reachBytes ≤ topLen := by decide
                omega
              have hrow : ∀ k, k < len → ∃ row : List D, Shp te fuel e row ∧ row.length = j.size ∧ ∃ cells : List Value, cells.length = j.size ∧ RdL W (fun b => b < W.heap.size) row cells ∧ ∀ q, q < j.size → W.cell? ((a.add (k * j.size)).add q) = cells[q]? := fun k hk => by
                have h1 := mapM_some_get he k k (by simp [hk])
                have hx : ∃ x, elems[k]? = some x := ⟨elems[k]'(by omega), by simp [hlen, hk]⟩
                obtain ⟨x, hx⟩ := hx
                rw [hx, Option.bind_eq_some_iff] at h1
                obtain ⟨cells, hc1, hc2⟩ := h1
                obtain ⟨_, hcl, hcc⟩ := World.cells?_some hc1
                rw [hcj] at hcl hcc
                obtain ⟨x1, x2⟩ := x
                obtain ⟨ds, hds, hrd⟩ := trod_rd hte hts fuel e cells x1 x2 hoke hc2 (fun y hy => hw y (by
                  refine List.mem_cons_of_mem _ (List.mem_append_left _ (mem_weightsAll ?_ hy))
                  exact List.mem_map.2 ⟨(x1, x2), List.mem_of_getElem? hx, rfl⟩))
                have hl := RdL_length hrd
                exact ⟨ds, hds, by rw [← hl, hcl], cells, hcl, hrd, hcc⟩
              rcases Nat.eq_zero_or_pos len with h0 | h0
              · subst h0
                exact ⟨[.sl j.size 0 0 nilRow], ⟨0, nilRow, rfl, by simp, by simp, fun i hi => by omega⟩, by simp only [RdL, RdV]; exact ⟨_, _, rfl, ⟨some a, cap, rfl, by simp, by simp, by simp, by simp⟩, rfl⟩⟩
              · have hsp : a.spot = none ∧ a.block < W.heap.size := by
                  obtain ⟨row, _, _, cells, hcl, _, hcc⟩ := hrow 0 h0
                  have h1 := hcc 0 (by omega)
                  have : ∃ v, cells[0]? = some v := ⟨cells[0]'(by omega), by simp⟩
                  obtain ⟨v, hv⟩ := this
                  rw [hv] at h1
                  simp only [Nat.zero_mul, Addr.add, if_true] at h1
                  unfold World.cell? at h1
                  split at h1
                  · rename_i hheap
                    refine ⟨?_, (Array.getElem?_eq_some_iff.1 hheap).1⟩
                    cases hsp : a.spot with
                    | none => rfl
                    | some x => simp [hsp] at h1
                  · cases h1
                obtain ⟨ab, ao, asp⟩ := a
                obtain ⟨rfl, hlt'⟩ := hsp
                obtain ⟨es, hel, hes⟩ := list_of hrow
                have hget : ∀ i, i < len → es[i]? = some (es.getD i []) := fun i hi => by
                  have : i < es.length := by omega
                  rw [List.getD_eq_getElem?_getD, List.getElem?_eq_getElem this]; rfl
                refine ⟨[.sl j.size len len fun i => es.getD i []], ⟨len, _, rfl, hlt, hlb, fun i hi => (hes i _ (hget i hi)).1⟩, ?_⟩
                simp only [RdL, RdV]
                refine ⟨_, _, rfl, ⟨some ⟨ab, ao, none⟩, cap, rfl, Nat.le_refl _, hc.2.1, hlt, .inr ⟨ab, ao, rfl, hlt', fun i hi => ?_⟩⟩, rfl⟩
                obtain ⟨_, hl, cells, hcl, hrd, hcc⟩ := hes i _ (hget i hi)
                refine ⟨hl, shp_lf (hes i _ (hget i hi)).1, RdC_of_vals hrd fun z hz => ?_⟩
                have := hcc z (by omega)
                rw [addr_add, addr_add] at this
                exact this
            · simp at h
      case struct fs =>
        have hcs : cs.length = i.size ∧ ∃ xs, fs.toList.mapM (fun f => DataW.trod enc P W 0 sp true fuel f.type ((cs.drop f.offset).take (P.cellsOf f.type))) = some xs ∧ d = .agg (xs.map (·.1)) := by
          unfold DataW.trod at h
          simp only [hu] at h
          split at h
          · rename_i hl
            rw [Option.map_eq_some_iff] at h
            obtain ⟨xs, h1, h2⟩ := h
            simp only [Prod.mk.injEq] at h2
            exact ⟨by rw [hl, hti.cellsOf], xs, h1, h2.1.symm⟩
          · simp at h
        obtain ⟨hl, xs, hxs, rfl⟩ := hcs
        simp only [DataW.weights, hu] at hw
        have key : ∀ (l : List Field) (off : Nat) (xs : List (DataW H × List MemPlace)), okFs te (fun t => ts.contains t) off l i.size = true → l.mapM (fun f => DataW.trod enc P W 0 sp true fuel f.type ((cs.drop f.offset).take (P.cellsOf f.type))) = some xs →
            (∀ x ∈ DataW.weightsEach P (l.map (·.type)) (xs.map (·.1)), x ≤ reachBytes) → ∃ ds, ShpFs (Shp te fuel) l ds ∧ RdL W (fun b => b < W.heap.size) ds (cs.drop off) := by
          intro l
          induction l with
          | nil =>
            intro off xs h1 h2 _
            simp only [okFs, beq_iff_eq] at h1
            exact ⟨[], rfl, by rw [List.drop_eq_nil_of_le (by omega)]; rfl⟩
          | cons f r ih =>
            intro off xs h1 h2 h3
            simp only [okFs, Bool.and_eq_true, beq_iff_eq] at h1
            obtain ⟨⟨rfl, hokf⟩, h1⟩ := h1
            cases hj : klook f.type te with
            | none => simp [hj] at h1
            | some j =>
              simp only [hj] at h1
              have hcj := (hte _ j hj).cellsOf
              rw [List.mapM_cons] at h2
              simp only [Option.bind_eq_bind, Option.bind_eq_some_iff, Option.pure_def, Option.some.injEq] at h2
              obtain ⟨x, hx, ys, hys, rfl⟩ := h2
              obtain ⟨x1, x2⟩ := x
              simp only [List.map_cons, DataW.weightsEach, List.mem_append] at h3
              obtain ⟨d1, hd1, hr1⟩ := trod_rd hte hts fuel f.type _ x1 x2 hokf hx (fun y hy => h3 y (.inl hy))
              obtain ⟨d2, hd2, hr2⟩ := ih (f.offset + j.size) ys h1 hys (fun y hy => h3 y (.inr hy))
              refine ⟨d1 ++ d2, ⟨d1, d2, rfl, hd1, hd2⟩, ?_⟩
              have := RdL_append hr1 hr2
              rwa [hcj, ← List.drop_drop, List.take_append_drop] at this
        obtain ⟨ds, h1, h2⟩ := key fs.toList 0 xs hok hxs hw
        exact ⟨ds, h1, by simpa using h2⟩
def aggT (te : TE) (t : TypeId) : Bool := match klook t te with | some i => aggD i.u | none => false
def ArgShp (te : TE) (t : TypeId) (x : D) : Prop := ∃ m ds, Shp te m t ds ∧ (if aggT te t = true then x = .ag ds else ds = [x])
theorem arg_rd (hte : TEok P te) {sp : Nat → Bool} {ts : List TypeId} (hts : okAll te ts = true) {t : TypeId} {v : Value} {d : DataW H} {ps : List MemPlace} {r : Reach} {b0 : Nat} (hmem : ts.contains t = true) (hval : Value.okWide P W r b0 t v) (h : DataW.Trod enc P W 0 sp true t v d ps) (hw : ∀ x ∈ d.weights P t, x ≤ reachBytes) :
    ∃ x, ArgShp te t x ∧ RdV W (fun b => b < W.heap.size) x v := by
  obtain ⟨fuel, h⟩ := h
  obtain ⟨ds, h1, h2⟩ := trod_rd hte hts fuel t _ d ps hmem h hw
  have hok := List.all_eq_true.1 hts t (by simpa using hmem)
  cases fuel with
  | zero => simp [Shp] at h1
  | succ m =>
    simp only [okOne] at hok
    cases hi : klook t te with
    | none => simp [hi] at hok
    | some i =>
      simp only [hi] at hok
      have hu := (hte t i hi).1
      have one : aggD i.u = false → (∃ x, ds = [x]) → (∀ cs, v ≠ .agg cs) → ∃ x, ArgShp te t x ∧ RdV W (fun b => b < W.heap.size) x v := fun hag ⟨x, hx⟩ hna => by
        subst hx
        refine ⟨x, ⟨m + 1, [x], h1, by simp [aggT, hi, hag]⟩, ?_⟩
        simp only [RdL] at h2
        obtain ⟨u, us, h3, h4, rfl⟩ := h2
        have : v.cells.toList = [v] := by
          cases v <;> first | rfl | exact absurd rfl (hna _)
        rw [this] at h3
        cases h3
        exact h4
      have h1' := h1
      simp only [Shp, hi] at h1
      cases hd : i.u <;> simp only [hd] at hok hu h1 one <;> first | (cases hok; done) | skip
      case bool =>
        obtain ⟨b, rfl⟩ := h1
        refine one rfl ⟨_, rfl⟩ fun cs hc => ?_
        subst hc; simp [Value.okWide, Cell.okWide, Cell.ok, hu] at hval
      case int k =>
        obtain ⟨b, rfl, _⟩ := h1
        refine one rfl ⟨_, rfl⟩ fun cs hc => ?_
        subst hc; simp [Value.okWide, Cell.okWide, Cell.ok, hu] at hval
      case string =>
        obtain ⟨b, rfl, _⟩ := h1
        refine one rfl ⟨_, rfl⟩ fun cs hc => ?_
        subst hc; simp [Value.okWide, Cell.okWide, Cell.ok, hu] at hval
      case slice e =>
        cases hj : klook e te with
        | none => simp [hj] at h1
        | some j =>
          simp only [hj] at h1
          obtain ⟨n, row, rfl, _⟩ := h1
          refine one rfl ⟨_, rfl⟩ fun cs hc => ?_
          subst hc; simp [Value.okWide, Cell.okWide, Cell.ok, hu] at hval
      case struct fs =>
        simp only [Value.okWide, hu] at hval
        obtain ⟨cs, rfl, _⟩ := hval
        refine ⟨.ag ds, ⟨m + 1, ds, h1', by simp [aggT, hi, hd, aggD]⟩, ?_⟩
        simp only [RdV]
        exact ⟨cs.toList, by simp, h2⟩
open Go.ChangeShapes in
theorem post_of_below {f : Func} {s : ChangeSpec} {apart fresh handsOn again : Bool} {W' : World} {args : Array Value} {v : Value} {ds gs : List (DataW H)} {before pa pv : List MemPlace}
    (hW : DataW.Whole enc P f.params.toList s.vars apart W args.toList ds gs before)
    (hres : ∀ (b : Nat) (sp : Nat → Bool) (hd : Bool), DataW.TrodAll enc P W' b sp hd f.resultTypes.toList (v.resultList f.resultTypes.size) (s.fn H (ds ++ gs)).results [])
    (hargs : ∀ sp : Nat → Bool, (∀ p ∈ before, sp p.block = true) → DataW.TrodAll enc P W' 0 sp true f.params.toList args.toList (s.fn H (ds ++ gs)).args pa)
    (hvars : ∀ sp : Nat → Bool, (∀ p ∈ before, sp p.block = true) → DataW.TrodVars enc P W' sp s.vars (s.fn H (ds ++ gs)).vars pv)
    (hps : before = pa ++ pv) (hb : Below W.heap.size W W')
    (hok : ∀ (j : Nat) (t : TypeId) (r : Value), f.resultTypes[j]? = some t → (v.resultList f.resultTypes.size)[j]? = some r → Value.okWide P W' .any 0 t r) :
    s.post enc P f apart fresh handsOn again W args v W' := by
  have hold : ∀ p ∈ before, (fun b => decide (b < W.heap.size)) p.block = true := fun p hp => by simpa using hW.lt p hp
  have hlt : ∀ p ∈ before, p.block < W.heap.size := fun p hp => hW.lt p hp
  refine ⟨ds, gs, before, [], pa, pv, hW, hres _ _ _, hargs _ hold, hvars _ hold, World.keptBut_mono (fun p hp => ⟨hp, ?_⟩) (hb.frame (· ∈ before)), fun _ => ?_⟩
  · rw [hps, List.mem_append] at hp
    exact Or.inr hp
  · obtain ⟨_, _, _, _, _, hz, hn⟩ := hW
    refine ⟨hok, _, _, ([] ++ pa) ++ pv, ⟨[] ++ pa, pv, trodAll_append (hargs _ (fun _ _ => rfl)) (hres _ _ _), hvars _ (fun _ _ => rfl), rfl, ?_, ?_⟩, ?_⟩
    · intro b off hp
      have hp' : MemPlace.cell b off ∈ before := by rw [hps]; simpa using hp
      rw [hb.frozen (p := ⟨b, off, none⟩) (hlt _ hp')]
      exact hz b off hp'
    · intro ha
      have := hn ha
      rw [hps] at this
      simpa using this
    · intro p hp _
      rw [hps]
      simpa using hp
theorem trodAll_stays (hl : laidOutB P = true) {W' : World} {sp' : Nat → Bool} : ∀ {ts : List TypeId} {vs : List Value} {ds : List (DataW H)} {ps : List MemPlace}, (∀ t ∈ ts, P.readableRec t = true ∧ t < P.types.size) → DataW.TrodAll enc P W 0 (fun _ => true) true ts vs ds ps →
    (∀ p ∈ ps, W.sameAt W' p) → (∀ p ∈ ps, sp' p.block = true) → DataW.TrodAll enc P W' 0 sp' true ts vs ds ps
  | [], [], [], _, _, h, _, _ => h
  | t :: ts, v :: vs, d :: ds, ps, hr, ⟨p, q, h1, h2, e⟩, hs, hp => by
    subst e
    exact ⟨p, q, WideElems.Trod_stays hl (hr t (List.mem_cons_self ..)).1 (hr t (List.mem_cons_self ..)).2 h1 (fun x hx => hs x (List.mem_append_left _ hx)) (fun x hx => hp x (List.mem_append_left _ hx)),
      trodAll_stays hl (fun t ht => hr t (List.mem_cons_of_mem _ ht)) h2 (fun x hx => hs x (List.mem_append_right _ hx)) (fun x hx => hp x (List.mem_append_right _ hx)), rfl⟩
def ArgsShp (te : TE) : List TypeId → List D → Prop
  | [], [] => True
  | t :: ts, x :: xs => ArgShp te t x ∧ ArgsShp te ts xs
  | _, _ => False
theorem args_rd (hte : TEok P te) {sp : Nat → Bool} {us : List TypeId} (hts : okAll te us = true) {r : Reach} {b0 : Nat} : ∀ {ts : List TypeId} {vs : List Value} {ds : List (DataW H)} {ps : List MemPlace}, (∀ t ∈ ts, us.contains t = true) → (∀ (j : Nat) t v, ts[j]? = some t → vs[j]? = some v → Value.okWide P W r b0 t v) → DataW.TrodAll enc P W 0 sp true ts vs ds ps →
    (∀ x ∈ DataW.weightsEach P ts ds, x ≤ reachBytes) → ∃ xs, ArgsShp te ts xs ∧ RdL W (fun b => b < W.heap.size) xs vs
  | [], [], [], _, _, _, _, _ => ⟨[], trivial, rfl⟩
  | t :: ts, v :: vs, d :: ds, ps, hok, hval, ⟨p, q, h1, h2, e⟩, hw => by
    simp only [DataW.weightsEach, List.mem_append] at hw
    obtain ⟨x, hx1, hx2⟩ := arg_rd hte hts (hok t (List.mem_cons_self ..)) (hval 0 t v rfl rfl) h1 (fun y hy => hw y (.inl hy))
    obtain ⟨xs, h3, h4⟩ := args_rd hte hts (fun t ht => hok t (List.mem_cons_of_mem _ ht)) (fun j t v h h' => hval (j + 1) t v (by simpa using h) (by simpa using h')) h2 (fun y hy => hw y (.inr hy))
    exact ⟨x :: xs, ⟨hx1, h3⟩, by simp only [RdL]; exact ⟨v, vs, rfl, hx2, h4⟩⟩
/-- the elements of a slice, as a list -/
def nth {α : Type} [Inhabited α] (l : List α) (i : Nat) : α := l.getD i default
theorem nth_mem {α : Type} [Inhabited α] {l : List α} {i : Nat} (h : i < l.length) : nth l i ∈ l := by
  unfold nth; rw [List.getD_eq_getElem?_getD, List.getElem?_eq_getElem h]; exact List.getElem_mem h
theorem nth_of {α : Type} [Inhabited α] {l : List α} {i : Nat} {a : α} (h : l[i]? = some a) : nth l i = a := by
  unfold nth; rw [List.getD_eq_getElem?_getD, h]; rfl
theorem nth_append_left {α : Type} [Inhabited α] {l m : List α} {i : Nat} (h : i < l.length) : nth (l ++ m) i = nth l i := by
  unfold nth; simp only [List.getD_eq_getElem?_getD]; rw [List.getElem?_append_left h]
theorem nth_append_right {α : Type} [Inhabited α] {l m : List α} {i : Nat} (h : l.length ≤ i) : nth (l ++ m) i = nth m (i - l.length) := by
  unfold nth; simp only [List.getD_eq_getElem?_getD]; rw [List.getElem?_append_right h]
theorem take_succ_nth {α : Type} [Inhabited α] {l : List α} {i : Nat} (h : i < l.length) : l.take (i + 1) = l.take i ++ [nth l i] := by
  rw [List.take_succ_eq_append_getElem h]; congr 1; simp [nth, List.getD_eq_getElem?_getD, h]
theorem drop_nth {α : Type} [Inhabited α] {l : List α} {i : Nat} (h : i < l.length) : l.drop i = nth l i :: l.drop (i + 1) := by
  rw [List.drop_eq_getElem_cons h]; congr 1; simp [nth, List.getD_eq_getElem?_getD, h]
theorem catR_snoc {α : Type} [Inhabited α] (f : α → List D) (l : List α) (a : α) (i : Nat) (h : i < (l ++ [a]).length) : catR l.length (fun i => f (nth l i)) (lstR [f a]) i = f (nth (l ++ [a]) i) := by
  unfold catR
  by_cases hi : i < l.length
  · rw [if_pos hi, nth_append_left hi]
  · have : i = l.length := by simp at h; omega
    subst this
    rw [if_neg hi, nth_append_right (Nat.le_refl _)]
    simp [lstR, nth]
theorem args_nil {xs : List D} (h : ArgsShp te [] xs) : xs = [] := by
  cases xs with
  | nil => rfl
  | cons x xs => exact h.elim
theorem args_cons {t : TypeId} {ts : List TypeId} {xs : List D} (h : ArgsShp te (t :: ts) xs) : ∃ x r, xs = x :: r ∧ ArgShp te t x ∧ ArgsShp te ts r := by
  cases xs with
  | nil => exact h.elim
  | cons x xs => exact ⟨x, xs, rfl, h.1, h.2⟩
end
end Go.Kin
namespace Go.Kin
open Go.Lib
/-! ### words of queries, as functions of lists -/
def letterI (n : Int) : Bool := decide (97 ≤ n) && decide (n ≤ 122)
def digitI (n : Int) : Bool := decide (48 ≤ n) && decide (n ≤ 57)
def signI (n : Int) : Bool := letterI n || digitI n || n == 95
def blankI (n : Int) : Bool := n == 32 || n == 9 || n == 10
/-- how many bytes from the begin on something is so of -/
def spanN (p : Int → Bool) : List UInt8 → Nat
 | [] => 0
 | c :: r => if p c.toNat = true then spanN p r + 1 else 0
theorem spanN_le (p : Int → Bool) : ∀ s : List UInt8, spanN p s ≤ s.length
 | [] => Nat.le_refl _
 | c :: r => by
  have := spanN_le p r
  simp only [spanN, List.length_cons]; split <;> omega
theorem drop_getD {s : List UInt8} {i : Nat} (h : i < s.length) : s.drop i = s.getD i 0 :: s.drop (i + 1) := by
 rw [List.drop_eq_getElem_cons h, List.getD_eq_getElem?_getD, List.getElem?_eq_getElem h]; rfl
theorem spanN_drop {p : Int → Bool} {s : List UInt8} {i : Nat} (h : i < s.length) {b : Bool} (hb : p ((s.getD i 0).toNat : Int) = b) : spanN p (s.drop i) = if b = true then spanN p (s.drop (i + 1)) + 1 else 0 := by
 rw [drop_getD h]; simp only [spanN, hb]
def vertexB (s : List UInt8) : Bool := s.all (fun c => signI c.toNat) && (!(s == []) && decide ((s.length : Int) ≤ 20))
structure Tk where
 k : Int
 t : List UInt8
 a : Int
 v : Vl
 deriving DecidableEq, Inhabited
def v0 : Vl := ⟨0, 0, []⟩
def valuedT (w : List UInt8) (k : Int) : Tk := ⟨k, w, 0, parseV w⟩
def signsF : List (List UInt8) := [[40], [41], [91], [93], [44], [46], [124], [42], [43], [63], [61], [33, 61], [60], [60, 61], [62], [62, 61], [45, 91], [93, 45, 62], [61, 91], [93, 61, 62]]
def bestStep (s best x : List UInt8) : List UInt8 := if (hasPrefix s x && decide ((best.length : Int) < (x.length : Int))) = true then x else best
def bestSign (s : List UInt8) : List UInt8 := signsF.foldl (bestStep s) []
def wordN (s : List UInt8) : List UInt8 := s.take (spanN signI s)
def digitN (s : List UInt8) : List UInt8 := s.take (spanN digitI s)
def minusN (s : List UInt8) : List UInt8 := s.take (1 + spanN digitI (s.drop 1))
def textN (s : List UInt8) : List UInt8 := s.take (indexByte (s.drop 1) 34 + 2).toNat
/-- the token with which a text begins, that begins with no blank -/
def firstT (s : List UInt8) : Tk :=
 if s = [] then ⟨5, [], 0, v0⟩
 else if letterI (s.getD 0 0).toNat = true then ⟨1, wordN s, 0, v0⟩
 else if digitI (s.getD 0 0).toNat = true then valuedT (digitN s) 2
 else if (((s.getD 0 0).toNat : Int) == 45 && decide (0 < (spanN digitI (s.drop 1) : Int))) = true then valuedT (minusN s) 2
 else if (((s.getD 0 0).toNat : Int) == 34) = true then (if indexByte (s.drop 1) 34 < 0 then ⟨0, [], 0, v0⟩ else valuedT (textN s) 3)
 else ⟨4, bestSign s, 0, v0⟩
/-- is there one? -/
def firstB (s : List UInt8) : Bool :=
 if s = [] then true
 else if letterI (s.getD 0 0).toNat = true then vertexB (wordN s)
 else if digitI (s.getD 0 0).toNat = true then parseE (digitN s) == 0
 else if (((s.getD 0 0).toNat : Int) == 45 && decide (0 < (spanN digitI (s.drop 1) : Int))) = true then parseE (minusN s) == 0
 else if (((s.getD 0 0).toNat : Int) == 34) = true then (if indexByte (s.drop 1) 34 < 0 then false else parseE (textN s) == 0)
 else !(bestSign s == [])
def Tk.at' (t : Tk) (a : Int) : Tk := ⟨t.k, t.t, a, t.v⟩
/-- the tokens of what is left of a text, from a place on; where there is none -/
def lexR : Nat → Nat → List UInt8 → List Tk × Option Nat
 | 0, a, _ => ([], some a)
 | f + 1, a, s =>
  if firstB (s.drop (spanN blankI s)) = false then ([], some (a + spanN blankI s))
  else if (firstT (s.drop (spanN blankI s))).k = 5 then ([(firstT (s.drop (spanN blankI s))).at' (a + spanN blankI s : Nat)], none)
  else ((firstT (s.drop (spanN blankI s))).at' (a + spanN blankI s : Nat) :: (lexR f (a + spanN blankI s + (firstT (s.drop (spanN blankI s))).t.length) ((s.drop (spanN blankI s)).drop (firstT (s.drop (spanN blankI s))).t.length)).1,
   (lexR f (a + spanN blankI s + (firstT (s.drop (spanN blankI s))).t.length) ((s.drop (spanN blankI s)).drop (firstT (s.drop (spanN blankI s))).t.length)).2)
theorem indexByte_lt : ∀ (l : List UInt8) (c : UInt8), -1 ≤ indexByte l c ∧ indexByte l c < l.length
 | [], c => by simp [indexByte]
 | b :: l, c => by
  have := indexByte_lt l c
  simp only [indexByte]
  split
  ·simp <;> omega
  ·split
   ·simp <;> omega
   ·rename_i h; simp at h; simp; omega
theorem bestSign_mem (s : List UInt8) : bestSign s = [] ∨ (bestSign s ∈ signsF ∧ hasPrefix s (bestSign s) = true) := by
 unfold bestSign
 have : ∀ (l : List (List UInt8)) (b : List UInt8), (b = [] ∨ (b ∈ signsF ∧ hasPrefix s b = true)) → (∀ x ∈ l, x ∈ signsF) → (l.foldl (bestStep s) b = [] ∨ (l.foldl (bestStep s) b ∈ signsF ∧ hasPrefix s (l.foldl (bestStep s) b) = true)) := by
  intro l
  induction l with
  | nil => intro b h _; exact h
  | cons x r ih =>
   intro b h hm
   refine ih _ ?_ (fun y hy => hm y (List.mem_cons_of_mem _ hy))
   unfold bestStep
   split
   ·rename_i h'; simp at h'
    exact .inr ⟨hm x (List.mem_cons_self ..), h'.1⟩
   ·exact h
 exact this _ _ (.inl rfl) (fun _ h => h)
theorem hasPrefix_le {s p : List UInt8} (h : hasPrefix s p = true) : p.length ≤ s.length := by
 unfold hasPrefix at h; rw [List.isPrefixOf_iff_prefix] at h; exact h.length_le
theorem wordN_len (s : List UInt8) : (wordN s).length = spanN signI s := by unfold wordN; simp [spanN_le]
theorem digitN_len (s : List UInt8) : (digitN s).length = spanN digitI s := by unfold digitN; simp [spanN_le]
/-- a token that is none of the end is some bytes of the text -/
theorem first_len {s : List UInt8} (hb : firstB s = true) (hk : (firstT s).k ≠ 5) : 0 < (firstT s).t.length ∧ (firstT s).t.length ≤ s.length := by
 unfold firstT firstB at *
 by_cases h0 : s = []
 ·simp [h0] at hk
 ·rw [if_neg h0] at hb hk ⊢
  have hl : 0 < s.length := List.length_pos_iff.2 h0
  have hs : s = s.getD 0 0 :: s.drop 1 := by have := drop_getD (s := s) (i := 0) hl; simpa using this
  by_cases h1 : letterI (s.getD 0 0).toNat = true
  ·rw [if_pos h1]; simp only [wordN_len]
   refine ⟨?_, spanN_le _ _⟩
   rw [hs]; simp only [spanN]; rw [if_pos (by unfold signI; rw [h1]; rfl)]; omega
  ·rw [if_neg h1] at hb hk ⊢
   by_cases h2 : digitI (s.getD 0 0).toNat = true
   ·rw [if_pos h2]; simp only [valuedT, digitN_len]
    refine ⟨?_, spanN_le _ _⟩
    rw [hs]; simp only [spanN]; rw [if_pos h2]; omega
   ·rw [if_neg h2] at hb hk ⊢
    by_cases h3 : (((s.getD 0 0).toNat : Int) == 45 && decide (0 < (spanN digitI (s.drop 1) : Int))) = true
    ·rw [if_pos h3]; simp only [valuedT, minusN, List.length_take]
     have := spanN_le digitI (s.drop 1)
     simp at this; omega
    ·rw [if_neg h3] at hb hk ⊢
     by_cases h4 : (((s.getD 0 0).toNat : Int) == 34) = true
     ·rw [if_pos h4] at hb hk ⊢
      by_cases h5 : indexByte (s.drop 1) 34 < 0
      ·rw [if_pos h5] at hb; cases hb
      ·rw [if_neg h5]; simp only [valuedT, textN, List.length_take]
       have := indexByte_lt (s.drop 1) 34
       simp at this; omega
     ·rw [if_neg h4] at hb hk ⊢
      simp at hb
      refine ⟨List.length_pos_iff.2 hb, ?_⟩
      rcases bestSign_mem s with h | h
      ·exact absurd h hb
      ·exact hasPrefix_le h.2
theorem first_end {s : List UInt8} : (firstT s).k = 5 ↔ s = [] := by
 unfold firstT
 by_cases h0 : s = []
 ·simp [h0]
 ·rw [if_neg h0]
  simp only [h0, iff_false]
  repeat' split
  all_goals simp [valuedT]
theorem lexR_fuel : ∀ (f g a : Nat) (s : List UInt8), s.length < f → s.length < g → lexR f a s = lexR g a s
 | 0, _, _, _, h, _ => absurd h (by omega)
 | _ + 1, 0, _, _, _, h => absurd h (by omega)
 | f + 1, g + 1, a, s, hf, hg => by
  simp only [lexR]
  split
  ·rfl
  ·split
   ·rfl
   ·rename_i h1 h2
    have hl := first_len (by simpa using h1) h2
    rw [lexR_fuel f g _ _ (by simp at hl ⊢; omega) (by simp at hl ⊢; omega)]
/-- from a place of a text on -/
def lexAt (s : List UInt8) (a : Nat) : List Tk × Option Nat := lexR (s.length + 1) a (s.drop a)
/-- where the next token begins -/
def nextA (s : List UInt8) (a : Nat) : Nat := a + spanN blankI (s.drop a)
theorem nextA_le {s : List UInt8} {a : Nat} (h : a ≤ s.length) : nextA s a ≤ s.length := by
 have := spanN_le blankI (s.drop a); simp at this; unfold nextA; omega
theorem lexAt_eq {s : List UInt8} {a : Nat} (h : a ≤ s.length) : lexAt s a =
  if firstB (s.drop (nextA s a)) = false then ([], some (nextA s a))
  else if (firstT (s.drop (nextA s a))).k = 5 then ([(firstT (s.drop (nextA s a))).at' (nextA s a : Nat)], none)
  else ((firstT (s.drop (nextA s a))).at' (nextA s a : Nat) :: (lexAt s (nextA s a + (firstT (s.drop (nextA s a))).t.length)).1, (lexAt s (nextA s a + (firstT (s.drop (nextA s a))).t.length)).2) := by
 have e : (s.drop a).drop (spanN blankI (s.drop a)) = s.drop (nextA s a) := by rw [List.drop_drop]; rfl
 have e2 : ∀ n, (s.drop (nextA s a)).drop n = s.drop (nextA s a + n) := fun n => by rw [List.drop_drop]
 unfold lexAt
 rw [lexR, e, e2]
 split
 ·rfl
 ·split
  ·rfl
  ·rename_i h1 h2
   have hl := first_len (by simpa using h1) h2
   rw [lexR_fuel s.length (s.length + 1) _ _ (by simp at hl ⊢; omega) (by simp; omega)]
   rfl
def lexAll (s : List UInt8) : List Tk × Option Nat := lexAt s 0
def lexT (s : List UInt8) : List Tk := if 2000 < (s.length : Int) then [] else match (lexAll s).2 with | none => (lexAll s).1 | some _ => []
def lexA (s : List UInt8) : Int := if 2000 < (s.length : Int) then 0 else match (lexAll s).2 with | none => 0 | some a => (a : Int)
def lexE (s : List UInt8) : Int := if 2000 < (s.length : Int) then 3 else match (lexAll s).2 with | none => 0 | some _ => 7
end Go.Kin
namespace Go.Kin
open Go.Lib
def signsR : List (List UInt8) := [[93, 45, 62], [93, 61, 62], [33, 61], [60, 61], [62, 61], [45, 91], [61, 91], [40], [41], [91], [93], [44], [46], [124], [42], [43], [63], [61], [60], [62]]
/-- the longest sign with which a text begins -/
def IsBest (s r : List UInt8) : Prop := (r = [] ∧ ∀ x ∈ signsF, hasPrefix s x = false) ∨ (r ∈ signsF ∧ hasPrefix s r = true ∧ ∀ x ∈ signsF, hasPrefix s x = true → x.length ≤ r.length)
theorem signs_ne : ∀ x ∈ signsF, 0 < x.length := by decide
theorem best_isBest (s : List UInt8) : IsBest s (bestSign s) := by
 have : ∀ (l p : List (List UInt8)) (b : List UInt8), (∀ x ∈ l, x ∈ signsF) → ((b = [] ∧ ∀ x ∈ p, hasPrefix s x = false) ∨ (b ∈ signsF ∧ hasPrefix s b = true ∧ ∀ x ∈ p, hasPrefix s x = true → x.length ≤ b.length)) →
   ((l.foldl (bestStep s) b = [] ∧ ∀ x ∈ p ++ l, hasPrefix s x = false) ∨ (l.foldl (bestStep s) b ∈ signsF ∧ hasPrefix s (l.foldl (bestStep s) b) = true ∧ ∀ x ∈ p ++ l, hasPrefix s x = true → x.length ≤ (l.foldl (bestStep s) b).length)) := by
  intro l
  induction l with
  | nil => intro p b _ h; simpa using h
  | cons y r ih =>
   intro p b hm h
   have hy := hm y (List.mem_cons_self ..)
   have h2 := ih (p ++ [y]) (bestStep s b y) (fun x hx => hm x (List.mem_cons_of_mem _ hx)) (by
    unfold bestStep
    by_cases hp : hasPrefix s y = true
    ·by_cases hl : b.length < y.length
     ·rw [if_pos (by rw [hp, Bool.true_and]; exact decide_eq_true (by omega))]
      right
      refine ⟨hy, hp, fun x hx hx2 => ?_⟩
      rcases List.mem_append.1 hx with hx | hx
      ·rcases h with ⟨_, h⟩ | ⟨_, _, h⟩
       ·rw [h x hx] at hx2; cases hx2
       ·have := h x hx hx2; omega
      ·simp at hx; subst hx; omega
     ·rw [if_neg (by rw [hp, Bool.true_and]; intro e; have := of_decide_eq_true e; omega)]
      rcases h with ⟨rfl, h⟩ | ⟨h1, h2, h3⟩
      ·have := signs_ne y hy; simp at hl; subst hl; simp at this
      ·right
       refine ⟨h1, h2, fun x hx hx2 => ?_⟩
       rcases List.mem_append.1 hx with hx | hx
       ·exact h3 x hx hx2
       ·simp at hx; subst hx; omega
    ·have hp' : hasPrefix s y = false := by simpa using hp
     rw [if_neg (by rw [hp']; simp)]
     rcases h with ⟨h1, h2⟩ | ⟨h1, h2, h3⟩
     ·left; refine ⟨h1, fun x hx => ?_⟩
      rcases List.mem_append.1 hx with hx | hx
      ·exact h2 x hx
      ·simp at hx; subst hx; exact hp'
     ·right; refine ⟨h1, h2, fun x hx hx2 => ?_⟩
      rcases List.mem_append.1 hx with hx | hx
      ·exact h3 x hx hx2
      ·simp at hx; subst hx; rw [hp'] at hx2; cases hx2)
   simpa using h2
 have h := this signsF [] [] (fun _ h => h) (.inl ⟨rfl, fun x hx => by cases hx⟩)
 exact h
theorem prefix_take {s p : List UInt8} (h : hasPrefix s p = true) : p = s.take p.length := by
 unfold hasPrefix at h; rw [List.isPrefixOf_iff_prefix] at h
 exact List.prefix_iff_eq_take.1 h
theorem isBest_unique {s r r' : List UInt8} (h : IsBest s r) (h' : IsBest s r') : r = r' := by
 rcases h with ⟨rfl, h⟩ | ⟨h1, h2, h3⟩ <;> rcases h' with ⟨rfl, h'⟩ | ⟨h1', h2', h3'⟩
 ·rfl
 ·rw [h _ h1'] at h2'; cases h2'
 ·rw [h' _ h1] at h2; cases h2
 ·have e : r.length = r'.length := Nat.le_antisymm (h3' r h1 h2) (h3 r' h1' h2')
  rw [prefix_take h2, prefix_take h2', e]
/-! ### tokens by definition -/
end Go.Kin
namespace Go.Kin
open Go.Lib
theorem spanN_take (p : Int → Bool) : ∀ (z : List UInt8) (n : Nat), spanN p (z.take n) = min n (spanN p z)
 | [], n => by simp [spanN]
 | c :: r, 0 => by simp [spanN]
 | c :: r, n + 1 => by
  have := spanN_take p r n
  simp only [List.take_succ_cons, spanN]
  split <;> omega
theorem spanN_max {p : Int → Bool} : ∀ {z : List UInt8} , spanN p z < z.length → p ((z.getD (spanN p z) 0).toNat) = false
 | [], h => by simp at h
 | c :: r, h => by
  simp only [spanN] at h ⊢
  by_cases hc : p c.toNat = true
  ·rw [if_pos hc] at h ⊢
   have := spanN_max (p := p) (z := r) (by simp at h; exact h)
   simpa using this
  ·rw [if_neg hc] at h ⊢
   simpa using hc
theorem spanN_zero {p : Int → Bool} {s : List UInt8} : spanN p (s.drop (spanN p s)) = 0 := by
 by_cases h : spanN p s < s.length
 ·rw [spanN_drop h (spanN_max h)]; simp
 ·have := spanN_le p s
  have e : s.drop (spanN p s) = [] := List.drop_eq_nil_of_le (by omega)
  rw [e]; rfl
theorem index_take : ∀ (l : List UInt8) (c : UInt8) (m : Nat), 0 ≤ indexByte l c → indexByte l c < (m : Int) → indexByte (l.take m) c = indexByte l c
 | [], c, m, _, _ => by simp
 | b :: l, c, 0, h1, h2 => by omega
 | b :: l, c, m + 1, h1, h2 => by
  simp only [List.take_succ_cons, indexByte] at *
  split at h1
  ·rename_i h; rw [if_pos h, if_pos h]
  ·rename_i h
   rw [if_neg h, if_neg h]
   rw [if_neg h] at h2
   split at h1
   ·omega
   ·rename_i hq
    rw [if_neg hq] at h2
    have := index_take l c m (by have := indexByte_lt l c; simp at hq; omega) (by omega)
    rw [this]
theorem pre_iff {s p : List UInt8} : hasPrefix s p = true ↔ p <+: s := by unfold hasPrefix; rw [List.isPrefixOf_iff_prefix]
theorem bestSign_take {z : List UInt8} {n : Nat} (h0 : bestSign z ≠ []) (hn : (bestSign z).length ≤ n) : bestSign (z.take n) = bestSign z := by
 refine isBest_unique (best_isBest _) ?_
 rcases best_isBest z with h | ⟨h1, h2, h3⟩
 ·exact absurd h.1 h0
 ·refine .inr ⟨h1, ?_, fun x hx hp => h3 x hx (pre_iff.2 ((pre_iff.1 hp).trans (List.take_prefix _ _)))⟩
  rw [pre_iff] at h2 ⊢
  exact List.prefix_take_iff.2 ⟨h2, hn⟩
theorem first_take {z : List UInt8} {n : Nat} (hb : firstB z = true) (hk : (firstT z).k ≠ 5) (hn : (firstT z).t.length ≤ n) : firstT (z.take n) = firstT z ∧ firstB (z.take n) = true := by
 have hl := first_len hb hk
 have h0 : z ≠ [] := by intro e; exact hk (first_end.2 e)
 have hz : 0 < z.length := List.length_pos_iff.2 h0
 have h0' : z.take n ≠ [] := by
  intro e
  have : (z.take n).length = 0 := by rw [e]; rfl
  rw [List.length_take] at this; omega
 have hg : (z.take n).getD 0 0 = z.getD 0 0 := by
  cases z with
  | nil => exact absurd rfl h0
  | cons c r => cases n with
   | zero => omega
   | succ n => rfl
 have hd : (z.take n).drop 1 = (z.drop 1).take (n - 1) := by
  cases z with
  | nil => exact absurd rfl h0
  | cons c r => cases n with
   | zero => omega
   | succ n => rfl
 unfold firstT firstB at *
 rw [if_neg h0] at hb hk hn hl
 rw [if_neg h0', if_neg h0', if_neg h0, hg]
 by_cases h1 : letterI (z.getD 0 0).toNat = true
 ·simp only [if_pos h1] at hb hk hn hl ⊢
  have e : wordN (z.take n) = wordN z := by
   unfold wordN
   rw [wordN_len] at hn
   rw [spanN_take, List.take_take]; congr 1; omega
  rw [e]; exact ⟨rfl, hb⟩
 ·simp only [if_neg h1] at hb hk hn hl ⊢
  by_cases h2 : digitI (z.getD 0 0).toNat = true
  ·simp only [if_pos h2] at hb hk hn hl ⊢
   have e : digitN (z.take n) = digitN z := by
    unfold digitN
    simp only [valuedT, digitN_len] at hn
    rw [spanN_take, List.take_take]; congr 1; omega
   rw [e]; exact ⟨rfl, hb⟩
  ·simp only [if_neg h2] at hb hk hn hl ⊢
   have hsp := spanN_take digitI (z.drop 1) (n - 1)
   rw [hd, hsp]
   by_cases h3 : (((z.getD 0 0).toNat : Int) == 45 && decide (0 < (spanN digitI (z.drop 1) : Int))) = true
   ·simp only [if_pos h3] at hb hk hn hl
    have hm : min (n - 1) (spanN digitI (z.drop 1)) = spanN digitI (z.drop 1) := by
     have := spanN_le digitI (z.drop 1)
     simp only [valuedT, minusN, List.length_take] at hn
     rw [List.length_drop] at this
     omega
    rw [hm]
    simp only [if_pos h3]
    have e : minusN (z.take n) = minusN z := by
     unfold minusN
     rw [hd, hsp, hm, List.take_take]
     have := spanN_le digitI (z.drop 1)
     simp only [valuedT, minusN, List.length_take] at hn
     rw [List.length_drop] at this
     congr 1; omega
    rw [e]; exact ⟨rfl, hb⟩
   ·simp only [if_neg h3] at hb hk hn hl
    have h3' : ¬ (((z.getD 0 0).toNat : Int) == 45 && decide (0 < ((min (n - 1) (spanN digitI (z.drop 1)) : Nat) : Int))) = true := by
     intro h; apply h3
     simp only [Bool.and_eq_true, decide_eq_true_eq] at h ⊢
     exact ⟨h.1, by omega⟩
    simp only [if_neg h3', if_neg h3]
    by_cases h4 : (((z.getD 0 0).toNat : Int) == 34) = true
    ·simp only [if_pos h4] at hb hk hn hl ⊢
     by_cases h5 : indexByte (z.drop 1) 34 < 0
     ·rw [if_pos h5] at hb; cases hb
     ·simp only [if_neg h5] at hb hk hn hl
      have hi := indexByte_lt (z.drop 1) 34
      have hle : (indexByte (z.drop 1) 34 + 2).toNat ≤ n := by
       simp only [valuedT, textN, List.length_take] at hn
       rw [List.length_drop] at hi
       omega
      have ei : indexByte ((z.drop 1).take (n - 1)) 34 = indexByte (z.drop 1) 34 := index_take _ _ _ (by omega) (by omega)
      rw [ei]
      simp only [if_neg h5]
      have e : textN (z.take n) = textN z := by
       unfold textN
       rw [hd, ei, List.take_take]
       congr 1; omega
      rw [e]; exact ⟨rfl, hb⟩
    ·simp only [if_neg h4] at hb hk hn hl ⊢
     have e := bestSign_take (z := z) (n := n) (by simpa using hb) hn
     rw [e]; exact ⟨rfl, hb⟩
theorem first_text {z : List UInt8} (hb : firstB z = true) (hk : (firstT z).k ≠ 5) : (firstT z).t = z.take (firstT z).t.length := by
 have h0 : z ≠ [] := by intro e; exact hk (first_end.2 e)
 unfold firstT firstB at *
 rw [if_neg h0] at hb hk ⊢
 by_cases h1 : letterI (z.getD 0 0).toNat = true
 ·simp only [if_pos h1]; unfold wordN; rw [List.length_take, ← List.take_take, List.take_length]
 ·simp only [if_neg h1] at hb hk ⊢
  by_cases h2 : digitI (z.getD 0 0).toNat = true
  ·simp only [if_pos h2, valuedT]; unfold digitN; rw [List.length_take, ← List.take_take, List.take_length]
  ·simp only [if_neg h2] at hb hk ⊢
   by_cases h3 : (((z.getD 0 0).toNat : Int) == 45 && decide (0 < (spanN digitI (z.drop 1) : Int))) = true
   ·simp only [if_pos h3, valuedT]; unfold minusN; rw [List.length_take, ← List.take_take, List.take_length]
   ·simp only [if_neg h3] at hb hk ⊢
    by_cases h4 : (((z.getD 0 0).toNat : Int) == 34) = true
    ·simp only [if_pos h4] at hb hk ⊢
     by_cases h5 : indexByte (z.drop 1) 34 < 0
     ·rw [if_pos h5] at hb; cases hb
     ·simp only [if_neg h5, valuedT]; unfold textN; rw [List.length_take, ← List.take_take, List.take_length]
    ·simp only [if_neg h4] at hb hk ⊢
     rcases bestSign_mem z with h | h
     ·simp at hb; exact absurd h hb
     ·exact prefix_take h.2
end Go.Kin
namespace Go.Proofs
open Go.Shelf
def powName : String := match (Go.Proofs.YtonchjamoblioaaGreatDoor.Rows.showTellsRow.laid : List (String × DataW Unit)) with
 | _ :: _ :: x :: _ => x.1
 | _ => default
def Tryz.lays156_ren : Go.Shelf.Ren := ⟨fun | 156 => 147 | 165 => 178 | 166 => 179 | 169 => 180 | 240 => 203 | 241 => 204 | 276 => 222 | 277 => 223 | n => n, fun | 31 => 59 | 9 => 9 | 3 => 3 | 4 => 4 | 0 => 0 | 20 => 20 | 72 => 184 | 76 => 187 | 70 => 181 | 37 => 182 | 75 => 186 | 127 => 203 | 164 => 218 | 5 => 5 | 80 => 169 | n => n, fun | n => n⟩
open Go.RowKit in
open Go.RowKit in
def Tryz.laysM171_ren : Go.Shelf.Ren := ⟨fun | 171 => 47 | 243 => 93 | 246 => 152 | 283 => 184 | 284 => 185 | 285 => 186 | 286 => 187 | 129 => 207 | 317 => 206 | 318 => 208 | 319 => 209 | 320 => 210 | 337 => 224 | 338 => 225 | n => n, fun | 3 => 3 | 9 => 9 | 2 => 2 | 4 => 4 | 171 => 190 | 0 => 0 | 53 => 191 | 37 => 182 | 5 => 5 | 173 => 194 | 212 => 206 | 51 => 207 | 20 => 20 | 213 => 208 | 46 => 209 | 232 => 228 | 233 => 229 | n => n, fun | 17 => 0 | 18 => 4 | 19 => 5 | n => n⟩
theorem Tryz.laysM171 : Go.Proofs.LaysM.n171 Tryz.prog Tryz.laysM171_ren := {
 mixed := by kernel_rfl
 f129 := Tryz.func207.trans (congrArg some (by kernel_rfl))
 f171 := Tryz.func47.trans (congrArg some (by kernel_rfl))
 f243 := Tryz.func93.trans (congrArg some (by kernel_rfl))
 f246 := Tryz.func152.trans (congrArg some (by kernel_rfl))
 f283 := Tryz.func184.trans (congrArg some (by kernel_rfl))
 f284 := Tryz.func185.trans (congrArg some (by kernel_rfl))
 f285 := Tryz.func186.trans (congrArg some (by kernel_rfl))
 f286 := Tryz.func187.trans (congrArg some (by kernel_rfl))
 f317 := Tryz.func206.trans (congrArg some (by kernel_rfl))
 f318 := Tryz.func208.trans (congrArg some (by kernel_rfl))
 f319 := Tryz.func209.trans (congrArg some (by kernel_rfl))
 f320 := Tryz.func210.trans (congrArg some (by kernel_rfl))
 f337 := Tryz.func224.trans (congrArg some (by kernel_rfl))
 f338 := Tryz.func225.trans (congrArg some (by kernel_rfl))
 t0 := Tryz.underlying0
 a0 := Tryz.isAgg0
 z0 := Tryz.sizeOf0
 v0 := Tryz.zeroValue0
 t2 := Tryz.underlying2
 a2 := Tryz.isAgg2
 z2 := Tryz.sizeOf2
 v2 := Tryz.zeroValue2
 t3 := Tryz.underlying3
 a3 := Tryz.isAgg3
 z3 := Tryz.sizeOf3
 v3 := Tryz.zeroValue3
 t4 := Tryz.underlying4
 a4 := Tryz.isAgg4
 z4 := Tryz.sizeOf4
 v4 := Tryz.zeroValue4
 t5 := Tryz.underlying5
 a5 := Tryz.isAgg5
 z5 := Tryz.sizeOf5
 v5 := Tryz.zeroValue5
 t9 := Tryz.underlying9
 a9 := Tryz.isAgg9
 z9 := Tryz.sizeOf9
 v9 := Tryz.zeroValue9
 t20 := Tryz.underlying20
 a20 := Tryz.isAgg20
 z20 := Tryz.sizeOf20
 v20 := Tryz.zeroValue20
 t37 := Tryz.underlying182
 a37 := Tryz.isAgg182
 z37 := Tryz.sizeOf182
 v37 := Tryz.zeroValue182
 t46 := Tryz.underlying209
 a46 := Tryz.isAgg209
 z46 := Tryz.sizeOf209
 v46 := Tryz.zeroValue209
 t51 := Tryz.underlying207
 a51 := Tryz.isAgg207
 z51 := Tryz.sizeOf207
 v51 := Tryz.zeroValue207
 t53 := Tryz.underlying191
 a53 := Tryz.isAgg191
 z53 := Tryz.sizeOf191
 v53 := Tryz.zeroValue191
 t171 := Tryz.underlying190
 a171 := Tryz.isAgg190
 z171 := Tryz.sizeOf190
 v171 := Tryz.zeroValue190
 t173 := Tryz.underlying194
 a173 := Tryz.isAgg194
 z173 := Tryz.sizeOf194
 v173 := Tryz.zeroValue194
 t212 := Tryz.underlying206
 a212 := Tryz.isAgg206
 z212 := Tryz.sizeOf206
 v212 := Tryz.zeroValue206
 t213 := Tryz.underlying208
 a213 := Tryz.isAgg208
 z213 := Tryz.sizeOf208
 t232 := Tryz.underlying228
 a232 := Tryz.isAgg228
 z232 := Tryz.sizeOf228
 v232 := Tryz.zeroValue228
 t233 := Tryz.underlying229
 a233 := Tryz.isAgg229
 z233 := Tryz.sizeOf229
 v233 := Tryz.zeroValue229
 g17 := by kernel_rfl
 g18 := by kernel_rfl
 g19 := by kernel_rfl
 i0 := by kernel_rfl
 i2 := by kernel_rfl
 i3 := by kernel_rfl
 i4 := by kernel_rfl
 i5 := by kernel_rfl
 i9 := by kernel_rfl
 i20 := by kernel_rfl
 i37 := by kernel_rfl
 i46 := by kernel_rfl
 i51 := by kernel_rfl
 i53 := by kernel_rfl
 i171 := by kernel_rfl
 i173 := by kernel_rfl
 i212 := by kernel_rfl
 i232 := by kernel_rfl
 i233 := by kernel_rfl
 m17 := by kernel_rfl
 m18 := by kernel_rfl
 m19 := by kernel_rfl }
open Go.RowKit Go.Sort Go.Lib in
theorem Tryz.strconv_Itoa (n : Int) (h0 : -9223372036854775808 ≤ n) (h1 : n ≤ 9223372036854775807) (w : World) (htab : Lib.TabIs Tryz.prog w powName .u64 Lib.pow10Tab) :
  Calls Tryz.prog 47 #[.int .i64 n] w fun e w' => e = .returned (.string ⟨(Lib.itoa n).toArray⟩) ∧ ∃ k os, w' = grow (w.drewN k) os := Any.strconv_Itoa Tryz.laysM171 n h0 h1 w htab
end Go.Proofs
