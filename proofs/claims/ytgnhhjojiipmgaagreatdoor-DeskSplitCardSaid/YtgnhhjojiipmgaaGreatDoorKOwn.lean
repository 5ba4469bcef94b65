/- Steps of a function body on data, and contracts of the functions of the seat, walked. -/
import Derived.Test.YtgnhhjojiipmgaaGreatDoorKOps
import Derived.Deep.AppendSrc
import Derived.Laws.Slices
import Derived.Laws.MakeOwn
set_option linter.unusedSimpArgs false
set_option linter.unusedVariables false
set_option linter.unusedSectionVars false
namespace Go.Kin
open Go.RowKit
section
variable {P : Program} {C : Ctx} {o : Oper} {s s' : Sy} {E : Env} {a : Act} {w : World}
theorem killL_dv (dl dk : List Nat) (vs : List Value) : killL dl dk (vs.map fun v => SV.d (.v v)) = vs.map fun v => SV.d (.v v) := by
  induction vs with
  | nil => rfl
  | cons v vs ih => simp only [List.map_cons, killL, kill, ih]
theorem killL_d (dl dk : List Nat) (ds : List D) : killL dl dk (ds.map SV.d) = ds.map SV.d := by
  induction ds with
  | nil => rfl
  | cons v vs ih => simp only [List.map_cons, killL, kill, ih]
theorem DenL_plain (vs : List Value) : DenL E w (vs.map fun v => SV.d (.v v)) vs := by
  induction vs with
  | nil => simp [DenL]
  | cons v vs ih => simp only [List.map_cons, DenL, DenV, RdV]; exact ⟨v, vs, rfl, rfl, ih⟩
theorem run_newRow (e : TypeId) (cs : Array Value) : (newRow e cs).run P w = .ok ⟨w.heap.size, 0, none⟩ (w.alloc (.cells cs e)) := by
  simp [newRow, newObj, Sem.run]
theorem ok_alloc {t : TypeId} {d : Nat} {i : TyI} (ho : o.op = .alloc t) (hd : o.dst = some d) (ht : d < s.N) (hdl : lentK d = false) (hi : TyOk P t i) : Ok1 P C o s ⟨.lp d 0, [(d, t, i.zero.map SV.d)], [], [], [d]⟩ := by
  refine ⟨by simp [ho], fun s' hx a w ⟨E, hE⟩ => ?_⟩
  obtain ⟨z, h1, h2⟩ := hi.zeroR (w := w)
  have hr : (execOp a.eval o).run P w = .ok (.value (.pointer (some ⟨w.heap.size, 0, none⟩))) (w.alloc (.cells z.cells.toList.toArray t)) := by
    simp [execOp, ho, Instr.alloc, h1, newVar, run_newRow]
  unfold gives
  rw [hr]
  have := hE.newLoc (d := d) (by rw [hx.n]; exact ht) hdl (T := t) (DenL_of_RdL (h2 w E.Z))
  rw [killL_d] at this
  rw [hd]
  exact ⟨_, this⟩
/-- a followed value as the cells of a variable -/
def cellsSV (u : TypeDesc) : SV → Option (List SV)
  | .d (.ag ds) => if aggD u then some (ds.map SV.d) else none
  | .junk => none
  | .op _ _ => none
  | .sg _ => none
  | .d (.tup _) => none
  | .d (.v x) => if aggD u then none else (match x with | .agg _ => none | .tuple _ => none | _ => some [.d (.v x)])
  | sv => if aggD u then none else some [sv]
theorem oneCell_of {s : Sy} {C : Ctx} (hE : SatE C E s a w) {u : TypeDesc} {sv : SV} {cs : List SV} (hc : cellsSV u sv = some cs) (hown : ∀ k, sv = .own k → ∃ e, s.O k = some e) {v : Value} (hv : DenV E w sv v) :
    DenL E w cs v.cells.toList := by
  unfold cellsSV at hc
  split at hc
  · rename_i ds
    split at hc
    · cases hc
      simp only [DenV, RdV] at hv
      obtain ⟨vs, rfl, h⟩ := hv
      simpa [Value.cells] using DenL_of_RdL h
    · cases hc
  · cases hc
  · cases hc
  · cases hc
  · cases hc
  · rename_i x
    split at hc
    · cases hc
    · simp only [DenV, RdV] at hv
      subst hv
      split at hc <;> first | cases hc; done | skip
      rename_i h1 h2
      cases hc
      cases v <;> first | exact absurd rfl (h1 _) | exact absurd rfl (h2 _) | (simp [Value.cells, DenL, DenV, RdV])
  · rename_i h1 h2 h2' h2'' h3 h4
    split at hc
    · cases hc
    · cases hc
      have hsh : v.cells = #[v] := by
        cases sv with
        | d x =>
          cases x with
          | v x => exact absurd rfl (h4 x)
          | sl k n x row => simp only [DenV, RdV] at hv; obtain ⟨_, _, rfl, _⟩ := hv; rfl
          | ifc t d => simp only [DenV, RdV] at hv; obtain ⟨_, rfl, _⟩ := hv; rfl
          | ptr cs => simp only [DenV, RdV] at hv; obtain ⟨_, _, rfl, _⟩ := hv; rfl
          | fn f caps => simp only [DenV, RdV] at hv; obtain ⟨_, rfl, _⟩ := hv; rfl
          | ag ds => exact absurd rfl (h1 ds)
          | tup ds => exact absurd rfl (h3 ds)
        | lp key off => simp only [DenV] at hv; subst hv; rfl
        | oa key k i f => simp only [DenV] at hv; obtain ⟨g, _, rfl⟩ := hv; rfl
        | own key =>
          simp only [DenV] at hv
          obtain ⟨ow, he⟩ := hown key rfl
          obtain ⟨_, h⟩ := hE.hp.own key ow he
          rcases h with ⟨h, _⟩ | ⟨g, cap, vs, h, _⟩ <;> rw [h] at hv <;> subst hv <;> rfl
        | fn f caps => simp only [DenV] at hv; obtain ⟨_, rfl, _⟩ := hv; rfl
        | op cs x => exact absurd rfl (h2' cs x)
        | mv f first => simp only [DenV] at hv; obtain ⟨_, rfl, _⟩ := hv; rfl
        | sg cs => exact absurd rfl (h2'' cs)
        | junk => exact absurd rfl h2
      rw [hsh]
      simp only [DenL]
      exact ⟨v, [], rfl, hv, rfl⟩
theorem ok_box {t : TypeId} {d : Nat} {x : Operand} {sv : SV} {cs : List SV} {u : TypeDesc} (ho : o.op = .box t x) (hd : o.dst = some d) (ht : d < s.N) (hdl : lentK d = false) (hx : evalO s.S x = some sv) (hc : cellsSV u sv = some cs) (hown : ∀ k, sv = .own k → ∃ e, s.O k = some e) :
    Ok1 P C o s ⟨.lp d 0, [(d, t, killL [] [d] cs)], [], [], [d]⟩ := by
  refine ⟨by simp [ho], fun s' hext a w ⟨E, hE⟩ => ?_⟩
  have hv := hext.ev hE (x := x) (by simp [ho, Op.operands]) hx
  have hcs := oneCell_of hE hc (fun k hk => by obtain ⟨e, he⟩ := hown k hk; exact ⟨e, by rw [hext.o k (by rw [he]; simp)]; exact he⟩) hv
  have hr : (execOp a.eval o).run P w = .ok (.value (.pointer (some ⟨w.heap.size, 0, none⟩))) (w.alloc (.cells (a.eval x).cells.toList.toArray t)) := by
    simp [execOp, ho, Instr.box, newVar, run_newRow]
  unfold gives
  rw [hr, hd]
  exact ⟨_, hE.newLoc (d := d) (by rw [hext.n]; exact ht) hdl (T := t) hcs⟩
/-- the cells of a block, some of them written -/
def setCs : List SV → Nat → List SV → List SV
  | cs, _, [] => cs
  | cs, off, sv :: r => setCs (cs.set off sv) (off + 1) r
theorem run_stores {key : Nat} {T : TypeId} {off : Nat} {w0 : World} {E : Env} {a : Act} {C : Ctx} : ∀ (svs : List SV) (vs : List Value) (i : Nat) (cs : List SV) (s : Sy) (w : World), SatE C E s a w → s.L key = some (T, cs) → off + i + svs.length ≤ cs.length → DenL E w0 svs vs →
    (∀ sv v, DenV E w0 sv v → DenV E w sv v) → (∀ w', (∀ b, E.Z b → w'.heap[b]? = w.heap[b]?) → ∀ sv v, DenV E w sv v → DenV E w' sv v) → (∀ v ∈ vs, v.oneCell' = true) →
    ∃ w', (storeCells ⟨E.β key, off, none⟩ vs i).run P w = .ok () w' ∧ SatE C E { s with L := fun k => if k = key then some (T, setCs cs (off + i) svs) else s.L k } a w'
  | [], vs, i, cs, s, w, hE, hL, _, hv, _, _, _ => by
    simp only [DenL] at hv; subst hv
    refine ⟨w, by simp [storeCells], ?_⟩
    have : (fun k => if k = key then some (T, setCs cs (off + i) []) else s.L k) = s.L := by funext k; by_cases hk : k = key <;> simp [hk, setCs, hL]
    rw [this]; exact hE
  | sv :: svs, vs, i, cs, s, w, hE, hL, hlen, hv, hup, hkeep, hone => by
    simp only [DenL] at hv
    obtain ⟨v, vs', rfl, h1, h2⟩ := hv
    simp only [List.length_cons] at hlen
    obtain ⟨us, hb, hus⟩ := hE.hp.loc key T cs hL
    have hul := DenL_length hus
    have hcell : ∃ u, w.cell? ⟨E.β key, off + i, none⟩ = some u := by
      refine ⟨us[off + i]'(by omega), ?_⟩
      simp [World.cell?, hb]
    obtain ⟨u, hu⟩ := hcell
    have hfz : w.frozen? ⟨E.β key, off + i, none⟩ = false := by simp [World.frozen?, hb]
    have hst : (store ((⟨E.β key, off, none⟩ : Addr).add i) v).run P w = .ok () (w.setCell ⟨E.β key, off + i, none⟩ v) := by
      rw [addr_add]
      have h1c := hone v (by simp)
      cases v <;> simp [Value.oneCell'] at h1c <;> simp [store, Sem.run, hu, hfz]
    have hE' := hE.setLoc hL (off := off + i) (hup _ _ h1)
    have hNz := (hE.hp.locN key _ hL).2
    have hk1 : ∀ b, E.Z b → (w.setCell ⟨E.β key, off + i, none⟩ v).heap[b]? = w.heap[b]? := fun b hz => Below.heap_setCell w _ v b (fun e => hNz (by have e' : b = E.β key := e; rw [← e']; exact hz))
    obtain ⟨w', hr, hS⟩ := run_stores svs vs' (i + 1) (cs.set (off + i) sv) _ _ hE' (T := T) (off := off) (key := key) (if_pos rfl) (by rw [List.length_set]; omega) h2 (fun sv v hh => hkeep _ hk1 _ _ (hup _ _ hh))
      (fun w' hw' sv v hh => by
        refine DenV.mono (E' := E) ⟨fun _ h => h, fun b hz => ?_⟩ rfl rfl hh
        exact hw' b hz) (fun v hv => hone v (by simp [hv]))
    refine ⟨w', ?_, ?_⟩
    · simp only [storeCells, Sem.run_bind, hst, Result.andThen_ok]; exact hr
    · have : (fun k => if k = key then some (T, setCs cs (off + i) (sv :: svs)) else s.L k) = (fun k => if k = key then some (T, setCs (cs.set (off + i) sv) (off + (i + 1)) svs) else (if k = key then some (T, cs.set (off + i) sv) else s.L k)) := by
        funext k; by_cases hk : k = key <;> simp [hk, setCs, Nat.add_assoc]
      rw [this]; exact hS
def leafSV : SV → Bool
  | .d (.v x) => match x with | .agg _ => false | .tuple _ => false | _ => true
  | .d (.ag _) => false
  | .d (.tup _) => false
  | .junk => false
  | .op _ _ => false
  | .sg _ => false
  | _ => true
theorem leaf_one {s : Sy} {C : Ctx} (hE : SatE C E s a w) {sv : SV} (hc : leafSV sv = true) (hown : ∀ k, sv = .own k → ∃ e, s.O k = some e) {v : Value} (hv : DenV E w sv v) : v.oneCell' = true := by
  cases sv with
  | d x =>
    cases x with
    | v x => simp only [DenV, RdV] at hv; subst hv; cases v <;> simp_all [leafSV, Value.oneCell']
    | sl k n x row => simp only [DenV, RdV] at hv; obtain ⟨_, _, rfl, _⟩ := hv; rfl
    | ifc t d => simp only [DenV, RdV] at hv; obtain ⟨_, rfl, _⟩ := hv; rfl
    | ptr cs => simp only [DenV, RdV] at hv; obtain ⟨_, _, rfl, _⟩ := hv; rfl
    | fn f caps => simp only [DenV, RdV] at hv; obtain ⟨_, rfl, _⟩ := hv; rfl
    | ag ds => simp [leafSV] at hc
    | tup ds => simp [leafSV] at hc
  | lp key off => simp only [DenV] at hv; subst hv; rfl
  | oa key k i f => simp only [DenV] at hv; obtain ⟨g, _, rfl⟩ := hv; rfl
  | own key =>
    simp only [DenV] at hv
    obtain ⟨ow, he⟩ := hown key rfl
    obtain ⟨_, h⟩ := hE.hp.own key ow he
    rcases h with ⟨h, _⟩ | ⟨g, cap, vs, h, _⟩ <;> rw [h] at hv <;> subst hv <;> rfl
  | fn f caps => simp only [DenV] at hv; obtain ⟨_, rfl, _⟩ := hv; rfl
  | op cs x => simp [leafSV] at hc
  | mv f first => simp only [DenV] at hv; obtain ⟨_, rfl, _⟩ := hv; rfl
  | sg cs => simp [leafSV] at hc
  | junk => simp [leafSV] at hc
def ownsOk (O : FO) : List SV → Bool
  | [] => true
  | .own k :: r => (O k).isSome && ownsOk O r
  | _ :: r => ownsOk O r
theorem ownsOk_mem {O : FO} : ∀ {l : List SV}, ownsOk O l = true → ∀ sv ∈ l, ∀ k, sv = .own k → ∃ e, O k = some e
  | [], _, sv, h, _, _ => by cases h
  | x :: r, h, sv, hm, k, hk => by
    rcases List.mem_cons.1 hm with rfl | hm
    · subst hk
      simp only [ownsOk, Bool.and_eq_true] at h
      exact Option.isSome_iff_exists.1 h.1
    · refine ownsOk_mem (l := r) ?_ sv hm k hk
      cases x <;> simp only [ownsOk, Bool.and_eq_true] at h <;> first | exact h | exact h.2
theorem den_one {s : Sy} {C : Ctx} (hE : SatE C E s a w) : ∀ {svs : List SV} {vs : List Value}, svs.all leafSV = true → ownsOk s.O svs = true → DenL E w svs vs → ∀ v ∈ vs, v.oneCell' = true
  | [], vs, _, _, h, v, hm => by simp only [DenL] at h; subst h; cases hm
  | sv :: svs, vs, hl, ho, h, v, hm => by
    simp only [DenL] at h
    obtain ⟨v', vs', rfl, h1, h2⟩ := h
    simp only [List.all_cons, Bool.and_eq_true] at hl
    rcases List.mem_cons.1 hm with rfl | hm
    · exact leaf_one hE hl.1 (fun k hk => ownsOk_mem ho sv (by simp) k hk) h1
    · refine den_one hE hl.2 ?_ h2 v hm
      cases sv <;> simp only [ownsOk, Bool.and_eq_true] at ho <;> first | exact ho | exact ho.2
theorem ok_store {t T : TypeId} {x y : Operand} {key off : Nat} {cs svs : List SV} {sv : SV} {i : TyI} (ho : o.op = .store t x y) (hd : o.dst = none) (hx : evalO s.S x = some (.lp key off)) (hy : evalO s.S y = some sv) (hL : s.L key = some (T, cs)) (hi : TyOk P t i)
    (hc : cellsSV i.u sv = some svs) (hown : ownsOk s.O [sv] = true) (hleaf : svs.all leafSV = true) (hsz : svs.length = i.size) (hl : off + svs.length ≤ cs.length) : Ok1 P C o s ⟨.junk, [(key, T, setCs cs off svs)], [], [], []⟩ := by
  refine ⟨by simp [ho], fun s' hext a w ⟨E, hE⟩ => ?_⟩
  have hx' := hext.ev hE (x := x) (by simp [ho, Op.operands]) hx
  have hy' := hext.ev hE (x := y) (by simp [ho, Op.operands]) hy
  simp only [DenV] at hx'
  have hown' : ∀ k, sv = .own k → ∃ e, s'.O k = some e := fun k hk => by
    obtain ⟨e, he⟩ := ownsOk_mem hown sv (by simp) k hk
    exact ⟨e, by rw [hext.o k (by rw [he]; simp)]; exact he⟩
  have hcs := oneCell_of hE hc hown' hy'
  have hL' : s'.L key = some (T, cs) := by rw [hext.l key (by rw [hL]; simp)]; exact hL
  have hlen := DenL_length hcs
  have hown2 : ownsOk s'.O svs = true := by
    unfold cellsSV at hc
    have hds : ∀ ds : List D, ownsOk s'.O (ds.map SV.d) = true := by intro ds; induction ds with | nil => rfl | cons d ds ih => simp [ownsOk, ih]
    split at hc
    · split at hc
      · cases hc; exact hds _
      · cases hc
    · cases hc
    · cases hc
    · cases hc
    · cases hc
    · split at hc
      · cases hc
      · split at hc <;> first | cases hc; done | skip
        cases hc; rfl
    · split at hc
      · cases hc
      · cases hc
        cases sv with
        | own k =>
          obtain ⟨e, he⟩ := hown' k rfl
          simp [ownsOk, he]
        | _ => rfl
  have hone := den_one hE hleaf hown2 hcs
  obtain ⟨w', hr, hS⟩ := run_stores (P := P) (off := off) svs (a.eval y).cells.toList 0 cs s' w hE hL' (by omega) hcs (fun _ _ h => h) (fun w' hw' sv v hh => DenV.mono (E' := E) ⟨fun _ h => h, hw'⟩ rfl rfl hh) hone
  have hsz' : (a.eval y).cells.size = i.size := by rw [← Array.length_toList, hlen, hsz]
  have hrun : (execOp a.eval o).run P w = .ok .skip w' := by
    simp [execOp, ho, hx', Instr.storeAt, Instr.sureAddr, storeVar, hi.size, hsz', hr]
  unfold gives
  rw [hrun, hd]
  refine ⟨E, ?_⟩
  have e1 : apply none ⟨.junk, [(key, T, setCs cs off svs)], [], [], []⟩ s' = { s' with L := fun k => if k = key then some (T, setCs cs (off + 0) svs) else s'.L k } := by
    unfold apply
    congr 1
    · funext t; cases s'.S t <;> simp [kill_nil]
    · funext k; by_cases hk : k = key <;> simp [klook, hk, killE_nil]
  rw [e1]; exact hS
end
end Go.Kin
namespace Go.Kin
open Go.RowKit
/-- rows, then other rows -/
def catR (n : Nat) (row row2 : Nat → List D) : Nat → List D := fun i => if i < n then row i else row2 (i - n)
/-- rows out of a list -/
def lstR (ls : List (List D)) : Nat → List D := fun i => ls.getD i []
theorem catR_zero (row row2 : Nat → List D) : catR 0 row row2 = row2 := by funext i; simp [catR]
/-- rows from a place on -/
def offR (n : Nat) (row : Nat → List D) : Nat → List D := fun i => row (n + i)
theorem offR_zero (row : Nat → List D) : offR 0 row = row := by funext i; simp [offR]
section
variable {P : Program} {C : Ctx} {o : Oper} {s s' : Sy} {E : Env} {a : Act} {w : World}
theorem lf_one {Z : Nat → Prop} {d : D} {v : Value} (hd : lfD d = true) (h : RdV w Z d v) : v.oneCell' = true := by
  cases d with
  | v x => simp only [RdV] at h; subst h; cases v <;> simp_all [lfD, Value.oneCell']
  | sl k n x row => simp only [RdV] at h; obtain ⟨_, _, rfl, _⟩ := h; rfl
  | ptr cs => simp only [RdV] at h; obtain ⟨_, _, rfl, _⟩ := h; rfl
  | fn f caps => simp only [RdV] at h; obtain ⟨_, rfl, _⟩ := h; rfl
  | ag ds => simp [lfD] at hd
  | tup ds => simp [lfD] at hd
  | ifc t d => simp only [RdV] at h; obtain ⟨_, rfl, _⟩ := h; rfl
theorem lfR_one {Z : Nat → Prop} : ∀ {ds : List D} {vs : List Value}, lfR ds = true → RdL w Z ds vs → ∀ v ∈ vs, v.oneCell' = true
  | [], vs, _, h, v, hm => by simp only [RdL] at h; subst h; cases hm
  | d :: ds, vs, hd, h, v, hm => by
    simp only [RdL] at h
    obtain ⟨v', vs', rfl, h1, h2⟩ := h
    simp only [lfR, Bool.and_eq_true] at hd
    rcases List.mem_cons.1 hm with rfl | hm
    · exact lf_one hd.1 h1
    · exact lfR_one hd.2 h2 v hm
/-- what a slice that is read holds, as cells -/
def SrcOf (w : World) (Z : Nat → Prop) (x : Value) (m k : Nat) (row2 : Nat → List D) : Prop :=
  (m = 0 ∧ ∃ a c, x = .slice a 0 c) ∨
  (∃ (a : Addr) (c : Nat) (news : List Value), x = .slice (some a) m c ∧ news.length = m * k ∧ (∀ (j : Nat) (u : Value), news[j]? = some u → w.cell? (a.add j) = some u) ∧ (∀ u ∈ news, u.oneCell' = true) ∧ ∀ i, i < m → (row2 i).length = k ∧ lfR (row2 i) = true ∧ RdL w Z (row2 i) ((news.drop (i * k)).take k))
theorem lt_mul_of {i m k q : Nat} (hi : i < m) (hq : q < k) : i * k + q < m * k := by
  have : (i + 1) * k ≤ m * k := Nat.mul_le_mul_right _ hi
  rw [Nat.add_mul] at this; omega
theorem div_lt {j m k : Nat} (h : j < m * k) : j / k < m ∧ j % k < k ∧ j / k * k + j % k = j := by
  have hk : 0 < k := by
    rcases Nat.eq_zero_or_pos k with h0 | h0
    · subst h0; simp at h
    · exact h0
  refine ⟨(Nat.div_lt_iff_lt_mul hk).2 h, Nat.mod_lt _ hk, ?_⟩
  rw [Nat.mul_comm]; exact Nat.div_add_mod j k
theorem srcOf_sl {Z : Nat → Prop} {k m ex : Nat} {row2 : Nat → List D} {x : Value} (h : RdV w Z (.sl k m ex row2) x) : SrcOf w Z x m k row2 := by
  simp only [RdV] at h
  obtain ⟨ad, c, rfl, h1, h2, h3, h4⟩ := h
  rcases Nat.eq_zero_or_pos m with h0 | h0
  · subst h0; exact .inl ⟨rfl, ad, c, rfl⟩
  · rcases h4 with h4 | ⟨b, off, rfl, hz, h4⟩
    · omega
    · right
      -- each row's values
      have hrow : ∀ i, i < m → ∃ vs : List Value, vs.length = k ∧ RdL w Z (row2 i) vs ∧ ∀ q, q < k → w.cell? ⟨b, off + i * k + q, none⟩ = vs[q]? := fun i hi => by
        obtain ⟨e1, e2, e3⟩ := h4 i (by omega)
        obtain ⟨vs, e4, e5⟩ := RdC_vals e3
        have e6 := RdL_length e4
        exact ⟨vs, by omega, e4, fun q hq => e5 q (by omega)⟩
      let news : List Value := (List.range (m * k)).map fun j => (w.cell? ⟨b, off + j, none⟩).getD undef
      have hlen : news.length = m * k := by simp [news]
      have hget : ∀ i q, i < m → q < k → news[i * k + q]? = w.cell? ⟨b, off + i * k + q, none⟩ := fun i q hi hq => by
        obtain ⟨vs, e1, _, e3⟩ := hrow i hi
        have hlt := lt_mul_of hi hq
        have : ∃ v, w.cell? ⟨b, off + i * k + q, none⟩ = some v := by rw [e3 q hq]; exact ⟨vs[q]'(by omega), by simp⟩
        obtain ⟨v, hv⟩ := this
        simp only [news, List.getElem?_map, List.getElem?_range hlt, Option.map_some]
        rw [show off + (i * k + q) = off + i * k + q from by omega, hv]; rfl
      have hdr : ∀ i, i < m → ∀ vs : List Value, vs.length = k → (∀ q, q < k → w.cell? ⟨b, off + i * k + q, none⟩ = vs[q]?) → (news.drop (i * k)).take k = vs := fun i hi vs hl hq => by
        refine List.ext_getElem? fun q => ?_
        rcases Nat.lt_or_ge q k with h | h
        · rw [List.getElem?_take_of_lt h, List.getElem?_drop, hget i q hi h, hq q h]
        · rw [List.getElem?_eq_none (by simp; omega), List.getElem?_eq_none (by omega)]
      refine ⟨⟨b, off, none⟩, c, news, rfl, hlen, fun j u hu => ?_, fun u hu => ?_, fun i hi => ?_⟩
      · have hj : j < m * k := by rw [← hlen]; exact (List.getElem?_eq_some_iff.1 hu).1
        obtain ⟨e1, e2, e3⟩ := div_lt hj
        have := hget (j / k) (j % k) e1 e2
        rw [e3, hu] at this
        rw [addr_add, this]
        congr 2; omega
      · obtain ⟨j, hj⟩ := List.getElem?_of_mem hu
        have hjl : j < m * k := by rw [← hlen]; exact (List.getElem?_eq_some_iff.1 hj).1
        obtain ⟨e1, e2, e3⟩ := div_lt hjl
        obtain ⟨vs, f1, f2, f3⟩ := hrow (j / k) e1
        have := hget (j / k) (j % k) e1 e2
        rw [e3, hj, f3 _ e2] at this
        exact lfR_one (h4 (j / k) (by omega)).2.1 f2 u (List.mem_of_getElem? this.symm)
      · obtain ⟨vs, f1, f2, f3⟩ := hrow i hi
        refine ⟨(h4 i (by omega)).1, (h4 i (by omega)).2.1, ?_⟩
        rw [hdr i hi vs f1 f3]; exact f2
theorem take_drop_row {vs : List Value} {i m k : Nat} (hi : i < m) : ((vs.take (m * k)).drop (i * k)).take k = (vs.drop (i * k)).take k := by
  refine List.ext_getElem? fun q => ?_
  rcases Nat.lt_or_ge q k with h | h
  · have := lt_mul_of hi h
    rw [List.getElem?_take_of_lt h, List.getElem?_take_of_lt h, List.getElem?_drop, List.getElem?_drop, List.getElem?_take_of_lt this]
  · rw [List.getElem?_eq_none (by simp; omega), List.getElem?_eq_none (by simp; omega)]
theorem srcOf_own {key : Nat} {ow : Ow} (h : OwnE E w key ow) : SrcOf w E.Z (E.ω key) ow.n ow.k ow.row := by
  obtain ⟨⟨h1, h2, h3⟩, h4⟩ := h
  rcases h4 with ⟨h4, h5⟩ | ⟨g, cap, vs, h4, h5, h6, h7, h8, h9⟩
  · exact .inl ⟨by omega, none, 0, h4⟩
  · right
    have hle : ow.n * ow.k ≤ vs.length := by rw [h8]; exact Nat.mul_le_mul_right _ (by omega)
    have hlen : (vs.take (ow.n * ow.k)).length = ow.n * ow.k := by rw [List.length_take]; omega
    refine ⟨⟨g, 0, none⟩, cap, vs.take (ow.n * ow.k), h4, hlen, fun j u hu => ?_, fun u hu => ?_, fun i hi => ⟨(h1 i (by omega)).1, (h1 i (by omega)).2, ?_⟩⟩
    · have hj : j < ow.n * ow.k := by rw [← hlen]; exact (List.getElem?_eq_some_iff.1 hu).1
      rw [List.getElem?_take_of_lt hj] at hu
      rw [addr_add]
      simp [World.cell?, h7, hu]
    · obtain ⟨j, hj⟩ := List.getElem?_of_mem hu
      have hjl : j < ow.n * ow.k := by rw [← hlen]; exact (List.getElem?_eq_some_iff.1 hj).1
      obtain ⟨e1, e2, e3⟩ := div_lt hjl
      rw [List.getElem?_take_of_lt hjl] at hj
      refine lfR_one (h1 (j / ow.k) (by omega)).2 (h9 (j / ow.k) (by omega)) u (List.mem_of_getElem? (i := j % ow.k) ?_)
      rw [List.getElem?_take_of_lt e2, List.getElem?_drop, e3, hj]
    · rw [take_drop_row hi]; exact h9 i (by omega)
/-- something of the function's own comes to be, by an operation -/
theorem ok_own_of {d : Nat} (hd : o.dst = some d) (ht : d < s.N) (kn : Nat) (old : Option Nat) (ow : Ow) (hnd : ∀ c, o.op ≠ .defer c) (hold : ∀ q, old = some q → ∃ e, s.O q = some e)
    (h : ∀ s' E a w, Ext o s s' → SatE C E s' a w → ∃ v' w', (execOp a.eval o).run P w = .ok (.value v') w' ∧ w.grownBy w' (oldB E old) ∧ (∀ g, v'.ownBlock = some g → w.heap.size ≤ g ∨ some g = oldB E old) ∧
      ∀ E' : Env, E'.Z = E.Z → E'.ω kn = v' → OwnE E' w' kn ow) : Ok1 P C o s ⟨.own kn, [], [(kn, ow)], kn :: old.toList, []⟩ := by
  refine ⟨hnd, fun s' hx a w ⟨E, hE⟩ => ?_⟩
  obtain ⟨v', w', h1, h2, h3, h4⟩ := h s' E a w hx hE
  unfold gives
  rw [h1, hd]
  exact ⟨_, hE.ownTo (d := d) (by rw [hx.n]; exact ht) kn (old := old) (fun q hq => by
    obtain ⟨e, he⟩ := hold q hq
    exact ⟨e, by rw [hx.o q (by rw [he]; simp)]; exact he⟩) h2.os h2.tape h2.output h2.size (fun b hb hne => h2.block b hb hne) h3 (h4 _ rfl (by simp))⟩
theorem run_append_zero {t tx ty e e' : TypeId} {i : TypeInfo} (ht : P.underlying t = some (.slice e)) (hx : P.underlying tx = some (.slice e')) (hi : P.info? e = some i) (base : Option Addr) (n cap : Nat) (hn : n ≤ cap) (b : Option Addr) (c : Nat) :
    (Builtin.append_ #[t, tx] ty #[.slice base n cap, .slice b 0 c]).run P w = .ok (.slice base n cap) w := by
  cases base <;> cases b <;> simp [Builtin.append_, run_underlying ht, run_underlying hx, sizeOf, typeInfo, hi, Builtin.lenOf, Builtin.firstCells, loadCells, loadCellsFrom, hn, storeCells]
theorem RdL_congr {w w' : World} {Z : Nat → Prop} (hk : Keeps w Z w' Z) {ds : List D} {vs vs' : List Value} (h : RdL w Z ds vs) (he : vs = vs') : RdL w' Z ds vs' := he ▸ h.mono hk
theorem append_run {t e : TypeId} {ty : TypeId} {i j : TyI} (hi : TyOk P t i) (hu : i.u = .slice e) (hj : TyOk P e j) (hz : j.zero.length = j.size) (hs0 : 0 < j.size) (hb0 : 0 < j.bytes) {v : Value} {ow : Ow} (he : ow.e = e) (hk : ow.k = j.size) (hnx : ow.n = ow.x)
    (hown : ∀ E' : Env, E'.Z = E.Z → ∀ kn, E'.ω kn = v → OwnE E' w kn ow) {x : Value} {m : Nat} {row2 : Nat → List D} (hsrc : SrcOf w E.Z x m j.size row2) (hZ : ∀ b, E.Z b → b < w.heap.size ∧ some b ≠ v.ownBlock) (hb : (ow.n + m) * j.bytes ≤ 140737488355328) :
    ∃ v' w', (Builtin.append_ #[t, t] ty #[v, x]).run P w = .ok v' w' ∧ w.grownBy w' v.ownBlock ∧ (∀ g, v'.ownBlock = some g → w.heap.size ≤ g ∨ some g = v.ownBlock) ∧
      ∀ E' : Env, E'.Z = E.Z → ∀ kn, E'.ω kn = v' → OwnE E' w' kn ⟨e, j.size, ow.n + m, ow.n + m, catR ow.n ow.row row2⟩ := by
  obtain ⟨h1, inf, z, h2, h3, h4, h5, h6, _⟩ := hj
  have ht : P.underlying t = some (.slice e) := hu ▸ hi.1
  have hzs : z.cells.size = j.size := by rw [← Array.length_toList, RdL_length (h6 w E.Z), hz]
  have hnm : ow.n + m ≤ 140737488355328 := by
    have := Nat.le_mul_of_pos_right (ow.n + m) hb0
    omega
  have htop : topLen = 140737488355328 := rfl
  have hml : maxLen = 9223372036854775807 := rfl
  obtain ⟨⟨o1, o2, o3⟩, o4⟩ := hown { E with ω := fun _ => v } rfl 0 rfl
  have hrows : ∀ q, q < ow.n + m → (catR ow.n ow.row row2 q).length = j.size ∧ lfR (catR ow.n ow.row row2 q) = true := fun q hq => by
    unfold catR
    by_cases hqn : q < ow.n
    · rw [if_pos hqn, ← hk]; exact o1 q (by omega)
    · rw [if_neg hqn]
      rcases hsrc with ⟨rfl, _⟩ | ⟨_, _, _, _, _, _, _, s6⟩
      · omega
      · have := s6 (q - ow.n) (by omega); exact ⟨this.1, this.2.1⟩
  rcases hsrc with ⟨rfl, ax, cx, rfl⟩ | ⟨ad, cx, news, rfl, s2, s3, s4, s6⟩
  · -- nothing is appended
    have hval : ∃ base cap, v = .slice base ow.n cap ∧ ow.n ≤ cap := by
      rcases o4 with ⟨o4, o5⟩ | ⟨g, cap, vs, o4, o5, _⟩
      · exact ⟨none, 0, by rw [show v = _ from o4]; congr 1; omega, by omega⟩
      · exact ⟨_, cap, o4, by omega⟩
    obtain ⟨base, cap, hv, hle⟩ := hval
    refine ⟨v, w, ?_, ⟨rfl, rfl, rfl, Nat.le_refl _, fun _ _ _ => rfl⟩, fun g hg => .inr hg.symm, fun E' hEZ kn hkn => ?_⟩
    · rw [hv]; exact run_append_zero ht ht h2 base ow.n cap hle ax cx
    · have h := hown E' hEZ kn hkn
      obtain ⟨⟨q1, q2, q3⟩, q4⟩ := h
      refine ⟨⟨hrows, Nat.le_refl _, by simp; omega⟩, ?_⟩
      simp only [Nat.add_zero]
      rcases q4 with ⟨q4, q5⟩ | ⟨g, cap, vs, q4, q5, q6, q7, q8, q9⟩
      · exact .inl ⟨q4, by omega⟩
      · refine .inr ⟨g, cap, vs, q4, by omega, q6, by rw [← he]; exact q7, by rw [← hk]; exact q8, fun q hq => ?_⟩
        have : catR ow.n ow.row row2 q = ow.row q := by simp [catR, hq]
        rw [this, ← hk]; exact q9 q (by omega)
  · rcases Nat.eq_zero_or_pos m with hm0 | hm0
    · subst hm0
      have hval : ∃ base cap, v = .slice base ow.n cap ∧ ow.n ≤ cap := by
        rcases o4 with ⟨o4, o5⟩ | ⟨g, cap, vs, o4, o5, _⟩
        · exact ⟨none, 0, by rw [show v = _ from o4]; congr 1; omega, by omega⟩
        · exact ⟨_, cap, o4, by omega⟩
      obtain ⟨base, cap, hv, hle⟩ := hval
      refine ⟨v, w, ?_, ⟨rfl, rfl, rfl, Nat.le_refl _, fun _ _ _ => rfl⟩, fun g hg => .inr hg.symm, fun E' hEZ kn hkn => ?_⟩
      · rw [hv]; exact run_append_zero ht ht h2 base ow.n cap hle (some ad) cx
      · have h := hown E' hEZ kn hkn
        obtain ⟨⟨q1, q2, q3⟩, q4⟩ := h
        refine ⟨⟨hrows, Nat.le_refl _, by simp; omega⟩, ?_⟩
        simp only [Nat.add_zero]
        rcases q4 with ⟨q4, q5⟩ | ⟨g, cap, vs, q4, q5, q6, q7, q8, q9⟩
        · exact .inl ⟨q4, by omega⟩
        · refine .inr ⟨g, cap, vs, q4, by omega, q6, by rw [← he]; exact q7, by rw [← hk]; exact q8, fun q hq => ?_⟩
          have : catR ow.n ow.row row2 q = ow.row q := by simp [catR, hq]
          rw [this, ← hk]; exact q9 q (by omega)
    · -- the cells that were there
      have hlst : ∀ (olds : List Value), olds.length = ow.n * j.size → (∀ q, q < ow.n → RdL w E.Z (ow.row q) ((olds.drop (q * j.size)).take j.size)) → ∀ (rest : List Value) q, q < ow.n + m → RdL w E.Z (catR ow.n ow.row row2 q) (((olds ++ news ++ rest).drop (q * j.size)).take j.size) := fun olds hl hr rest q hq => by
        unfold catR
        by_cases hqn : q < ow.n
        · rw [if_pos hqn]
          have := hr q hqn
          have hle := lt_mul_of hqn hs0
          have e : ((olds ++ news ++ rest).drop (q * j.size)).take j.size = (olds.drop (q * j.size)).take j.size := by
            refine List.ext_getElem? fun p => ?_
            rcases Nat.lt_or_ge p j.size with h | h
            · have := lt_mul_of hqn h
              rw [List.getElem?_take_of_lt h, List.getElem?_take_of_lt h, List.getElem?_drop, List.getElem?_drop, List.append_assoc, List.getElem?_append_left (by omega)]
            · rw [List.getElem?_eq_none (by simp; omega), List.getElem?_eq_none (by simp; omega)]
          rw [e]; exact this
        · rw [if_neg hqn]
          have := (s6 (q - ow.n) (by omega)).2.2
          have e : ((olds ++ news ++ rest).drop (q * j.size)).take j.size = (news.drop ((q - ow.n) * j.size)).take j.size := by
            refine List.ext_getElem? fun p => ?_
            rcases Nat.lt_or_ge p j.size with h | h
            · have h7 := lt_mul_of (show q - ow.n < m by omega) h
              have h8 : q * j.size = ow.n * j.size + (q - ow.n) * j.size := by rw [← Nat.add_mul]; congr 1; omega
              rw [List.getElem?_take_of_lt h, List.getElem?_take_of_lt h, List.getElem?_drop, List.getElem?_drop, List.append_assoc, List.getElem?_append_right (by omega), List.getElem?_append_left (by omega)]
              congr 1; omega
            · rw [List.getElem?_eq_none (by simp; omega), List.getElem?_eq_none (by simp; omega)]
          rw [e]; exact this
      have hgrow : ∀ (olds : List Value) (old : Nat), olds.length = ow.n * j.size → (∀ q, q < ow.n → RdL w E.Z (ow.row q) ((olds.drop (q * j.size)).take j.size)) → ∀ (E' : Env), E'.Z = E.Z → ∀ kn, E'.ω kn = .slice (some ⟨w.heap.size, 0, none⟩) (ow.n + m) (grownCap w (ow.n + m) old e) →
          OwnE E' (w.drew.alloc (.cells (olds.toArray ++ news.toArray ++ Builtin.zeroCells z.cells (grownCap w (ow.n + m) old e - (ow.n + m))) e)) kn ⟨e, j.size, ow.n + m, ow.n + m, catR ow.n ow.row row2⟩ := fun olds old hl hr E' hEZ kn hkn => by
        have hge := grownCap_ge w (ow.n + m) old e
        have hcm := grownCap_le_maxLen w (ow.n + m) old e (by omega)
        refine ⟨⟨hrows, Nat.le_refl _, by simp; omega⟩, .inr ⟨w.heap.size, _, (olds ++ news ++ (Builtin.zeroCells z.cells (grownCap w (ow.n + m) old e - (ow.n + m))).toList), hkn, hge, hcm, ?_, ?_, fun q hq => ?_⟩⟩
        · have := _root_.Go.heap_alloc_new w.drew (.cells (olds.toArray ++ news.toArray ++ Builtin.zeroCells z.cells (grownCap w (ow.n + m) old e - (ow.n + m))) e)
          refine this.trans ?_
          congr 2
          apply Array.ext'
          simp
        · rw [List.length_append, List.length_append, hl, s2, Array.length_toList, size_zeroCells, hzs, ← Nat.add_mul, ← Nat.add_mul]
          congr 1; omega
        · rw [hEZ]
          refine RdL_congr (w := w) ⟨fun _ h => h, fun b hb => ?_⟩ (hlst olds hl hr _ q hq) rfl
          exact _root_.Go.heap_alloc_old w.drew _ (hZ b hb).1
      have hgb : ∀ (obj : Obj) (row : Option Nat), w.grownBy (w.drew.alloc obj) row := fun obj row => ⟨rfl, rfl, rfl, by simp, fun k hk _ => _root_.Go.heap_alloc_old w.drew _ hk⟩
      rcases o4 with ⟨o4, o5⟩ | ⟨g, cap, vs, o4, o5, o6, o7, o8, o9⟩
      · -- of nothing
        have hv : v = .slice none 0 0 := o4
        have hn0 : ow.n = 0 := by omega
        have hr := run_append_nil (P := P) w t ty e inf z ht h2 h5 ad m cx news (by rw [h3]; exact s2) s3 hm0 (by omega) (by rw [h4]; rw [hn0] at hb; simp at hb; omega)
        refine ⟨_, _, by rw [hv]; exact hr, hgb _ _, fun g hg => .inl (by simp [Value.ownBlock] at hg; omega), fun E' hEZ kn hkn => ?_⟩
        have := hgrow [] 0 (by simp [hn0]) (fun q hq => by omega) E' hEZ kn (by rw [hkn, hn0]; simp)
        simpa [hn0] using this
      · have hv : v = .slice (some ⟨g, 0, none⟩) ow.n cap := o4
        have hle : ow.n * j.size ≤ vs.length := by rw [o8, ← hk]; exact Nat.mul_le_mul_right _ (by omega)
        have hol : (vs.take (ow.n * j.size)).length = ow.n * j.size := by rw [List.length_take]; omega
        have hor : ∀ q, q < ow.n → RdL w E.Z (ow.row q) (((vs.take (ow.n * j.size)).drop (q * j.size)).take j.size) := fun q hq => by
          rw [take_drop_row hq, ← hk]; exact o9 q (by omega)
        by_cases hroom : ow.n + m ≤ cap
        · have hcs : vs.toArray.size = cap * inf.size := by rw [h3, ← hk]; simpa using o8
          have hfit : ow.n * inf.size + news.length ≤ vs.toArray.size := by rw [s2, hcs, h3, ← Nat.add_mul]; exact Nat.mul_le_mul_right _ hroom
          have hr := run_append_room (P := P) w t ty e inf ht h2 g ow.n cap vs.toArray (by rw [o7, he]) ad m cx news (by rw [h3]; exact s2) s3 s4 hroom hfit
          have hr' : (Builtin.append_ #[t, t] ty #[v, .slice (some ad) m cx]).run P w = .ok (.slice (some ⟨g, 0, none⟩) (ow.n + m) cap) (w.setRow g (vs.take (ow.n * j.size) ++ news ++ vs.drop (ow.n * j.size + news.length)).toArray) := by
            rw [hv, hr, h3]
          refine ⟨_, _, hr', ⟨rfl, rfl, rfl, by simp [World.setRow], fun k hk' hne => setRow_other w g k _ (fun e' => hne (by rw [hv]; simp [Value.ownBlock, e']))⟩, fun g' hg => .inr (by rw [hv]; simpa [Value.ownBlock] using hg.symm), fun E' hEZ kn hkn => ?_⟩
          refine ⟨⟨hrows, Nat.le_refl _, by simp; omega⟩, .inr ⟨g, cap, vs.take (ow.n * j.size) ++ news ++ vs.drop (ow.n * j.size + news.length), hkn, hroom, o6, ?_, ?_, fun q hq => ?_⟩⟩
          · exact setRow_heap w g vs.toArray _ e (0, 0) (by rw [o7, he])
          · have hA : (ow.n + m) * j.size ≤ cap * j.size := Nat.mul_le_mul_right _ hroom
            rw [Nat.add_mul] at hA
            have o8' : vs.length = cap * j.size := by rw [o8, hk]
            simp only [List.length_append, hol, List.length_drop, s2, o8']
            omega
          · rw [hEZ]
            refine RdL_congr (w := w) ⟨fun _ h => h, fun b hb => ?_⟩ (hlst _ hol hor _ q hq) rfl
            exact setRow_other w g b _ (fun e' => (hZ b hb).2 (by rw [hv, e']; rfl))
        · have hcell : ∀ (p : Nat) (u : Value), (vs.take (ow.n * j.size))[p]? = some u → w.cell? ((⟨g, 0, none⟩ : Addr).add p) = some u := fun p u hu => by
            have hp : p < ow.n * j.size := by rw [← hol]; exact (List.getElem?_eq_some_iff.1 hu).1
            rw [List.getElem?_take_of_lt hp] at hu
            rw [addr_add]
            simp [World.cell?, o7, hu]
          have hr := run_append_grow (P := P) w t ty e inf z ht h2 h5 ⟨g, 0, none⟩ ow.n cap (vs.take (ow.n * j.size)) (by rw [h3]; exact hol) hcell ad m cx news (by rw [h3]; exact s2) s3 (by omega) (by omega) (growslice_fits (by omega) (by rw [h4]; exact hb))
          exact ⟨_, _, by rw [hv]; exact hr, hgb _ _, fun g' hg => .inl (by simp [Value.ownBlock] at hg; omega), fun E' hEZ kn hkn => hgrow _ cap hol hor E' hEZ kn hkn⟩
theorem ok_append {x y : Operand} {d key : Nat} {ow : Ow} {t e : TypeId} {i j : TyI} {ts : Array TypeId} {m : Nat} {row2 : Nat → List D} (ho : o.op = .call { callee := .builtin .append, args := #[x, y], argTypes := ts }) (hts : ts = #[t, t]) (hd : o.dst = some d) (ht : d < s.N)
    (hi : TyOk P t i) (hu : i.u = .slice e) (hj : TyOk P e j) (hz : j.zero.length = j.size) (hs0 : 0 < j.size) (hb0 : 0 < j.bytes) (hx : evalO s.S x = some (.own key)) (hO : s.O key = some ow) (he : ow.e = e) (hk : ow.k = j.size) (hnx : ow.n = ow.x)
    (hsrc : ∀ s' E a w, Ext o s s' → SatE C E s' a w → SrcOf w E.Z (a.eval y) m j.size row2) (hb : (ow.n + m) * j.bytes ≤ 140737488355328) : Ok1 P C o s ⟨.own key, [], [(key, ⟨e, j.size, ow.n + m, ow.n + m, catR ow.n ow.row row2⟩)], [key, key], []⟩ := by
  subst hts
  refine ok_own_of hd ht key (some key) _ (by simp [ho]) (fun q hq => by cases hq; exact ⟨_, hO⟩) fun s' E a w hext hE => ?_
  have hx' := hext.ev hE (x := x) (by simp [ho, Op.operands, Call.operands]) hx
  simp only [DenV] at hx'
  have hO' : s'.O key = some ow := by rw [hext.o key (by rw [hO]; simp)]; exact hO
  have hw := hE.hp.own key ow hO'
  obtain ⟨v', w', h1, h2, h3, h4⟩ := append_run (P := P) (E := E) (w := w) (ty := o.type) hi hu hj hz hs0 hb0 (v := E.ω key) he hk hnx (fun E' hZ kn hkn => by
      obtain ⟨q1, q2⟩ := hw
      refine ⟨q1, ?_⟩
      rw [hkn, hZ]; exact q2) (hsrc s' E a w hext hE) (fun b hb => ⟨(hE.hp.z b hb).1, fun e' => by
      exact (hE.hp.ownN key ow b hO' e'.symm).2.1 hb⟩) hb
  refine ⟨v', w', ?_, h2, h3, fun E' hZ hkn => h4 E' hZ key hkn⟩
  simp [execOp, ho, resolve, invoke, builtin, hx', h1]
theorem src_d {y : Operand} {k m ex : Nat} {row2 : Nat → List D} (hm : y ∈ o.op.operands) (hy : evalO s.S y = some (.d (.sl k m ex row2))) : ∀ s' E a w, Ext o s s' → SatE C E s' a w → SrcOf w E.Z (a.eval y) m k row2 := fun s' E a w hext hE => by
  have := hext.ev hE hm hy
  simp only [DenV] at this
  exact srcOf_sl this
theorem src_nil {y : Operand} {k c : Nat} {b : Option Addr} {row2 : Nat → List D} (hm : y ∈ o.op.operands) (hy : evalO s.S y = some (.d (.v (.slice b 0 c)))) : ∀ s' E a w, Ext o s s' → SatE C E s' a w → SrcOf w E.Z (a.eval y) 0 k row2 := fun s' E a w hext hE => by
  have := hext.ev hE hm hy
  simp only [DenV, RdV] at this
  exact .inl ⟨rfl, b, c, this⟩
theorem src_own {y : Operand} {key : Nat} {ow : Ow} (hm : y ∈ o.op.operands) (hy : evalO s.S y = some (.own key)) (hO : s.O key = some ow) : ∀ s' E a w, Ext o s s' → SatE C E s' a w → SrcOf w E.Z (a.eval y) ow.n ow.k ow.row := fun s' E a w hext hE => by
  have := hext.ev hE hm hy
  simp only [DenV] at this
  rw [this]
  exact srcOf_own (hE.hp.own key ow (by rw [hext.o key (by rw [hO]; simp)]; exact hO))
end
end Go.Kin
