/- Operations on boxes of the function itself. -/
import Derived.Test.YtmnponhhmkdcdaaDoorKOps
import Derived.Deep.AppendSrc
namespace Go.Kin
open Go.RowKit
section
variable {P : Program} {C : Ctx} {o : Oper} {s s' : Sy} {E : Env} {a : Act} {w : World}

theorem killL_dv (dl dk : List Nat) (vs : List Value) : killL dl dk (vs.map fun v => SV.d (.v v)) = vs.map fun v => SV.d (.v v) := by
  induction vs with
  | nil => rfl
  | cons v vs ih => simp only [List.map_cons, killL, kill, ih]
theorem killL_d (dl dk : List Nat) (ds : List D) : killL dl dk (ds.map SV.d) = ds.map SV.d := by
  induction ds with
  | nil => rfl
  | cons v vs ih => simp only [List.map_cons, killL, kill, ih]
theorem DenL_plain (vs : List Value) : DenL E w (vs.map fun v => SV.d (.v v)) vs := by
  induction vs with
  | nil => simp [DenL]
  | cons v vs ih => simp only [List.map_cons, DenL, DenV, RdV]; exact ⟨v, vs, rfl, rfl, ih⟩

theorem run_newRow (e : TypeId) (cs : Array Value) : (newRow e cs).run P w = .ok ⟨w.heap.size, 0, none⟩ (w.alloc (.cells cs e)) := by
  simp [newRow, newObj, Sem.run]

theorem ok_alloc {t : TypeId} {d : Nat} {i : TyI} (ho : o.op = .alloc t) (hd : o.dst = some d) (ht : d < s.N) (hi : TyOk P t i) : Ok1 P C o s ⟨.lp d 0, [(d, t, i.zero.map SV.d)], [], [], [d]⟩ := by
  refine ⟨by simp [ho], fun s' hx a w ⟨E, hE⟩ => ?_⟩
  obtain ⟨z, h1, h2⟩ := hi.zeroR (w := w)
  have hr : (execOp a.eval o).run P w = .ok (.value (.pointer (some ⟨w.heap.size, 0, none⟩))) (w.alloc (.cells z.cells.toList.toArray t)) := by
    simp [execOp, ho, Instr.alloc, h1, newVar, run_newRow]
  unfold gives
  rw [hr]
  have := hE.newLoc (d := d) (by rw [hx.n]; exact ht) (T := t) (DenL_of_RdL (h2 w E.Z))
  rw [killL_d] at this
  rw [hd]
  exact ⟨_, this⟩

/-- a followed value as the cells of a variable -/
def cellsSV (u : TypeDesc) : SV → Option (List SV)
  | .d (.ag ds) => if aggD u then some (ds.map SV.d) else none
  | .junk => none
  | .op _ _ => none
  | .d (.tup _) => none
  | .d (.v x) => if aggD u then none else (match x with | .agg _ => none | .tuple _ => none | _ => some [.d (.v x)])
  | sv => if aggD u then none else some [sv]

theorem oneCell_of {s : Sy} {C : Ctx} (hE : SatE C E s a w) {u : TypeDesc} {sv : SV} {cs : List SV} (hc : cellsSV u sv = some cs) (hown : ∀ k, sv = .own k → ∃ e, s.O k = some e) {v : Value} (hv : DenV E w sv v) :
    DenL E w cs v.cells.toList := by
  unfold cellsSV at hc
  split at hc
  · rename_i ds
    split at hc
    · cases hc
      simp only [DenV, RdV] at hv
      obtain ⟨vs, rfl, h⟩ := hv
      simpa [Value.cells] using DenL_of_RdL h
    · cases hc
  · cases hc
  · cases hc
  · cases hc
  · rename_i x
    split at hc
    · cases hc
    · simp only [DenV, RdV] at hv
      subst hv
      split at hc <;> first | cases hc; done | skip
      rename_i h1 h2
      cases hc
      cases v <;> first | exact absurd rfl (h1 _) | exact absurd rfl (h2 _) | (simp [Value.cells, DenL, DenV, RdV])
  · rename_i h1 h2 h2' h3 h4
    split at hc
    · cases hc
    · cases hc
      have hsh : v.cells = #[v] := by
        cases sv with
        | d x =>
          cases x with
          | v x => exact absurd rfl (h4 x)
          | sl k n x row => simp only [DenV, RdV] at hv; obtain ⟨_, _, rfl, _⟩ := hv; rfl
          | ifc t d => simp only [DenV, RdV] at hv; obtain ⟨_, rfl, _⟩ := hv; rfl
          | ptr cs => simp only [DenV, RdV] at hv; obtain ⟨_, _, rfl, _⟩ := hv; rfl
          | fn f caps => simp only [DenV, RdV] at hv; obtain ⟨_, rfl, _⟩ := hv; rfl
          | ag ds => exact absurd rfl (h1 ds)
          | tup ds => exact absurd rfl (h3 ds)
        | lp key off => simp only [DenV] at hv; subst hv; rfl
        | oa key k i f => simp only [DenV] at hv; obtain ⟨g, _, rfl⟩ := hv; rfl
        | own key =>
          simp only [DenV] at hv
          obtain ⟨ow, he⟩ := hown key rfl
          obtain ⟨_, h⟩ := hE.hp.own key ow he
          rcases h with ⟨h, _⟩ | ⟨g, cap, vs, h, _⟩ <;> rw [h] at hv <;> subst hv <;> rfl
        | fn f caps => simp only [DenV] at hv; obtain ⟨_, rfl, _⟩ := hv; rfl
        | op cs x => exact absurd rfl (h2' cs x)
        | junk => exact absurd rfl h2
      rw [hsh]
      simp only [DenL]
      exact ⟨v, [], rfl, hv, rfl⟩

theorem ok_box {t : TypeId} {d : Nat} {x : Operand} {sv : SV} {cs : List SV} {u : TypeDesc} (ho : o.op = .box t x) (hd : o.dst = some d) (ht : d < s.N) (hx : evalO s.S x = some sv) (hc : cellsSV u sv = some cs) (hown : ∀ k, sv = .own k → ∃ e, s.O k = some e) :
    Ok1 P C o s ⟨.lp d 0, [(d, t, killL [] [d] cs)], [], [], [d]⟩ := by
  refine ⟨by simp [ho], fun s' hext a w ⟨E, hE⟩ => ?_⟩
  have hv := hext.ev hE (x := x) (by simp [ho, Op.operands]) hx
  have hcs := oneCell_of hE hc (fun k hk => by obtain ⟨e, he⟩ := hown k hk; exact ⟨e, by rw [hext.o k (by rw [he]; simp)]; exact he⟩) hv
  have hr : (execOp a.eval o).run P w = .ok (.value (.pointer (some ⟨w.heap.size, 0, none⟩))) (w.alloc (.cells (a.eval x).cells.toList.toArray t)) := by
    simp [execOp, ho, Instr.box, newVar, run_newRow]
  unfold gives
  rw [hr, hd]
  exact ⟨_, hE.newLoc (d := d) (by rw [hext.n]; exact ht) (T := t) hcs⟩

/-- the cells of a block, some of them written -/
def setCs : List SV → Nat → List SV → List SV
  | cs, _, [] => cs
  | cs, off, sv :: r => setCs (cs.set off sv) (off + 1) r

theorem run_stores {key : Nat} {T : TypeId} {off : Nat} {w0 : World} {E : Env} {a : Act} {C : Ctx} : ∀ (svs : List SV) (vs : List Value) (i : Nat) (cs : List SV) (s : Sy) (w : World), SatE C E s a w → s.L key = some (T, cs) → off + i + svs.length ≤ cs.length → DenL E w0 svs vs →
    (∀ sv v, DenV E w0 sv v → DenV E w sv v) → (∀ w', (∀ b, E.Z b → w'.heap[b]? = w.heap[b]?) → ∀ sv v, DenV E w sv v → DenV E w' sv v) → (∀ v ∈ vs, v.oneCell' = true) →
    ∃ w', (storeCells ⟨E.β key, off, none⟩ vs i).run P w = .ok () w' ∧ SatE C E { s with L := fun k => if k = key then some (T, setCs cs (off + i) svs) else s.L k } a w'
  | [], vs, i, cs, s, w, hE, hL, _, hv, _, _, _ => by
    simp only [DenL] at hv; subst hv
    refine ⟨w, by simp [storeCells], ?_⟩
    have : (fun k => if k = key then some (T, setCs cs (off + i) []) else s.L k) = s.L := by funext k; by_cases hk : k = key <;> simp [hk, setCs, hL]
    rw [this]; exact hE
  | sv :: svs, vs, i, cs, s, w, hE, hL, hlen, hv, hup, hkeep, hone => by
    simp only [DenL] at hv
    obtain ⟨v, vs', rfl, h1, h2⟩ := hv
    simp only [List.length_cons] at hlen
    obtain ⟨us, hb, hus⟩ := hE.hp.loc key T cs hL
    have hul := DenL_length hus
    have hcell : ∃ u, w.cell? ⟨E.β key, off + i, none⟩ = some u := by
      refine ⟨us[off + i]'(by omega), ?_⟩
      simp [World.cell?, hb]
    obtain ⟨u, hu⟩ := hcell
    have hfz : w.frozen? ⟨E.β key, off + i, none⟩ = false := by simp [World.frozen?, hb]
    have hst : (store ((⟨E.β key, off, none⟩ : Addr).add i) v).run P w = .ok () (w.setCell ⟨E.β key, off + i, none⟩ v) := by
      rw [addr_add]
      have h1c := hone v (by simp)
      cases v <;> simp [Value.oneCell'] at h1c <;> simp [store, Sem.run, hu, hfz]
    have hE' := hE.setLoc hL (off := off + i) (hup _ _ h1)
    have hNz := (hE.hp.locN key _ hL).2
    have hk1 : ∀ b, E.Z b → (w.setCell ⟨E.β key, off + i, none⟩ v).heap[b]? = w.heap[b]? := fun b hz => Below.heap_setCell w _ v b (fun e => hNz (by have e' : b = E.β key := e; rw [← e']; exact hz))
    obtain ⟨w', hr, hS⟩ := run_stores svs vs' (i + 1) (cs.set (off + i) sv) _ _ hE' (T := T) (off := off) (key := key) (if_pos rfl) (by rw [List.length_set]; omega) h2 (fun sv v hh => hkeep _ hk1 _ _ (hup _ _ hh))
      (fun w' hw' sv v hh => by
        refine DenV.mono (E' := E) ⟨fun _ h => h, fun b hz => ?_⟩ rfl rfl hh
        exact hw' b hz) (fun v hv => hone v (by simp [hv]))
    refine ⟨w', ?_, ?_⟩
    · simp only [storeCells, Sem.run_bind, hst, Result.andThen_ok]; exact hr
    · have : (fun k => if k = key then some (T, setCs cs (off + i) (sv :: svs)) else s.L k) = (fun k => if k = key then some (T, setCs (cs.set (off + i) sv) (off + (i + 1)) svs) else (if k = key then some (T, cs.set (off + i) sv) else s.L k)) := by
        funext k; by_cases hk : k = key <;> simp [hk, setCs, Nat.add_assoc]
      rw [this]; exact hS


def leafSV : SV → Bool
  | .d (.v x) => match x with | .agg _ => false | .tuple _ => false | _ => true
  | .d (.ag _) => false
  | .d (.tup _) => false
  | .junk => false
  | .op _ _ => false
  | _ => true

theorem leaf_one {s : Sy} {C : Ctx} (hE : SatE C E s a w) {sv : SV} (hc : leafSV sv = true) (hown : ∀ k, sv = .own k → ∃ e, s.O k = some e) {v : Value} (hv : DenV E w sv v) : v.oneCell' = true := by
  cases sv with
  | d x =>
    cases x with
    | v x => simp only [DenV, RdV] at hv; subst hv; cases v <;> simp_all [leafSV, Value.oneCell']
    | sl k n x row => simp only [DenV, RdV] at hv; obtain ⟨_, _, rfl, _⟩ := hv; rfl
    | ifc t d => simp only [DenV, RdV] at hv; obtain ⟨_, rfl, _⟩ := hv; rfl
    | ptr cs => simp only [DenV, RdV] at hv; obtain ⟨_, _, rfl, _⟩ := hv; rfl
    | fn f caps => simp only [DenV, RdV] at hv; obtain ⟨_, rfl, _⟩ := hv; rfl
    | ag ds => simp [leafSV] at hc
    | tup ds => simp [leafSV] at hc
  | lp key off => simp only [DenV] at hv; subst hv; rfl
  | oa key k i f => simp only [DenV] at hv; obtain ⟨g, _, rfl⟩ := hv; rfl
  | own key =>
    simp only [DenV] at hv
    obtain ⟨ow, he⟩ := hown key rfl
    obtain ⟨_, h⟩ := hE.hp.own key ow he
    rcases h with ⟨h, _⟩ | ⟨g, cap, vs, h, _⟩ <;> rw [h] at hv <;> subst hv <;> rfl
  | fn f caps => simp only [DenV] at hv; obtain ⟨_, rfl, _⟩ := hv; rfl
  | op cs x => simp [leafSV] at hc
  | junk => simp [leafSV] at hc

def ownsOk (O : FO) : List SV → Bool
  | [] => true
  | .own k :: r => (O k).isSome && ownsOk O r
  | _ :: r => ownsOk O r
theorem ownsOk_mem {O : FO} : ∀ {l : List SV}, ownsOk O l = true → ∀ sv ∈ l, ∀ k, sv = .own k → ∃ e, O k = some e
  | [], _, sv, h, _, _ => by cases h
  | x :: r, h, sv, hm, k, hk => by
    rcases List.mem_cons.1 hm with rfl | hm
    · subst hk
      simp only [ownsOk, Bool.and_eq_true] at h
      exact Option.isSome_iff_exists.1 h.1
    · refine ownsOk_mem (l := r) ?_ sv hm k hk
      cases x <;> simp only [ownsOk, Bool.and_eq_true] at h <;> first | exact h | exact h.2

theorem den_one {s : Sy} {C : Ctx} (hE : SatE C E s a w) : ∀ {svs : List SV} {vs : List Value}, svs.all leafSV = true → ownsOk s.O svs = true → DenL E w svs vs → ∀ v ∈ vs, v.oneCell' = true
  | [], vs, _, _, h, v, hm => by simp only [DenL] at h; subst h; cases hm
  | sv :: svs, vs, hl, ho, h, v, hm => by
    simp only [DenL] at h
    obtain ⟨v', vs', rfl, h1, h2⟩ := h
    simp only [List.all_cons, Bool.and_eq_true] at hl
    rcases List.mem_cons.1 hm with rfl | hm
    · exact leaf_one hE hl.1 (fun k hk => ownsOk_mem ho sv (by simp) k hk) h1
    · refine den_one hE hl.2 ?_ h2 v hm
      cases sv <;> simp only [ownsOk, Bool.and_eq_true] at ho <;> first | exact ho | exact ho.2

theorem ok_store {t T : TypeId} {x y : Operand} {key off : Nat} {cs svs : List SV} {sv : SV} {i : TyI} (ho : o.op = .store t x y) (hd : o.dst = none) (hx : evalO s.S x = some (.lp key off)) (hy : evalO s.S y = some sv) (hL : s.L key = some (T, cs)) (hi : TyOk P t i)
    (hc : cellsSV i.u sv = some svs) (hown : ownsOk s.O [sv] = true) (hleaf : svs.all leafSV = true) (hsz : svs.length = i.size) (hl : off + svs.length ≤ cs.length) : Ok1 P C o s ⟨.junk, [(key, T, setCs cs off svs)], [], [], []⟩ := by
  refine ⟨by simp [ho], fun s' hext a w ⟨E, hE⟩ => ?_⟩
  have hx' := hext.ev hE (x := x) (by simp [ho, Op.operands]) hx
  have hy' := hext.ev hE (x := y) (by simp [ho, Op.operands]) hy
  simp only [DenV] at hx'
  have hown' : ∀ k, sv = .own k → ∃ e, s'.O k = some e := fun k hk => by
    obtain ⟨e, he⟩ := ownsOk_mem hown sv (by simp) k hk
    exact ⟨e, by rw [hext.o k (by rw [he]; simp)]; exact he⟩
  have hcs := oneCell_of hE hc hown' hy'
  have hL' : s'.L key = some (T, cs) := by rw [hext.l key (by rw [hL]; simp)]; exact hL
  have hlen := DenL_length hcs
  have hown2 : ownsOk s'.O svs = true := by
    unfold cellsSV at hc
    have hds : ∀ ds : List D, ownsOk s'.O (ds.map SV.d) = true := by intro ds; induction ds with | nil => rfl | cons d ds ih => simp [ownsOk, ih]
    split at hc
    · split at hc
      · cases hc; exact hds _
      · cases hc
    · cases hc
    · cases hc
    · cases hc
    · split at hc
      · cases hc
      · split at hc <;> first | cases hc; done | skip
        cases hc; rfl
    · split at hc
      · cases hc
      · cases hc
        cases sv with
        | own k =>
          obtain ⟨e, he⟩ := hown' k rfl
          simp [ownsOk, he]
        | _ => rfl
  have hone := den_one hE hleaf hown2 hcs
  obtain ⟨w', hr, hS⟩ := run_stores (P := P) (off := off) svs (a.eval y).cells.toList 0 cs s' w hE hL' (by omega) hcs (fun _ _ h => h) (fun w' hw' sv v hh => DenV.mono (E' := E) ⟨fun _ h => h, hw'⟩ rfl rfl hh) hone
  have hsz' : (a.eval y).cells.size = i.size := by rw [← Array.length_toList, hlen, hsz]
  have hrun : (execOp a.eval o).run P w = .ok .skip w' := by
    simp [execOp, ho, hx', Instr.storeAt, Instr.sureAddr, storeVar, hi.size, hsz', hr]
  unfold gives
  rw [hrun, hd]
  refine ⟨E, ?_⟩
  have e1 : apply none ⟨.junk, [(key, T, setCs cs off svs)], [], [], []⟩ s' = { s' with L := fun k => if k = key then some (T, setCs cs (off + 0) svs) else s'.L k } := by
    unfold apply
    congr 1
    · funext t; cases s'.S t <;> simp [kill_nil]
    · funext k; by_cases hk : k = key <;> simp [klook, hk, killE_nil]
  rw [e1]; exact hS
end
end Go.Kin
