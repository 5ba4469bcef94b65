/- Steps of a function body on data, and contracts of the functions of the seat, walked. -/
import Derived.Test.YtgnhhjojiipmgaaGreatDoorKOwn2
set_option linter.unusedSimpArgs false
set_option linter.unusedVariables false
set_option linter.unusedSectionVars false
namespace Go.Kin
open Go.RowKit
/-! ### an element of a slice of the function's own is written -/
/-- cells, some of them written -/
def setDs : List D → Nat → List D → List D
  | cs, _, [] => cs
  | cs, off, d :: r => setDs (cs.set off d) (off + 1) r
/-- rows, one of them another -/
def setR (i : Nat) (cs : List D) (row : Nat → List D) : Nat → List D := fun j => if j = i then cs else row j
theorem setDs_length : ∀ (ds cs : List D) (off : Nat), (setDs cs off ds).length = cs.length
  | [], _, _ => rfl
  | d :: ds, cs, off => by simp [setDs, setDs_length ds]
theorem lfR_set {d : D} (hd : lfD d = true) : ∀ {cs : List D} {i : Nat}, lfR cs = true → lfR (cs.set i d) = true
  | [], i, _ => by simp [lfR]
  | c :: cs, 0, h => by simp only [lfR, Bool.and_eq_true, List.set_cons_zero] at h ⊢; exact ⟨hd, h.2⟩
  | c :: cs, i + 1, h => by simp only [lfR, Bool.and_eq_true, List.set_cons_succ] at h ⊢; exact ⟨h.1, lfR_set hd h.2⟩
section
variable {P : Program} {C : Ctx} {o : Oper} {s s' : Sy} {E : Env} {a : Act} {w : World}
theorem set_row {vs : List Value} {i q k f : Nat} {u : Value} (hf : f < k) (hv : i * k + f < vs.length) :
    ((vs.set (i * k + f) u).drop (q * k)).take k = if q = i then ((vs.drop (i * k)).take k).set f u else (vs.drop (q * k)).take k := by
  refine List.ext_getElem? fun p => ?_
  rcases Nat.lt_or_ge p k with hp | hp
  · by_cases hq : q = i
    · subst hq
      rw [if_pos rfl, List.getElem?_take_of_lt hp, List.getElem?_drop, List.getElem?_set]
      by_cases hpf : f = p
      · subst hpf
        rw [if_pos rfl, if_pos hv, List.getElem?_set, if_pos rfl, if_pos]
        rw [List.length_take, List.length_drop]; omega
      · rw [if_neg (by omega), List.getElem?_set, if_neg hpf, List.getElem?_take_of_lt hp, List.getElem?_drop]
    · rw [if_neg hq, List.getElem?_take_of_lt hp, List.getElem?_drop, List.getElem?_set, if_neg, List.getElem?_take_of_lt hp, List.getElem?_drop]
      intro e
      rcases Nat.lt_or_ge q i with h | h
      · have : (q + 1) * k ≤ i * k := Nat.mul_le_mul_right _ h
        rw [Nat.add_mul] at this; omega
      · have : (i + 1) * k ≤ q * k := Nat.mul_le_mul_right _ (by omega)
        rw [Nat.add_mul] at this; omega
  · have h1 : ∀ l : List Value, (l.take k)[p]? = none := fun l => List.getElem?_eq_none (by rw [List.length_take]; omega)
    rw [h1]
    by_cases hq : q = i
    · rw [if_pos hq, List.getElem?_set, if_neg (by omega), h1]
    · rw [if_neg hq, h1]
theorem SatE.setOwn {C : Ctx} {E : Env} {s : Sy} {a : Act} {w : World} (h : SatE C E s a w) {key : Nat} {ow : Ow} (hO : s.O key = some ow) {i f g : Nat} (hi : i < ow.x) (hf : f < ow.k) {d : D} {u : Value} (hu : RdV w E.Z d u) (hlf : lfD d = true) (hg : (E.ω key).ownBlock = some g) :
    SatE C E { s with O := fun q => if q = key then some { ow with row := setR i ((ow.row i).set f d) ow.row } else s.O q } a (w.setCell ⟨g, i * ow.k + f, none⟩ u) := by
  have hN := h.hp.ownN key ow g hO hg
  have hblk : ∀ k, k ≠ g → (w.setCell ⟨g, i * ow.k + f, none⟩ u).heap[k]? = w.heap[k]? := fun k hk => Below.heap_setCell w _ u k hk
  have hk : Keeps w E.Z (w.setCell ⟨g, i * ow.k + f, none⟩ u) E.Z := ⟨fun _ h => h, fun b hz => hblk b (fun e => hN.2.1 (e ▸ hz))⟩
  have hsz : (w.setCell ⟨g, i * ow.k + f, none⟩ u).heap.size = w.heap.size := by simp [World.setCell]
  have hO1 : ∀ q e, (if q = key then some ({ ow with row := setR i ((ow.row i).set f d) ow.row } : Ow) else s.O q) = some e → (q = key ∧ e = { ow with row := setR i ((ow.row i).set f d) ow.row }) ∨ (q ≠ key ∧ s.O q = some e) := fun q e he => by
    by_cases hq : q = key
    · left; simp [hq] at he; exact ⟨hq, he.symm⟩
    · right; simp [hq] at he; exact ⟨hq, he⟩
  have hO2 : ∀ q e, (if q = key then some ({ ow with row := setR i ((ow.row i).set f d) ow.row } : Ow) else s.O q) = some e → ∃ e', s.O q = some e' := fun q e he => by
    rcases hO1 q e he with ⟨rfl, _⟩ | ⟨_, h1⟩
    · exact ⟨_, hO⟩
    · exact ⟨_, h1⟩
  refine ⟨h.sz, h.df, fun t sv' hs => let ⟨v, a1, a2⟩ := h.slots t sv' hs; ⟨v, a1, a2.mono hk rfl rfl⟩, ⟨⟨h.hp.bel.os, h.hp.bel.tape, h.hp.bel.output, by rw [hsz]; exact h.hp.bel.size, fun k hk1 hk2 => (hblk k (fun e => by have := hN.1; omega)).trans (h.hp.bel.block k hk1 hk2)⟩,
    fun b hb => by rw [hsz]; exact h.hp.z b hb, fun key' T' cs' he => ?_, h.hp.locN, h.hp.locD, fun key' o' he => ?_, fun key' e g' he hg' => ?_, fun k1 k2 e e' g' he he' h1 h2 => ?_⟩, fun b o hb' => ?_, h.waits.mono fun sv' v hv' => DenV.mono hk rfl rfl hv'⟩
  · obtain ⟨us, h3, h4⟩ := h.hp.loc key' T' cs' he
    exact ⟨us, (hblk _ (hN.2.2 key' _ he)).trans h3, h4.mono hk rfl rfl⟩
  · rcases hO1 key' o' he with ⟨rfl, rfl⟩ | ⟨hne, hO'⟩
    · obtain ⟨⟨o1, o2, o3⟩, o4⟩ := h.hp.own key' ow hO
      refine ⟨⟨fun q hq => ?_, o2, o3⟩, ?_⟩
      · simp only [setR] at hq ⊢
        by_cases hqi : q = i
        · rw [if_pos hqi, List.length_set]; exact ⟨(o1 i hi).1, lfR_set hlf (o1 i hi).2⟩
        · rw [if_neg hqi]; exact o1 q hq
      · rcases o4 with ⟨o4, o5⟩ | ⟨g', cap, vs, o4, o5, o6, o7, o8, o9⟩
        · rw [o4] at hg; simp [Value.ownBlock] at hg
        · have hgg : g' = g := by rw [o4] at hg; simpa [Value.ownBlock] using hg
          subst hgg
          have hvl : i * ow.k + f < vs.length := by
            rw [o8]; exact lt_mul_of (by omega) hf
          refine .inr ⟨g', cap, vs.set (i * ow.k + f) u, o4, o5, o6, ?_, by simpa using o8, fun q hq => ?_⟩
          · simp [World.setCell, Array.getElem?_modify, o7]
          · simp only at hq ⊢
            rw [set_row hf hvl]
            simp only [setR]
            by_cases hqi : q = i
            · rw [if_pos hqi, if_pos hqi]
              exact RdL_set (hu.mono hk) ((o9 i hi).mono hk)
            · rw [if_neg hqi, if_neg hqi]
              exact (o9 q hq).mono hk
    · obtain ⟨h0, h3⟩ := h.hp.own key' o' hO'
      refine ⟨h0, h3.imp id ?_⟩
      rintro ⟨g', cap, us, h4, h5, h6, h7, h8, h9⟩
      have : g' ≠ g := fun e => hne (h.hp.ownD key' key _ _ g hO' hO (by rw [h4, e]; rfl) hg)
      exact ⟨g', cap, us, h4, h5, h6, (hblk g' this).trans h7, h8, fun q hq => (h9 q hq).mono hk⟩
  · obtain ⟨y, hy⟩ := hO2 key' e he
    exact h.hp.ownN key' y g' hy hg'
  · obtain ⟨y, hy⟩ := hO2 k1 e he
    obtain ⟨y', hy'⟩ := hO2 k2 e' he'
    exact h.hp.ownD k1 k2 y y' g' hy hy' h1 h2
  · obtain ⟨h1', h2', h3', h4', h5'⟩ := h.pins b o hb'
    refine ⟨(hblk b (fun e => h5' key _ hO (by rw [hg, e]))).trans h1', h2', h3', h4', fun key1 e he => ?_⟩
    obtain ⟨y, hy⟩ := hO2 key1 e he
    exact h5' key1 y hy
theorem run_storesO {key i f g : Nat} {E : Env} {a : Act} {C : Ctx} : ∀ (ds : List D) (vs : List Value) (j : Nat) (ow : Ow) (s : Sy) (w : World), SatE C E s a w → s.O key = some ow → i < ow.x → f + j + ds.length ≤ ow.k → RdL w E.Z ds vs → lfR ds = true → (E.ω key).ownBlock = some g →
    ∃ w', (storeCells ⟨g, i * ow.k + f, none⟩ vs j).run P w = .ok () w' ∧ SatE C E { s with O := fun q => if q = key then some { ow with row := setR i (setDs (ow.row i) (f + j) ds) ow.row } else s.O q } a w'
  | [], vs, j, ow, s, w, hE, hO, hi, _, hv, _, _ => by
    simp only [RdL] at hv; subst hv
    refine ⟨w, by simp [storeCells], ?_⟩
    have : (fun q => if q = key then some ({ ow with row := setR i (setDs (ow.row i) (f + j) []) ow.row } : Ow) else s.O q) = s.O := by
      funext q
      by_cases hq : q = key
      · rw [if_pos hq, hq, hO]
        have : setR i (setDs (ow.row i) (f + j) []) ow.row = ow.row := by funext p; simp only [setR, setDs]; split <;> simp_all
        rw [this]
      · rw [if_neg hq]
    rw [this]; exact hE
  | d :: ds, vs, j, ow, s, w, hE, hO, hi, hlen, hv, hlf, hg => by
    simp only [RdL] at hv
    obtain ⟨v, vs', rfl, h1, h2⟩ := hv
    simp only [List.length_cons] at hlen
    simp only [lfR, Bool.and_eq_true] at hlf
    have hN := hE.hp.ownN key ow g hO hg
    have hblk : ∃ cap us, w.heap[g]? = some (.cells (List.toArray us) ow.e (0, 0)) ∧ us.length = cap * ow.k ∧ ow.x ≤ cap := by
      obtain ⟨_, h3⟩ := hE.hp.own key ow hO
      rcases h3 with ⟨h3, _⟩ | ⟨g', cap, us, h3, h4, _, h5, h6, _⟩
      · rw [h3] at hg; simp [Value.ownBlock] at hg
      · have : g' = g := by rw [h3] at hg; simpa [Value.ownBlock] using hg
        subst this
        exact ⟨cap, us, h5, h6, h4⟩
    obtain ⟨cap, us, hb, hul, hcap⟩ := hblk
    have hin : i * ow.k + (f + j) < us.length := by rw [hul]; exact lt_mul_of (by omega) (by omega)
    have hcell : ∃ u, w.cell? ⟨g, i * ow.k + f + j, none⟩ = some u := by
      refine ⟨us[i * ow.k + f + j]'(by omega), ?_⟩
      simp [World.cell?, hb]
    obtain ⟨u, hu⟩ := hcell
    have hfz : w.frozen? ⟨g, i * ow.k + f + j, none⟩ = false := by simp [World.frozen?, hb]
    have hst : (store ((⟨g, i * ow.k + f, none⟩ : Addr).add j) v).run P w = .ok () (w.setCell ⟨g, i * ow.k + f + j, none⟩ v) := by
      rw [addr_add]
      have h1c := lf_one hlf.1 h1
      cases v <;> simp [Value.oneCell'] at h1c <;> simp [store, Sem.run, hu, hfz]
    have hE' := hE.setOwn hO hi (f := f + j) (by omega) h1 hlf.1 hg
    rw [← Nat.add_assoc] at hE'
    have hk : Keeps w E.Z (w.setCell ⟨g, i * ow.k + f + j, none⟩ v) E.Z := ⟨fun _ h => h, fun b hz => Below.heap_setCell w _ v b (fun e => hN.2.1 (by have e' : b = g := e; rw [← e']; exact hz))⟩
    obtain ⟨w', hr, hS⟩ := run_storesO ds vs' (j + 1) { ow with row := setR i ((ow.row i).set (f + j) d) ow.row } _ _ hE' (if_pos rfl) hi (f := f) (by simp only; omega) (h2.mono hk) hlf.2 hg
    refine ⟨w', ?_, ?_⟩
    · simp only [storeCells, Sem.run_bind, hst, Result.andThen_ok]; exact hr
    · have : (fun q => if q = key then some ({ ow with row := setR i (setDs (ow.row i) (f + j) (d :: ds)) ow.row } : Ow) else s.O q) = (fun q => if q = key then some ({ ow with row := setR i (setDs (setR i ((ow.row i).set (f + j) d) ow.row i) (f + (j + 1)) ds) (setR i ((ow.row i).set (f + j) d) ow.row) } : Ow) else (if q = key then some ({ ow with row := setR i ((ow.row i).set (f + j) d) ow.row } : Ow) else s.O q)) := by
        funext q
        by_cases hq : q = key
        · simp only [hq, if_true]
          congr 2
          funext p
          simp only [setR, if_true, setDs, Nat.add_assoc]
          by_cases hp : p = i <;> simp [hp]
        · simp [hq]
      rw [this]; exact hS
theorem ok_storeO {t : TypeId} {x y : Operand} {key k i f : Nat} {ow : Ow} {sv : SV} {svs : List SV} {ds : List D} {ti : TyI} (ho : o.op = .store t x y) (hd : o.dst = none) (hx : evalO s.S x = some (.oa key k i f)) (hy : evalO s.S y = some sv) (hO : s.O key = some ow) (hk : ow.k = k) (hi : TyOk P t ti)
    (hc : cellsSV ti.u sv = some svs) (hds : allD svs = some ds) (hlf : lfR ds = true) (hsz : ds.length = ti.size) (hl : f + ds.length ≤ k) (hix : i < ow.x) : Ok1 P C o s ⟨.junk, [], [(key, ⟨ow.e, ow.k, ow.n, ow.x, setR i (setDs (ow.row i) f ds) ow.row⟩)], [], []⟩ := by
  subst hk
  refine ⟨by simp [ho], fun s' hext a w ⟨E, hE⟩ => ?_⟩
  have hx' := hext.ev hE (x := x) (by simp [ho, Op.operands]) hx
  have hy' := hext.ev hE (x := y) (by simp [ho, Op.operands]) hy
  simp only [DenV] at hx'
  obtain ⟨g, hg, hxe⟩ := hx'
  have hcs := oneCell_of hE hc (fun k hk => by
    subst hk
    simp only [cellsSV] at hc
    split at hc
    · cases hc
    · cases hc; simp [allD] at hds) hy'
  have hO' : s'.O key = some ow := by rw [hext.o key (by rw [hO]; simp)]; exact hO
  have hrd := RdL_of_DenL hds hcs
  have hlen := RdL_length hrd
  obtain ⟨w', hr, hS⟩ := run_storesO (P := P) (f := f) ds (a.eval y).cells.toList 0 ow s' w hE hO' hix (by omega) hrd hlf hg
  have hsz' : (a.eval y).cells.size = ti.size := by rw [← Array.length_toList, hlen, hsz]
  have hrun : (execOp a.eval o).run P w = .ok .skip w' := by
    simp [execOp, ho, hxe, Instr.storeAt, Instr.sureAddr, storeVar, hi.size, hsz', hr]
  unfold gives
  rw [hrun, hd]
  refine ⟨E, ?_⟩
  have e1 : apply none ⟨.junk, [], [(key, (⟨ow.e, ow.k, ow.n, ow.x, setR i (setDs (ow.row i) f ds) ow.row⟩ : Ow))], [], []⟩ s' = { s' with O := fun q => if q = key then some { ow with row := setR i (setDs (ow.row i) (f + 0) ds) ow.row } else s'.O q } := by
    unfold apply
    congr 1
    · funext t; cases s'.S t <;> simp [kill_nil]
    · funext k; simp [klook, killE_nil]
    · funext k; by_cases hk : k = key <;> simp [klook, hk]
  rw [e1]; exact hS
end
end Go.Kin
