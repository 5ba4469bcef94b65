/- The sort of the library over a slice of the function itself. -/
import Derived.Test.YtmnponhhmkdcdaaDoorKIn
import Derived.Test.YtmnponhhmkdcdaaDoorKDr
import Derived.Test.YtmnponhhmkdcdaaDoorVSet
import Derived.Shelf.SlSortCmp.NoneTotal
namespace Go.Kin
open Go Go.RowKit Go.Shelf Go.Sort Go.Proofs
/-! ### slices.SortFunc over a slice of one's own, elements of one cell -/
theorem one_leaf {w : World} {Z : Nat → Prop} {d : D} {v : Value} (hl : lfD d = true) (h : RdV w Z d v) : v.oneCell' = true := by
  cases d with
  | v x => simp only [RdV] at h; subst h; cases v <;> simp_all [lfD, Value.oneCell']
  | sl k n x row => simp only [RdV] at h; obtain ⟨a, c, rfl, _⟩ := h; rfl
  | ptr cs => simp only [RdV] at h; obtain ⟨b, off, rfl, _⟩ := h; rfl
  | fn f caps => simp only [RdV] at h; obtain ⟨vs, rfl, _⟩ := h; rfl
  | ag cs => simp [lfD] at hl
  | tup cs => simp [lfD] at hl
  | ifc t d => simp only [RdV] at h; obtain ⟨v', rfl, _⟩ := h; rfl
theorem eq_grow {w w' : World} (h : Go.RowKit.Below w.heap.size w w') (hd : w.drawn ≤ w'.drawn) : ∃ q os, w' = grow (w.drewN q) os := by
  refine ⟨w'.drawn - w.drawn, w'.heap.extract w.heap.size w'.heap.size, ?_⟩
  obtain ⟨heap', tape', drawn', os', output'⟩ := w'
  have e1 : os' = w.os := h.os
  have e2 : tape' = w.tape := h.tape
  have e3 : output' = w.output := h.output
  have hs : w.heap.size ≤ heap'.size := h.size
  have hb : ∀ k, k < w.heap.size → heap'[k]? = w.heap[k]? := h.block
  have e4 : drawn' = w.drawn + (drawn' - w.drawn) := by simp only at hd; omega
  have eh : heap' = w.heap ++ heap'.extract w.heap.size heap'.size := by
    apply Array.ext_getElem?
    intro k
    by_cases hk : k < w.heap.size
    · rw [Array.getElem?_append_left hk]; exact hb k hk
    · rw [Array.getElem?_append_right (by omega), Array.getElem?_extract]
      by_cases hk2 : k < heap'.size
      · rw [if_pos (by omega)]; congr 1; omega
      · rw [if_neg (by omega), Array.getElem?_eq_none (by omega)]
  subst e1 e2 e3
  simp only [grow, World.drewN]
  rw [← eh, ← e4]
theorem heap_sortW {α : Type} [Inhabited α] (enc : α → Value) (w : World) (g m : Nat) (dk : Array α) (os : Array Obj) {b : Nat} (hb : b < w.heap.size) (hne : b ≠ g) : (sortWorld enc w g 0 m dk os).heap[b]? = w.heap[b]? := by
  unfold sortWorld
  rw [heap_grow_old _ _ (by simpa using hb)]
  simp only [putRow, mapBlock, heap_ahead, Array.getElem?_modify]
  rw [if_neg (fun e => hne e.symm)]
theorem size_sortW {α : Type} [Inhabited α] (enc : α → Value) (w : World) (g m : Nat) (dk : Array α) (os : Array Obj) : (sortWorld enc w g 0 m dk os).heap.size = w.heap.size + os.size := by
  unfold sortWorld; simp
theorem heap_sortW_own {α : Type} [Inhabited α] (enc : α → Value) (w : World) (g m : Nat) (dk : Array α) (os : Array Obj) {cs : Array Value} {e : TypeId} {fr : Nat × Nat} (hg : w.heap[g]? = some (.cells cs e fr)) : (sortWorld enc w g 0 m dk os).heap[g]? = some (.cells (putCells enc 0 dk cs) e fr) := by
  have hb : g < w.heap.size := (Array.getElem?_eq_some_iff.1 hg).1
  unfold sortWorld
  rw [heap_grow_old _ _ (by simpa using hb)]
  simp only [putRow, mapBlock, heap_ahead, Array.getElem?_modify]
  simp [hg, onCells]

theorem sort_in {I : World → Prop} {P : Program} {ρ : Ren} (L : SlLaysF.n6 P ρ) (he : Enters P (ρ.f 6)) {β : Type} [DecidableEq β] [Inhabited β] (f : β → D) {c : β → β → Int} (hc : Ord3 c) (g : FuncId) (x : List β) (e : TypeId)
    (hlen : x.length ≤ 140737488355328) (hlf : ∀ b, lfD (f b) = true) (hcmp : ∀ a ∈ x, ∀ b ∈ x, FnOK I P g [f a, f b] (.v (.int .i64 (c a b)))) :
    FnIn I P (ρ.f 6) ⟨e, 1, x.length, x.length, fun i => [f (nth x i)]⟩ ⟨e, 1, x.length, x.length, fun i => [f (nth (sortL c x) i)]⟩ [.fn g []] := by
  refine ⟨he, fun w Z v vs hI hst hZ hown hgz hvs => ?_⟩
  have e1 : vs = [.func (.func g) #[] #[]] := by
    simp only [RdL, RdV] at hvs
    obtain ⟨v1, vs1, rfl, ⟨us, rfl, rfl⟩, rfl⟩ := hvs
    rfl
  subst e1
  have hsl : (sortL c x).length = x.length := by unfold sortL; exact List.length_mergeSort x
  obtain ⟨⟨hrow, hnx, htop⟩, hcase⟩ := hown
  by_cases hx : x.length = 0
  · -- nothing is there
    have hx' : x = [] := List.eq_nil_of_length_eq_zero hx
    have hv : ∃ p cap, v = .slice p 0 cap := by
      rcases hcase with ⟨h, _⟩ | ⟨b, cap, us, h, _⟩
      · exact ⟨_, _, h⟩
      · simp only [hx] at h; exact ⟨_, _, h⟩
    obtain ⟨p, cap, rfl⟩ := hv
    refine (AnyF.slices_SortFunc_none { L with } p cap _ w).mono ?_
    rintro e' w' ⟨rfl, rfl⟩
    refine ⟨rfl, rfl, rfl, rfl, Nat.le_refl _, fun _ _ _ => rfl, ⟨⟨fun i hi => ?_, Nat.le_refl _, htop⟩, ?_⟩⟩
    · simp only [hx] at hi; omega
    · rcases hcase with ⟨h, h'⟩ | ⟨b, cap', us, h1, h2, h3, h4, h5, h6⟩
      · exact .inl ⟨h, h'⟩
      · exact .inr ⟨b, cap', us, h1, h2, h3, h4, h5, fun i hi => by simp only [hx] at hi; omega⟩
  · rcases hcase with ⟨_, h'⟩ | ⟨b, cap, us, h1, h2, h3, h4, h5, h6⟩
    · exact (hx h').elim
    · simp only at h1 h2 h3 h4 h5 h6 hrow
      subst h1
      have hbZ : ¬ Z b := hgz b rfl
      have hb : b < w.heap.size := (Array.getElem?_eq_some_iff.1 h4).1
      simp only [Nat.mul_one] at h5 h6
      let A := { p : Value × β // p.2 ∈ x ∧ RdV w Z (f p.2) p.1 }
      have hcell : ∀ i, i < x.length → ∃ u, us[i]? = some u ∧ RdV w Z (f (nth x i)) u := fun i hi => by
        have hil : i < us.length := by omega
        refine ⟨us[i], List.getElem?_eq_getElem hil, ?_⟩
        have := h6 i hi
        rw [List.drop_eq_getElem_cons hil] at this
        simp only [List.take_succ_cons, List.take_zero, RdL] at this
        obtain ⟨v1, vs1, e2, h7, rfl⟩ := this
        cases e2; exact h7
      let d : Array A := Array.ofFn fun i : Fin x.length => ⟨(us[i.1]'(by omega), nth x i.1), nth_mem i.2, by
        obtain ⟨u, q1, q2⟩ := hcell i.1 i.2
        have hil : i.1 < us.length := by omega
        rw [List.getElem?_eq_getElem hil] at q1
        cases q1; exact q2⟩
      have hds : d.size = x.length := Array.size_ofFn
      haveI : Inhabited A := ⟨d[0]'(by omega)⟩
      have hdi : ∀ i, (hi : i < x.length) → (d[i]!).1.1 = us[i]'(by omega) ∧ (d[i]!).1.2 = nth x i := fun i hi => by
        rw [getElem!_pos d i (by omega)]
        exact ⟨by simp [d], by simp [d]⟩
      let enc : A → Value := fun p => p.1.1
      let cf : A → A → Int := fun p q => c p.1.2 q.1.2
      have hO : SWO (ltOf cf) := by
        refine ⟨fun p => ?_, fun p q r => ?_, fun p q r => ?_⟩
        · simp only [ltOf, cf, decide_eq_false_iff_not]; have := (hc.zero p.1.2 p.1.2).2 rfl; omega
        · simp only [ltOf, cf, decide_eq_true_eq]
          intro q1 q2
          have q3 := hc.trans p.1.2 q.1.2 r.1.2 (by omega) (by omega)
          have q4 : c p.1.2 r.1.2 ≠ 0 := fun e0 => by
            have e5 := (hc.zero _ _).1 e0
            rw [e5] at q1
            have := hc.anti r.1.2 q.1.2
            omega
          omega
        · simp only [ltOf, cf, decide_eq_false_iff_not]
          intro q1 q2
          have a1 := hc.anti p.1.2 q.1.2
          have a2 := hc.anti q.1.2 r.1.2
          have a3 := hc.anti p.1.2 r.1.2
          have := hc.trans r.1.2 q.1.2 p.1.2 (by omega) (by omega)
          omega
      have hkeep : ∀ (m : Nat) (dk : Array A) (os : Array Obj), Keeps w Z (sortWorld enc w b 0 m dk os) Z := fun m dk os =>
        ⟨fun _ h => h, fun k hk => heap_sortW enc w b m dk os (hZ k hk) (fun e0 => hbZ (e0 ▸ hk))⟩
      have hH : Holds enc w b 0 d := fun j hj => by
        have hj' : j < x.length := by omega
        refine ⟨?_, ?_⟩
        · simp only [World.cell?, h4, Nat.zero_add]
          have := (hdi j hj').1
          show (if _ then _ else us.toArray[j]?) = _
          simp [enc, this, List.getElem?_eq_getElem (show j < us.length by omega)]
        · simp [World.frozen?, h4]
      have hcl : CmpLays1 P g #[] enc cf b 0 d.size w := fun m os dk hdk p q => by
        have hF := hcmp p.1.2 p.2.1 q.1.2 q.2.1
        have hIW : I (sortWorld enc w b 0 m dk os) := hst _ rfl rfl rfl (by rw [size_sortW]; omega) (fun k hk hne => heap_sortW enc w b m dk os hk (fun e0 => hne (by rw [e0]; rfl)))
        have hc1 := hF.2 (sortWorld enc w b 0 m dk os) Z [p.1.1, q.1.1] hIW (fun k hk => by rw [size_sortW]; have := hZ k hk; omega) (by
          simp only [RdL]
          exact ⟨_, _, rfl, p.2.2.mono (hkeep m dk os), _, _, rfl, q.2.2.mono (hkeep m dk os), rfl⟩)
        have hc2 := Kin.Calls.dr hc1 (fun e' w' ⟨v0, Z', h0, _⟩ => by rw [h0]; exact fun e0 => by cases e0)
        refine hc2.mono ?_
        rintro e' w' ⟨⟨v0, Z', rfl, hB, _, hv⟩, hdr⟩
        simp only [RdV] at hv
        subst hv
        exact ⟨rfl, eq_grow hB hdr⟩
      have eg : ∀ args w, (callFunc g args).run P w = .ok (.enter g args) w := fun args w => by
        have hm : nth x 0 ∈ x := nth_mem (by omega)
        exact (hcmp _ hm _ hm).1.run args w
      have hmain := Any.slices_SortFunc L enc (fun p => one_leaf (hlf p.1.2) p.2.2) cf hO g #[] b 0 cap d w eg hcl hH hb (by omega)
      rw [hds] at hmain
      refine hmain.mono ?_
      rintro e' w' ⟨rfl, d', n, os, ⟨hp1, _, hp3⟩, hs, rfl⟩
      rw [hds] at hp1
      have hmap : d'.toList.map (fun p : A => p.1.2) = sortL c x := by
        have hperm : d'.toList.Perm d.toList := by
          have e2 : d'.extract 0 x.length = d' := by rw [← hp1]; exact Array.extract_size
          have e3 : d.extract 0 x.length = d := by rw [← hds]; exact Array.extract_size
          rw [e2, e3] at hp3; exact hp3
        have hdx : d.toList.map (fun p : A => p.1.2) = x := by
          apply List.ext_getElem
          · simp [hds]
          · intro i q1 q2
            have := (hdi i q2).2
            rw [getElem!_pos d i (by omega)] at this
            simp only [List.getElem_map, Array.getElem_toList, this]
            exact nth_of (List.getElem?_eq_getElem q2)
        have hpx : (d'.toList.map (fun p : A => p.1.2)).Perm x := (hperm.map (fun p : A => p.1.2)).trans (List.Perm.of_eq hdx)
        refine List.Perm.eq_of_pairwise (le := fun p q => c p q ≤ 0) ?_ ?_ (sort_pw hc x) (hpx.trans (List.mergeSort_perm _ _).symm)
        · intro p q _ _ q1 q2
          have := hc.anti p q
          exact (hc.zero p q).1 (by omega)
        · rw [List.pairwise_map, List.pairwise_iff_getElem]
          intro i j hi hj hij
          have hi' : i < d'.size := by simpa using hi
          have hj' : j < d'.size := by simpa using hj
          have := hs i j (Nat.zero_le _) hij (by omega)
          rw [getElem!_pos d' j hj', getElem!_pos d' i hi'] at this
          simp only [ltOf, cf, decide_eq_false_iff_not] at this
          have q3 := hc.anti d'[i].1.2 d'[j].1.2
          simp only [Array.getElem_toList]
          omega
      refine ⟨rfl, rfl, rfl, rfl, by rw [size_sortW]; omega, fun k hk hne => heap_sortW enc w b n d' os hk (fun e0 => hne (by rw [e0]; rfl)), ⟨⟨fun i hi => ⟨rfl, by simp [lfR, hlf]⟩, Nat.le_refl _, htop⟩, .inr ?_⟩⟩
      refine ⟨b, cap, (putCells enc 0 d' us.toArray).toList, rfl, h2, h3, by rw [heap_sortW_own enc w b n d' os h4], by simp [putCells, h5], fun i hi => ?_⟩
      simp only at hi
      have hi' : i < us.length := by omega
      have hid : i < d'.size := by omega
      simp only [Nat.mul_one]
      have hlen2 : i < (putCells enc 0 d' us.toArray).toList.length := by simp [putCells]; omega
      rw [List.drop_eq_getElem_cons hlen2]
      simp only [List.take_succ_cons, List.take_zero, RdL]
      refine ⟨_, [], rfl, ?_, rfl⟩
      have hval : (putCells enc 0 d' us.toArray).toList[i] = (d'[i]).1.1 := by
        simp [putCells, enc, hid, getElem!_pos d' i hid]
      rw [hval]
      have hnth : nth (sortL c x) i = (d'[i]).1.2 := by
        rw [← hmap]
        exact nth_of (by simp [hid])
      rw [hnth]
      exact (d'[i]).2.2.mono (hkeep n d' os)
end Go.Kin
