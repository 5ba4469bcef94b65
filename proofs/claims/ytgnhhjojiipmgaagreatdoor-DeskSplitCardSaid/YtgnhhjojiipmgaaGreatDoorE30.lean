/- Steps of a function body on data, and contracts of the functions of the seat, walked. -/
import Derived.Test.YtgnhhjojiipmgaaGreatDoorE27
import Derived.Orders
set_option linter.unusedSimpArgs false
set_option linter.unusedVariables false
set_option linter.unusedSectionVars false
namespace Go.Cev
open Go.RowKit
section
variable {P : Program} {H : Nat} {w0 : World} {ω : Om} {W : AW} {w : World}
/-- an object by names that has no block -/
theorem WR.pad (hw : WR H w0 ω W w) (o : AO) : WR H w0 ω ⟨W.heap.set W.next (some o), W.next + 1⟩ w := by
  have hget : ∀ b x, ω b = some x → (W.heap.set W.next (some o)).get b = W.heap.get b := fun b x hb => by
    rw [PT.get_set, if_neg (by have := hw.dom b x hb; omega)]
  refine ⟨hw.below, hw.size, fun b r base hb => ?_, fun b x hb => Nat.lt_succ_of_lt (hw.dom b x hb), fun b r base o1 hb hg => hw.own b r base o1 hb (by rw [← hget b _ hb]; exact hg), fun b b' r base base' o1 o2 hne hb hb' hg hg' => hw.apart b b' r base base' o1 o2 hne hb hb' (by rw [← hget b _ hb]; exact hg) (by rw [← hget b' _ hb']; exact hg')⟩
  obtain ⟨o1, o2, h1, h2, h3⟩ := hw.obj b r base hb
  exact ⟨o1, o2, by rw [hget b _ hb]; exact h1, h2, h3⟩
theorem Gr.pad (ω : Om) (W : AW) (o : AO) : Gr ω W ω ⟨W.heap.set W.next (some o), W.next + 1⟩ :=
  ⟨Om.Le.refl ω, Nat.le_succ _, fun b hb hn => ⟨by show (W.heap.set W.next (some o)).get b = _; rw [PT.get_set, if_neg (by omega)], hn⟩⟩
/-- a block is made for a name that had none -/
theorem WR.make (hw : WR H w0 ω W w) {b : Nat} {rm : (Nat × Nat) × Nat} {o : AO} {o' : Obj} (hb : ω b = Option.none) (hlt : b < W.next) (hg : W.heap.get b = some o) (ho : OR ω rm 0 o o') : WR H w0 (ω.add b w.heap.size 0 rm) W { w with heap := w.heap.push o' } := by
  have hG : Below w.heap.size w { w with heap := w.heap.push o' } := ⟨rfl, rfl, rfl, by simp, fun k hk => by show (w.heap.push o')[k]? = _; rw [Array.getElem?_push, if_neg (by omega)]⟩
  have hw' := hw.grow hG
  have hle : Om.Le ω (ω.add b w.heap.size 0 rm) := ω.add_le hb
  have hω1 : ∀ b1 r1 base1, (ω.add b w.heap.size 0 rm) b1 = some (r1, base1) → (b1 = b ∧ r1 = w.heap.size ∧ base1 = 0) ∨ (b1 ≠ b ∧ ω b1 = some (r1, base1)) := fun b1 r1 base1 h => by
    have h : (if b1 = b then some (w.heap.size, 0) else ω b1) = some (r1, base1) := h
    by_cases hbb : b1 = b
    · rw [if_pos hbb] at h; cases h; exact .inl ⟨hbb, rfl, rfl⟩
    · rw [if_neg hbb] at h; exact .inr ⟨hbb, h⟩
  refine ⟨hw'.below, hw'.size, fun b1 r1 base1 hb1 => ?_, fun b1 y hy => ?_, fun b1 r1 base1 o1 hb1 hg1 => ?_, fun b1 b2 r1 base1 base2 o1 o2 hne hb1 hb2 hg1 hg2 => ?_⟩
  · rcases hω1 b1 r1 base1 hb1 with ⟨e1, e2, e3⟩ | ⟨hn, hb1⟩
    · subst e1; subst e2; subst e3
      exact ⟨o, o', hg, by show (w.heap.push o')[w.heap.size]? = _; simp, by rw [Om.add_room]; exact ho.mono hle⟩
    · obtain ⟨o1, o2, h1, h2, h3⟩ := hw'.obj b1 r1 base1 hb1
      exact ⟨o1, o2, h1, h2, by rw [Om.add_room' _ hn]; exact h3.mono hle⟩
  · obtain ⟨r1, base1⟩ := y
    rcases hω1 b1 r1 base1 hy with ⟨rfl, _, _⟩ | ⟨_, h⟩
    · exact hlt
    · exact hw.dom b1 _ h
  · rcases hω1 b1 r1 base1 hb1 with ⟨_, e2, _⟩ | ⟨_, h⟩
    · left; rw [e2]; exact hw.size
    · exact hw.own b1 r1 base1 o1 h hg1
  · rcases hω1 _ _ _ hb1 with ⟨e1, e2, e3⟩ | ⟨n1, h1⟩
    · rcases hω1 _ _ _ hb2 with ⟨f1, _, _⟩ | ⟨_, h2⟩
      · exact absurd (e1.trans f1.symm) hne
      · have := hw.lt h2; omega
    · rcases hω1 _ _ _ hb2 with ⟨f1, f2, f3⟩ | ⟨n2, h2⟩
      · have := hw.lt h1; omega
      · exact hw.apart b1 b2 r1 base1 base2 o1 o2 hne h1 h2 hg1 hg2
theorem Gr.make {ω0 : Om} {W0 : AW} (h : Gr ω0 W0 ω W) {b r : Nat} {rm : (Nat × Nat) × Nat} (hb : ω b = none) (hn : W0.next ≤ b) : Gr ω0 W0 (ω.add b r 0 rm) W :=
  ⟨h.le.trans (ω.add_le hb), h.next, fun b1 hb1 hn1 => ⟨(h.keep b1 hb1 hn1).1, by show (if b1 = b then _ else _) = _; rw [if_neg (by omega)]; exact (h.keep b1 hb1 hn1).2⟩⟩
end
section
variable {H : Nat} {w0 : World} {kn : Kn} {n : Nat} {ops : List Oper} {L : List Ent} {rg0 : PT Value} {ω0 : Om} {W0 : AW} {E : Nat → Prop} {V : Nat → Option Value} {ω : Om} {w : World} {a : Act} {rg rg' : PT Value} {done : Nat} {xs : List Xe} {als : List Al} {W : AW}
theorem putD_get {d : Option Tmp} {v : Value} (h : putD n d v rg = some rg') : (∀ t, d = some t → t < n ∧ rg'.get t = some v) ∧ ∀ t, d ≠ some t → rg'.get t = rg.get t := by
  unfold putD at h
  cases d with
  | none => cases h; exact ⟨fun t e => (by cases e), fun t _ => rfl⟩
  | some u =>
    simp only at h
    cases hc : Nat.blt u n with
    | false => rw [hc] at h; cases h
    | true =>
      rw [hc] at h; cases h
      refine ⟨fun t e => ?_, fun t e => ?_⟩
      · cases e; exact ⟨by simpa [Nat.blt_eq] using hc, by rw [PT.get_set, if_pos rfl]⟩
      · rw [PT.get_set, if_neg (fun e' => e (by rw [e']))]
/-- one more is done by names: what all ways share -/
structure More (kn : Kn) (ops : List Oper) (L : List Ent) (rg0 : PT Value) (W0 : AW) (e : Ent) (V : Nat → Option Value) (v : Value) (ω : Om) (xs xs' : List Xe) (als als' : List Al) (W W' : AW) : Prop where
  cov : (∃ x ∈ xs', x.e = e) ∨ (∃ y ∈ als', y.e = e) ∨ ∃ rgx, Snap ops L rg0 V rgx e ∧ wantA ops e.o rgx = false ∧ v = undef
  kx : ∀ x ∈ xs, x ∈ xs'
  ka : ∀ y ∈ als, y ∈ als'
  st : ∀ x ∈ xs', x ∈ xs ∨ (x.e = e ∧ Snap ops L rg0 V x.rg x.e ∧ wantA ops x.e.o x.rg = true ∧ x.v = v ∧ isSt x.e.o = true)
  al : ∀ y ∈ als', y ∈ als ∨ (y.e = e ∧ Snap ops L rg0 V y.rg y.e ∧ wantA ops y.e.o y.rg = true ∧ alA kn.ty y.rg y.e.o = some (y.ao, y.ak) ∧ v = y.ak.val y.b ∧ W0.next ≤ y.b ∧ y.b < W'.next ∧ ω y.b = none ∧ W'.heap.get y.b = some y.ao)
  dis : ∀ y ∈ als', ∀ z ∈ als', y.b = z.b → y.e.i = z.e.i
  keep : W.next ≤ W'.next ∧ ∀ b, b < W.next → W'.heap.get b = W.heap.get b
theorem Inv.more (hp : PlanOk ops L) (h : Inv H w0 kn n ops L rg0 ω0 W0 E V ω w a rg done xs als W) {e : Ent} (he : e ∈ L) (hmv : isMv e.o = false) (hV : V e.i = none) (hs : subA e.m done = true) {v : Value} (hput : putD n e.o.dst v rg = some rg') {xs' : List Xe} {als' : List Al} {W' : AW}
    (hwr : WR H w0 ω W' w) (hgr : Gr ω0 W0 ω W') (hm : More kn ops L rg0 W0 e V v ω xs xs' als als' W W') : Inv H w0 kn n ops L rg0 ω0 W0 E (Vp V e.i v) ω w a rg' (Nat.lor done (2 ^ e.i)) xs' als' W' := by
  obtain ⟨p1, p2⟩ := putD_get hput
  have hle := Vp_le (v := v) hV
  have hEn : ¬ E e.i := fun hE => h.sub e he hE hV
  have hVs : ∀ i, E i → (∃ e ∈ L, e.i = i) → V i ≠ none := fun i hi ⟨e1, h1, h2⟩ => by rw [← h2] at hi ⊢; exact h.sub e1 h1 hi
  refine ⟨hwr, hgr, fun e1 he1 t u ht hu => ?_, fun t ht => ?_, fun e1 he1 => ?_, fun e1 he1 hv j hj => ?_, fun e1 he1 hE => ?_, h.cl, fun e1 he1 h1 h2 => ?_, h.size, fun e1 he1 hE t ht => ?_, h.mreg0, fun e1 he1 hv => ?_, fun x hx => ?_, fun y hy => ?_, hm.dis, fun e1 he1 hv t ht => ?_⟩
  · by_cases hi : e1.i = e.i
    · have := hp.pl.uniq e1 he1 e he hi
      subst this
      rw [Vp_at] at hu; cases hu
      exact (p1 t ht).2
    · rw [Vp_ne hi] at hu
      rw [p2 t (fun hd => hp.dst e1 he1 e he hi t ht hd)]
      exact h.reg1 e1 he1 t u ht hu
  · have hd : e.o.dst ≠ some t := fun hd => by
      have := ht e he hd
      rw [Vp_at] at this; cases this
    rw [p2 t hd]
    refine h.reg0 t fun e1 he1 h1 => ?_
    have := ht e1 he1 h1
    by_cases hi : e1.i = e.i
    · rw [hi, Vp_at] at this; cases this
    · rwa [Vp_ne hi] at this
  · rw [bit_or]
    by_cases hi : e1.i = e.i
    · rw [hi, Vp_at]; simp
    · rw [Vp_ne hi, h.bits e1 he1]
      exact ⟨fun hh => hh.resolve_right hi, .inl⟩
  · rw [bit_or]; left
    rcases Vp_none hv with hi | hv
    · rw [hp.pl.uniq e1 he1 e he hi] at hj
      exact subA_ok hs hj
    · exact h.closed e1 he1 hv j hj
  · by_cases hi : e1.i = e.i
    · rw [hi, Vp_at]; exact fun e => by cases e
    · rw [Vp_ne hi]; exact h.sub e1 he1 hE
  · rcases Vp_none h2 with hi | h2
    · rw [hp.pl.uniq e1 he1 e he hi, hmv] at h1; cases h1
    · exact h.mv e1 he1 h1 h2
  · obtain ⟨u, h1, h2⟩ := h.mreg1 e1 he1 hE t ht
    exact ⟨u, hle _ _ h1, h2⟩
  · rcases Vp_none hv with hi | hv
    · have := hp.pl.uniq e1 he1 e he hi
      subst this
      rcases hm.cov with hc | hc | ⟨rgx, h1, h2, h3⟩
      · exact .inr (.inl hc)
      · exact .inr (.inr (.inl hc))
      · exact .inr (.inr (.inr ⟨rgx, h1.mono hle, h2, by rw [Vp_at, h3]⟩))
    · rcases h.cov e1 he1 hv with hc | ⟨x, hx, hxe⟩ | ⟨y, hy, hye⟩ | ⟨rgx, h1, h2, h3⟩
      · exact .inl hc
      · exact .inr (.inl ⟨x, hm.kx x hx, hxe⟩)
      · exact .inr (.inr (.inl ⟨y, hm.ka y hy, hye⟩))
      · exact .inr (.inr (.inr ⟨rgx, h1.mono hle, h2, hle _ _ h3⟩))
  · rcases hm.st x hx with hx | ⟨h1, h2, h3, h4, h5⟩
    · obtain ⟨g1, g2, g3, g4, g5⟩ := h.st x hx
      exact ⟨g1, g2.mono hle, g3, hle _ _ g4, g5⟩
    · exact ⟨by rw [h1]; exact he, h2.mono hle, h3, by rw [h1, Vp_at, h4], h5⟩
  · rcases hm.al y hy with hy | ⟨h1, h2, h3, h4, h5, h6, h7, h8, h9⟩
    · obtain ⟨g1, g2, g3, g4, g5, g6, g7, g8⟩ := h.al y hy
      exact ⟨g1, g2.mono hle, g3, g4, hle _ _ g5, g6, Nat.lt_of_lt_of_le g7 hm.keep.1, fun hE => ⟨(g8 hE).1, by rw [hm.keep.2 _ g7]; exact (g8 hE).2⟩⟩
    · exact ⟨by rw [h1]; exact he, h2.mono hle, h3, h4, by rw [h1, Vp_at, h5], h6, h7, fun _ => ⟨h8, h9⟩⟩
  · rcases Vp_none hv with hi | hv
    · rw [hp.pl.uniq e1 he1 e he hi] at ht
      exact (p1 t ht).1
    · exact h.lim e1 he1 hv t ht
/-- what is left, of what is not done -/
structure Left (L : List Ent) (V : Nat → Option Value) (l : List Ent) : Prop where
  all : ∀ e ∈ L, V e.i = none → e ∈ l
  of : ∀ e ∈ l, e ∈ L ∧ V e.i = none
  pw : l.Pairwise (fun a b => a.i < b.i)
theorem pass_ok (hp : PlanOk ops L) : ∀ (l : List Ent) (rg : PT Value) (done : Nat) (xs : List Xe) (W : AW) (V : Nat → Option Value) (als : List Al) (p : Ps) (W1 : AW), passF kn n ops l rg done xs W = some (p, W1) → Inv H w0 kn n ops L rg0 ω0 W0 E V ω w a rg done xs als W → (∀ e ∈ l, e ∈ L ∧ V e.i = none) → l.Pairwise (fun a b => a.i < b.i) →
    ∃ V' als', Inv H w0 kn n ops L rg0 ω0 W0 E V' ω w a p.rg p.done p.xs als' W1 ∧ (∀ i v, V i = some v → V' i = some v) ∧ (∀ e ∈ l, V' e.i = none → e ∈ p.rest) ∧ (∀ e ∈ p.rest, e ∈ l ∧ V' e.i = none) ∧ p.rest.Pairwise (fun a b => a.i < b.i) ∧ (∀ i, V i = none → V' i ≠ none → ∃ e ∈ l, e.i = i)
  | [], rg, done, xs, W, V, als, p, W1, h, hI, _, _ => by
    cases h
    exact ⟨V, als, hI, fun _ _ h => h, fun e he => (by cases he), fun e he => (by cases he), .nil, fun i h1 h2 => absurd h1 h2⟩
  | e :: l, rg, done, xs, W, V, als, p, W1, h, hI, hl, hpw => by
    obtain ⟨q1, q2⟩ := List.pairwise_cons.1 hpw
    obtain ⟨he, hV⟩ := hl e (by simp)
    unfold passF at h
    cases hc : (isMv e.o || !subA e.m done) with
    | true =>
      rw [hc] at h
      obtain ⟨p1, W2, h1, h2⟩ := bd_some h
      cases h2
      obtain ⟨V', als', g1, g2, g3, g4, g5, g6⟩ := pass_ok hp l rg done xs W V als p1 W1 h1 hI (fun e he => hl e (by simp [he])) q2
      have hVe : V' e.i = none := by
        cases hv : V' e.i with
        | none => rfl
        | some u =>
          obtain ⟨e1, h3, h4⟩ := g6 e.i hV (by rw [hv]; exact fun e => by cases e)
          have := q1 e1 h3; omega
      refine ⟨V', als', g1, g2, fun e1 he1 hv => ?_, fun e1 he1 => ?_, .cons (fun e1 he1 => q1 e1 (g4 e1 he1).1) g5, fun i h1 h2 => ?_⟩
      · rcases List.mem_cons.1 he1 with rfl | he1
        · simp
        · simp [g3 e1 he1 hv]
      · rcases List.mem_cons.1 he1 with rfl | he1
        · exact ⟨by simp, hVe⟩
        · exact ⟨by simp [(g4 e1 he1).1], (g4 e1 he1).2⟩
      · obtain ⟨e1, h3, h4⟩ := g6 i h1 h2; exact ⟨e1, by simp [h3], h4⟩
    | false =>
      rw [hc] at h
      simp only [Bool.or_eq_false_iff, Bool.not_eq_false'] at hc
      obtain ⟨hmv, hsub⟩ := hc
      have hsn := hI.snap hp he hV hsub
      -- what is done, and what comes
      have key : ∀ (v : Value) (rg' : PT Value) (xs' : List Xe) (als' : List Al) (W' : AW), putD n e.o.dst v rg = some rg' → WR H w0 ω W' w → Gr ω0 W0 ω W' → More kn ops L rg0 W0 e V v ω xs xs' als als' W W' → passF kn n ops l rg' (Nat.lor done (2 ^ e.i)) xs' W' = some (p, W1) →
          ∃ V' als', Inv H w0 kn n ops L rg0 ω0 W0 E V' ω w a p.rg p.done p.xs als' W1 ∧ (∀ i v, V i = some v → V' i = some v) ∧ (∀ e1 ∈ e :: l, V' e1.i = none → e1 ∈ p.rest) ∧ (∀ e1 ∈ p.rest, e1 ∈ e :: l ∧ V' e1.i = none) ∧ p.rest.Pairwise (fun a b => a.i < b.i) ∧ (∀ i, V i = none → V' i ≠ none → ∃ e1 ∈ e :: l, e1.i = i) := fun v rg' xs' als1 W' hput hwr hgr hm hrun => by
        have hI' := hI.more hp he hmv hV hsub hput hwr hgr hm
        obtain ⟨V', als', g1, g2, g3, g4, g5, g6⟩ := pass_ok hp l rg' _ xs' W' (Vp V e.i v) als1 p W1 hrun hI' (fun e1 he1 => ⟨(hl e1 (by simp [he1])).1, by rw [Vp_ne (by have := q1 e1 he1; omega)]; exact (hl e1 (by simp [he1])).2⟩) q2
        refine ⟨V', als', g1, fun i u hu => g2 i u (Vp_le hV i u hu), fun e1 he1 hv => ?_, fun e1 he1 => ⟨by simp [(g4 e1 he1).1], (g4 e1 he1).2⟩, g5, fun i h1 h2 => ?_⟩
        · rcases List.mem_cons.1 he1 with rfl | he1
          · rw [g2 _ v Vp_at] at hv; cases hv
          · exact g3 e1 he1 hv
        · by_cases hi : i = e.i
          · exact ⟨e, by simp, hi.symm⟩
          · obtain ⟨e1, h3, h4⟩ := g6 i (by rw [Vp_ne hi]; exact h1) h2; exact ⟨e1, by simp [h3], h4⟩
      cases hw : wantA ops e.o rg with
      | false =>
        rw [hw] at h
        obtain ⟨rg', W2, h1, h2⟩ := bd_some h
        obtain ⟨h1, e1⟩ := optS h1
        rw [e1] at h2
        exact key undef rg' xs als W h1 hI.wr hI.gr ⟨.inr (.inr ⟨rg, hsn, hw, rfl⟩), fun _ h => h, fun _ h => h, fun _ h => .inl h, fun _ h => .inl h, hI.dis, Nat.le_refl _, fun _ _ => rfl⟩ h2
      | true =>
        rw [hw] at h
        simp only [cond_true, cond_false] at h
        cases hal : alA kn.ty rg e.o with
        | some z =>
          obtain ⟨ao, ak⟩ := z
          rw [hal] at h
          simp only at h
          obtain ⟨b, W2, h1, h2⟩ := bd_some h
          cases h1
          obtain ⟨rg', W3, h3, h4⟩ := bd_some h2
          obtain ⟨h3, e3⟩ := optS h3
          rw [e3] at h4
          have hnx : W0.next ≤ W.next := hI.gr.next
          refine key (ak.val W.next) rg' xs (⟨e, rg, ao, ak, W.next⟩ :: als) _ h3 (hI.wr.pad ao) (hI.gr.trans (Gr.pad ω W ao)) ⟨.inr (.inl ⟨_, List.mem_cons_self, rfl⟩), fun _ h => h, fun _ h => by simp [h], fun _ h => .inl h, fun y hy => ?_, fun y hy z hz hyz => ?_, Nat.le_succ _, fun b hb => by show (W.heap.set W.next (some ao)).get b = _; rw [PT.get_set, if_neg (by omega)]⟩ h4
          · rcases List.mem_cons.1 hy with rfl | hy
            · exact .inr ⟨rfl, hsn, hw, hal, rfl, hnx, Nat.lt_succ_self _, hI.wr.none (Nat.le_refl _), by show (W.heap.set W.next (some ao)).get W.next = _; rw [PT.get_set, if_pos rfl]⟩
            · exact .inl hy
          · rcases List.mem_cons.1 hy with rfl | hy
            · rcases List.mem_cons.1 hz with rfl | hz
              · rfl
              · have := (hI.al z hz).2.2.2.2.2.2.1
                simp only at hyz; omega
            · rcases List.mem_cons.1 hz with rfl | hz
              · have := (hI.al y hy).2.2.2.2.2.2.1
                simp only at hyz; omega
              · exact hI.dis y hy z hz hyz
        | none =>
          rw [hal] at h
          simp only at h
          obtain ⟨u, W2, h1, h2⟩ := bd_some h
          obtain ⟨hst, e2⟩ := okS h1
          rw [e2] at h2
          obtain ⟨x, W3, h3, h4⟩ := bd_some h2
          have e3 := still_W hst _ _ _ h3
          subst e3
          cases x <;> try (cases h4; done)
          rename_i v
          simp only at h4
          obtain ⟨rg', W4, h5, h6⟩ := bd_some h4
          obtain ⟨h5, e5⟩ := optS h5
          rw [e5] at h6
          refine key v rg' (⟨e, rg, v⟩ :: xs) als W3 h5 hI.wr hI.gr ⟨.inl ⟨_, List.mem_cons_self, rfl⟩, fun _ h => by simp [h], fun _ h => h, fun y hy => ?_, fun _ h => .inl h, hI.dis, Nat.le_refl _, fun _ _ => rfl⟩ h6
          rcases List.mem_cons.1 hy with rfl | hy
          · exact .inr ⟨rfl, hsn, hw, rfl, hst⟩
          · exact .inl hy
end
end Go.Cev
namespace Go.Cev
open Go.RowKit
theorem subA_of {m d : Nat} (h : ∀ j, Nat.testBit m j = true → Nat.testBit d j = true) : subA m d = true := by
  unfold subA
  have : Nat.land m d = m := by
    apply Nat.eq_of_testBit_eq
    intro j
    have : Nat.land m d = m &&& d := rfl
    rw [this, Nat.testBit_and]
    cases hm : Nat.testBit m j with
    | false => rfl
    | true => rw [h j hm]; rfl
  rw [this]; exact Nat.beq_refl m
theorem noReady_ok {done : Nat} : ∀ {l : List Ent}, noReady done l = true → ∀ e ∈ l, isMv e.o = true ∨ subA e.m done = false
  | [], _, e, he => by cases he
  | a :: l, h, e, he => by
    simp only [noReady, Bool.and_eq_true, Bool.or_eq_true, Bool.not_eq_true'] at h
    rcases List.mem_cons.1 he with rfl | he
    · exact h.1
    · exact noReady_ok h.2 e he
section
variable {kn : Kn} {rc : Rc} {n : Nat} {ops : List Oper}
theorem pass_keep : ∀ (l : List Ent) (rg : PT Value) (done : Nat) (xs : List Xe) (W W1 : AW) (p : Ps), passF kn n ops l rg done xs W = some (p, W1) → ∀ e ∈ l, isMv e.o = true → e ∈ p.rest
  | [], rg, done, xs, W, W1, p, h, e, he, hm => by cases he
  | a :: l, rg, done, xs, W, W1, p, h, e, he, hm => by
    unfold passF at h
    cases hc : (isMv a.o || !subA a.m done) with
    | true =>
      rw [hc] at h
      obtain ⟨p1, W2, h1, h2⟩ := bd_some h
      cases h2
      rcases List.mem_cons.1 he with rfl | he
      · simp
      · simp [pass_keep l rg done xs W W1 p1 h1 e he hm]
    | false =>
      rw [hc] at h
      have hne : e ∈ l := by
        rcases List.mem_cons.1 he with rfl | he
        · rw [hm] at hc; cases hc
        · exact he
      simp only [cond_false] at h
      cases hw : wantA ops a.o rg with
      | false =>
        rw [hw] at h
        obtain ⟨rg', W2, h1, h2⟩ := bd_some h
        exact pass_keep l _ _ _ _ _ _ h2 e hne hm
      | true =>
        rw [hw] at h
        simp only [cond_true] at h
        cases hal : alA kn.ty rg a.o with
        | some z =>
          obtain ⟨ao, ak⟩ := z
          rw [hal] at h
          obtain ⟨b, W2, h1, h2⟩ := bd_some h
          obtain ⟨rg', W3, h3, h4⟩ := bd_some h2
          exact pass_keep l _ _ _ _ _ _ h4 e hne hm
        | none =>
          rw [hal] at h
          obtain ⟨u, W2, h1, h2⟩ := bd_some h
          obtain ⟨x, W3, h3, h4⟩ := bd_some h2
          cases x <;> try (cases h4; done)
          obtain ⟨rg', W4, h5, h6⟩ := bd_some h4
          exact pass_keep l _ _ _ _ _ _ h6 e hne hm
theorem float_some {l : List Ent} {rg : PT Value} {done m : Nat} {xs : List Xe} {W W1 : AW} {p : Ps} (h : floatF kn n ops l rg done xs m W = some (p, W1)) : ∃ W2 W3, passF kn n ops l rg done xs W = some (p, W2) ∧ lookF kn m p.xs W2 = some ((), W3) ∧ noReady p.done p.rest = true ∧ W1 = W3 := by
  unfold floatF at h
  obtain ⟨p1, W2, h1, h2⟩ := bd_some h
  obtain ⟨u, W3, h3, h4⟩ := bd_some h2
  obtain ⟨u2, W4, h5, h6⟩ := bd_some h4
  obtain ⟨h7, e5⟩ := okS h5
  cases h6
  exact ⟨W2, W3, h1, h3, h7, e5⟩
theorem look_ok {m : Nat} : ∀ {xs : List Xe} {W W1 : AW}, lookF kn m xs W = some ((), W1) → (∀ x ∈ xs, isSt x.e.o = true) → W1 = W ∧ ∀ x ∈ xs, Nat.testBit m x.e.i = true ∨ opA kn x.rg x.e.o W = some (.val x.v, W)
  | [], W, W1, h, _ => by cases h; exact ⟨rfl, fun x hx => by cases hx⟩
  | x :: l, W, W1, h, hs => by
    unfold lookF at h
    cases hb : bitA m x.e.i with
    | true =>
      rw [hb] at h
      obtain ⟨g1, g2⟩ := look_ok h fun y hy => hs y (by simp [hy])
      refine ⟨g1, fun y hy => ?_⟩
      rcases List.mem_cons.1 hy with rfl | hy
      · exact .inl hb
      · exact g2 y hy
    | false =>
      rw [hb] at h
      obtain ⟨y, W2, h1, h2⟩ := bd_some h
      have e1 := still_W (hs x (by simp)) _ _ _ h1
      subst e1
      cases y <;> try (cases h2; done)
      rename_i v
      obtain ⟨u, W3, h3, h4⟩ := bd_some h2
      obtain ⟨h3, e3⟩ := okS h3
      rw [e3] at h4
      have hv := eqV_eq _ _ _ h3
      subst hv
      obtain ⟨g1, g2⟩ := look_ok h4 fun y hy => hs y (by simp [hy])
      refine ⟨g1, fun y hy => ?_⟩
      rcases List.mem_cons.1 hy with rfl | hy
      · exact .inr h1
      · exact g2 y hy
/-- what is done later has what is done now ahead of it -/
theorem chain_ok {cx : Cx} : ∀ (f : Nat) (s : Ds) (W : AW) (x : (PT Value × List Deferred) × AW), goD kn rc cx ops f s W = some x → ∀ e ∈ s.pend, isMv e.o = true → ∀ j, Nat.testBit s.mvs j = true → Nat.testBit e.m j = true
  | 0, s, W, x, h, e, he, hm, j, hj => by cases h
  | f + 1, s, W, x, h, e, he, hm, j, hj => by
    unfold goD at h
    cases hp : s.pend with
    | nil => rw [hp] at he; cases he
    | cons e0 rest =>
      rw [hp] at h he
      obtain ⟨u, W1, h1, h2⟩ := bd_some h
      obtain ⟨h1, e1⟩ := okS h1
      simp only [Bool.and_eq_true] at h1
      rcases List.mem_cons.1 he with rfl | he
      · exact subA_ok h1.2 hj
      · obtain ⟨y, W2, h3, h4⟩ := bd_some h2
        obtain ⟨rg', W3, h5, h6⟩ := bd_some h4
        obtain ⟨p, W4, h7, h8⟩ := bd_some h6
        obtain ⟨W5, W6, h9, _, _, _⟩ := float_some h7
        exact chain_ok f _ _ _ h8 e (pass_keep _ _ _ _ _ _ _ h9 e he hm) hm j (bit_or.2 (.inl hj))
end
section
variable {P : Program} {H : Nat} {w0 : World} {kn : Kn} {n : Nat} {ops : List Oper} {L : List Ent} {rg0 : PT Value} {ω0 : Om} {W0 : AW} {E : Nat → Prop} {V : Nat → Option Value} {ω ω' : Om} {w w' : World} {a : Act} {rg rg' : PT Value} {done : Nat} {xs : List Xe} {als : List Al} {W W' : AW}
theorem put_get {a : Act} {d : Option Tmp} {v : Value} {n : Nat} (hs : a.tmps.size = n) : (∀ t, d = some t → t < n → (a.put d v).tmps.getD t undef = v) ∧ (∀ t, d ≠ some t → (a.put d v).tmps.getD t undef = a.tmps.getD t undef) ∧ (a.put d v).tmps.size = n := by
  cases d with
  | none => exact ⟨fun t e => (by cases e), fun t _ => rfl, hs⟩
  | some u =>
    refine ⟨fun t e ht => ?_, fun t e => ?_, by simp [Act.put, hs]⟩
    · cases e
      show (a.tmps.setIfInBounds u v).getD u undef = v
      simp [Array.getD, hs, ht]
    · show (a.tmps.setIfInBounds u v).getD t undef = _
      simp only [Array.getD_eq_getD_getElem?, Array.getElem?_setIfInBounds]
      rw [if_neg (fun e' => e (by rw [e']))]
/-- the machine does what is done by names -/
theorem Inv.exec (hp : PlanOk ops L) (h : Inv H w0 kn n ops L rg0 ω0 W0 E V ω w a rg done xs als W) {e : Ent} (he : e ∈ L) (hE : ¬ E e.i) (hm : ∀ j, Nat.testBit e.m j = true → E j) {v v' : Value} (hv : V e.i = some v) (hvr : VR ω' v v') (hle : Om.Le ω ω') (hwr : WR H w0 ω' W w') (hgr : Gr ω0 W0 ω' W) (hal : ∀ y ∈ als, ¬ E y.e.i → y.e.i ≠ e.i → ω' y.b = none) :
    Inv H w0 kn n ops L rg0 ω0 W0 (fun j => E j ∨ j = e.i) V ω' w' (a.put e.o.dst v') rg done xs als W := by
  obtain ⟨p1, p2, p3⟩ := put_get (a := a) (d := e.o.dst) (v := v') h.size
  refine ⟨hwr, hgr, h.reg1, h.reg0, h.bits, h.closed, fun e1 he1 h1 => ?_, fun e1 he1 h1 j hj => ?_, fun e1 he1 h1 h2 => .inl (h.mv e1 he1 h1 h2), p3, fun e1 he1 h1 t ht => ?_, fun t ht => ?_, fun e1 he1 h1 => ?_, h.st, fun y hy => ?_, h.dis, h.lim⟩
  · rcases h1 with h1 | h1
    · exact h.sub e1 he1 h1
    · rw [h1, hv]; exact fun e => by cases e
  · rcases h1 with h1 | h1
    · exact .inl (h.cl e1 he1 h1 j hj)
    · rw [hp.pl.uniq e1 he1 e he h1] at hj
      exact .inl (hm j hj)
  · by_cases hi : e1.i = e.i
    · have := hp.pl.uniq e1 he1 e he hi
      subst this
      exact ⟨v, hv, by rw [p1 t ht (h.lim e1 he1 (by rw [hv]; exact fun e => by cases e) t ht)]; exact hvr⟩
    · obtain ⟨u, h2, h3⟩ := h.mreg1 e1 he1 (h1.resolve_right hi) t ht
      exact ⟨u, h2, by rw [p2 t (fun hd => hp.dst e1 he1 e he hi t ht hd)]; exact h3.mono hle⟩
  · have hd : e.o.dst ≠ some t := fun hd => ht e he hd (.inr rfl)
    rw [p2 t hd]
    exact (h.mreg0 t fun e1 he1 h1 h2 => ht e1 he1 h1 (.inl h2)).mono hle
  · rcases h.cov e1 he1 h1 with hc | hc
    · exact .inl (.inl hc)
    · exact .inr hc
  · obtain ⟨g1, g2, g3, g4, g5, g6, g7, g8⟩ := h.al y hy
    exact ⟨g1, g2, g3, g4, g5, g6, g7, fun hn => ⟨hal y hy (fun h => hn (.inl h)) (fun h => hn (.inr h)), (g8 fun h => hn (.inl h)).2⟩⟩
/-- a mover -/
theorem Inv.move (hp : PlanOk ops L) (h : Inv H w0 kn n ops L rg0 ω0 W0 E V ω w a rg done xs als W) {e : Ent} (he : e ∈ L) (hV : V e.i = none) (hE : ¬ E e.i) (hm : ∀ j, Nat.testBit e.m j = true → E j) (hs : subA e.m done = true) {v v' : Value} (hput : putD n e.o.dst v rg = some rg') (hvr : VR ω' v v') (hg : Gr ω W ω' W') (hwr : WR H w0 ω' W' w') {a' : Act} (ha' : a'.tmps = a.tmps) :
    Inv H w0 kn n ops L rg0 ω0 W0 (fun j => E j ∨ j = e.i) (Vp V e.i v) ω' w' (a'.put e.o.dst v') rg' (Nat.lor done (2 ^ e.i)) xs als W' := by
  obtain ⟨q1, q2, q3⟩ := put_get (a := a') (d := e.o.dst) (v := v') (n := n) (by rw [ha']; exact h.size)
  obtain ⟨p1, p2⟩ := putD_get hput
  have hle := Vp_le (v := v) hV
  refine ⟨hwr, h.gr.trans hg, fun e1 he1 t u ht hu => ?_, fun t ht => ?_, fun e1 he1 => ?_, fun e1 he1 hv j hj => ?_, fun e1 he1 h1 => ?_, fun e1 he1 h1 j hj => ?_, fun e1 he1 h1 h2 => ?_, q3, fun e1 he1 h1 t ht => ?_, fun t ht => ?_, fun e1 he1 hv => ?_, fun x hx => ?_, fun y hy => ?_, h.dis, fun e1 he1 hv t ht => ?_⟩
  · by_cases hi : e1.i = e.i
    · have := hp.pl.uniq e1 he1 e he hi
      subst this
      rw [Vp_at] at hu; cases hu
      exact (p1 t ht).2
    · rw [Vp_ne hi] at hu
      rw [p2 t (fun hd => hp.dst e1 he1 e he hi t ht hd)]
      exact h.reg1 e1 he1 t u ht hu
  · have hd : e.o.dst ≠ some t := fun hd => by
      have := ht e he hd
      rw [Vp_at] at this; cases this
    rw [p2 t hd]
    refine h.reg0 t fun e1 he1 h1 => ?_
    have := ht e1 he1 h1
    by_cases hi : e1.i = e.i
    · rw [hi, Vp_at] at this; cases this
    · rwa [Vp_ne hi] at this
  · rw [bit_or]
    by_cases hi : e1.i = e.i
    · rw [hi, Vp_at]; simp
    · rw [Vp_ne hi, h.bits e1 he1]
      exact ⟨fun hh => hh.resolve_right hi, .inl⟩
  · rw [bit_or]; left
    rcases Vp_none hv with hi | hv
    · rw [hp.pl.uniq e1 he1 e he hi] at hj
      exact subA_ok hs hj
    · exact h.closed e1 he1 hv j hj
  · by_cases hi : e1.i = e.i
    · rw [hi, Vp_at]; exact fun e => by cases e
    · rw [Vp_ne hi]; exact h.sub e1 he1 (h1.resolve_right hi)
  · rcases h1 with h1 | h1
    · exact .inl (h.cl e1 he1 h1 j hj)
    · rw [hp.pl.uniq e1 he1 e he h1] at hj
      exact .inl (hm j hj)
  · rcases Vp_none h2 with hi | h2
    · exact .inr hi
    · exact .inl (h.mv e1 he1 h1 h2)
  · by_cases hi : e1.i = e.i
    · have := hp.pl.uniq e1 he1 e he hi
      subst this
      exact ⟨v, Vp_at, by rw [q1 t ht (p1 t ht).1]; exact hvr⟩
    · obtain ⟨u, h2, h3⟩ := h.mreg1 e1 he1 (h1.resolve_right hi) t ht
      exact ⟨u, by rw [Vp_ne hi]; exact h2, by rw [q2 t (fun hd => hp.dst e1 he1 e he hi t ht hd), ha']; exact h3.mono hg.le⟩
  · have hd : e.o.dst ≠ some t := fun hd => ht e he hd (.inr rfl)
    rw [q2 t hd, ha']
    exact (h.mreg0 t fun e1 he1 h1 h2 => ht e1 he1 h1 (.inl h2)).mono hg.le
  · rcases Vp_none hv with hi | hv
    · exact .inl (.inr hi)
    · rcases h.cov e1 he1 hv with hc | hc | hc | ⟨rgx, h1, h2, h3⟩
      · exact .inl (.inl hc)
      · exact .inr (.inl hc)
      · exact .inr (.inr (.inl hc))
      · exact .inr (.inr (.inr ⟨rgx, h1.mono hle, h2, hle _ _ h3⟩))
  · obtain ⟨g1, g2, g3, g4, g5⟩ := h.st x hx
    exact ⟨g1, g2.mono hle, g3, hle _ _ g4, g5⟩
  · obtain ⟨g1, g2, g3, g4, g5, g6, g7, g8⟩ := h.al y hy
    refine ⟨g1, g2.mono hle, g3, g4, hle _ _ g5, g6, Nat.lt_of_lt_of_le g7 hg.next, fun hn => ?_⟩
    obtain ⟨k1, k2⟩ := g8 fun h => hn (.inl h)
    obtain ⟨k3, k4⟩ := hg.keep y.b g7 k1
    exact ⟨k4, k3.trans k2⟩
  · rcases Vp_none hv with hi | hv
    · rw [hp.pl.uniq e1 he1 e he hi] at ht
      exact (p1 t ht).1
    · exact h.lim e1 he1 hv t ht
end
end Go.Cev
namespace Go.Cev
open Go.RowKit
def cnt (l : Array Bool) : Nat := (l.toList.filter (fun b => !b)).length
theorem filt_set : ∀ {l : List Bool} {i : Nat}, l[i]? = some false → ((l.set i true).filter (fun b => !b)).length + 1 = (l.filter (fun b => !b)).length
  | [], i, h => by simp at h
  | a :: l, 0, h => by
    simp at h; subst h; simp
  | a :: l, i + 1, h => by
    have := filt_set (l := l) (i := i) (by simpa using h)
    cases a <;> simp <;> omega
theorem cnt_set {l : Array Bool} {i : Nat} (h : l.getD i true = false) : cnt (l.setIfInBounds i true) + 1 = cnt l := by
  unfold cnt
  rw [Array.toList_setIfInBounds]
  refine filt_set ?_
  rw [Array.getD_eq_getD_getElem?] at h
  cases hl : l[i]? with
  | none => rw [hl] at h; cases h
  | some b => rw [hl] at h; rw [Array.getElem?_toList, hl]; exact congrArg some h
theorem cnt_zero {l : Array Bool} (h : cnt l = 0) : ∀ i, i < l.size → l.getD i false = true := fun i hi => by
  unfold cnt at h
  have h1 : l.toList.filter (fun b => !b) = [] := List.length_eq_zero_iff.1 h
  rw [List.filter_eq_nil_iff] at h1
  have := h1 l[i] (by simp)
  simp only [Array.getD, hi, dite_true]
  simpa using this
theorem El_set {l : Array Bool} {i : Nat} (hi : i < l.size) (j : Nat) : (l.setIfInBounds i true).getD j false = true ↔ l.getD j false = true ∨ j = i := by
  simp only [Array.getD_eq_getD_getElem?, Array.getElem?_setIfInBounds]
  by_cases h : i = j
  · subst h; simp [hi]
  · rw [if_neg h]; exact ⟨.inl, fun hh => hh.resolve_right (Ne.symm h)⟩
theorem ready_all {ops : Array Oper} (hback : ∀ (j : Nat) (o : Oper), ops[j]? = some o → ∀ e ∈ o.after.toList, Region.binds .any e = true → e.on < j) {listed : Array Bool} (hs : listed.size = ops.size) (h : Region.ready .any ops listed = []) : ∀ i, i < ops.size → listed.getD i false = true := by
  intro i
  induction i using Nat.strongRecOn with
  | _ i ih =>
    intro hi
    cases hu : listed.getD i false with
    | true => rfl
    | false =>
      obtain ⟨o, ho⟩ : ∃ o, ops[i]? = some o := ⟨ops[i], by simp [hi]⟩
      have hu2 : listed.getD i true = false := by
        have : i < listed.size := by omega
        simp [Array.getD, this] at hu ⊢; exact hu
      have : i ∈ Region.ready .any ops listed := mem_ready.2 ⟨hu2, o, ho, fun e he hb => by
        have hlt := hback i o ho e (by simpa using he) hb
        exact ih e.on hlt (by omega)⟩
      rw [h] at this; cases this
section
variable {P : Program} {H : Nat} {w0 : World} {kn : Kn} {rc : Rc}
theorem isSt_defer {o : Oper} (h : isSt o = true) (c : Call) : o.op ≠ .defer c := fun e => by
  unfold isSt at h; rw [e] at h; cases h
theorem alA_defer {tb : PT TyI} {rg : PT Value} {o : Oper} {x : AO × AK} (h : alA tb rg o = some x) (c : Call) : o.op ≠ .defer c := fun e => by
  unfold alA at h; rw [e] at h; cases h
/-- an operation that comes to a value -/
theorem op_val {ops : Array Oper} {i : Nat} {o : Oper} {a : Act} {b : Frame} {cs : List Frame} {k : List Item} {rest : List Nat} {w w1 : World} {nx : Next} {v' : Value} (ho : ops[i]? = some o) (hwant : Region.wanted o (yielded ops a.tmps) = true) (hnd : ∀ c, o.op ≠ .defer c) (hx : (execOp a.eval o).run P w = .ok nx w1) (hv : nx = .value v' ∨ (nx = .skip ∧ v' = undef)) :
    Steps P (lone (b.atR a (.inRegion ops (i :: rest) :: k)) cs w) (lone (b.atR (a.put o.dst v') (.inRegion ops rest :: k)) cs w1) := by
  have hg := stepGR_op (P := P) (b := b) (k := k) (cs := cs) (w := w) (rest := rest) ho hwant
  rw [Oper.semAt_eq _ _ _ hnd] at hg
  have hfin : ∀ u, (b.atR a (.inRegion ops (i :: rest) :: k)).finish u = b.atR (a.put o.dst u) (.inRegion ops rest :: k) := by
    intro u; rw [Frame.finish_atR, ho]; rfl
  refine .one (step_lone_go ?_)
  rcases hv with rfl | ⟨rfl, rfl⟩
  · rw [hg, ← hfin]; simp [stepG.apply, hx]
  · rw [hg, ← hfin]; simp [stepG.apply, hx]
variable {L : List Ent} {rg0 : PT Value} {ω0 : Om} {W0 : AW}
theorem drawn_go (hk : KnOk P H w0 kn) (hr : RcOk P H w0 rc) {cx : Cx} {ops : Array Oper} {b : Frame} {cs : List Frame} {k : List Item} (hfit : Fit cx b cs ω0) (hp : PlanOk ops.toList L) {rg' : PT Value} {df' : List Deferred} {W' : AW} :
    ∀ (fuel t : Nat) (listed : Array Bool) (E : Nat → Prop) (f : Nat) (s : Ds) (W : AW) (V : Nat → Option Value) (ω : Om) (w : World) (a : Act) (als : List Al), listed.size = ops.size → (∀ j, listed.getD j false = true ↔ E j) → cnt listed ≤ fuel → Inv H w0 kn cx.n ops.toList L rg0 ω0 W0 E V ω w a s.rg s.done s.xs als W → Look kn E s.xs W → Left L V s.pend → noReady s.done s.pend = true → DRs ω s.df a.defers → goD kn rc cx ops.toList f s W = some ((rg', df'), W') →
      ∃ ω' w' a', Gr ω0 W0 ω' W' ∧ WR H w0 ω' W' w' ∧ RegR ω' rg' cx.n a'.tmps ∧ DRs ω' df' a'.defers ∧ Steps P (lone (b.atR a (.inRegion ops (Region.linearise.go .any ops fuel t listed []) :: k)) cs w) (lone (b.atR a' k) cs w') := by
  have hback : ∀ (j : Nat) (o : Oper), ops[j]? = some o → ∀ e ∈ o.after.toList, Region.binds .any e = true → e.on < j := fun j o ho e he hb => by
    obtain ⟨x, h1, h2, h3⟩ := hp.pl.all j o (by simpa using ho)
    have := hp.back x h1 e (by rw [h3]; exact he) hb
    omega
  -- all is done
  have fin : ∀ (listed : Array Bool) (E : Nat → Prop) (f : Nat) (s : Ds) (W : AW) (V : Nat → Option Value) (ω : Om) (w : World) (a : Act) (als : List Al), (∀ j, listed.getD j false = true ↔ E j) → (∀ i, i < ops.size → listed.getD i false = true) → Inv H w0 kn cx.n ops.toList L rg0 ω0 W0 E V ω w a s.rg s.done s.xs als W → Left L V s.pend → DRs ω s.df a.defers → goD kn rc cx ops.toList f s W = some ((rg', df'), W') →
      ∃ ω' w' a', Gr ω0 W0 ω' W' ∧ WR H w0 ω' W' w' ∧ RegR ω' rg' cx.n a'.tmps ∧ DRs ω' df' a'.defers ∧ Steps P (lone (b.atR a (.inRegion ops [] :: k)) cs w) (lone (b.atR a' k) cs w') := fun listed E f s W V ω w a als hE hall hI hL hdf hgo => by
    have hEall : ∀ e ∈ L, E e.i := fun e he => (hE _).1 (hall _ (by
      have := hp.pl.at_ e he
      have := (List.getElem?_eq_some_iff.1 this).1
      simpa using this))
    have hpend : s.pend = [] := by
      cases hs : s.pend with
      | nil => rfl
      | cons e l =>
        obtain ⟨h1, h2⟩ := hL.of e (by rw [hs]; exact List.mem_cons_self)
        exact absurd h2 (hI.sub e h1 (hEall e h1))
    cases f with
    | zero => cases hgo
    | succ f =>
      unfold goD at hgo
      rw [hpend] at hgo
      cases hgo
      refine ⟨ω, w, a, hI.gr, hI.wr, ⟨hI.size, fun t => ?_⟩, hdf, .one stepR_region_end⟩
      by_cases ht : ∃ e ∈ L, e.o.dst = some t
      · obtain ⟨e, he, hd⟩ := ht
        obtain ⟨v, h1, h2⟩ := hI.mreg1 e he (hEall e he) t hd
        rw [hI.reg1 e he t v hd h1]; exact h2
      · rw [hI.reg0 t fun e he hd => absurd ⟨e, he, hd⟩ ht]
        exact hI.mreg0 t fun e he hd => absurd ⟨e, he, hd⟩ ht
  intro fuel
  induction fuel with
  | zero =>
    intro t listed E f s W V ω w a als hsz hE hc hI hLk hL hnr hdf hgo
    simp only [Region.linearise.go]
    exact fin listed E f s W V ω w a als hE (fun i hi => cnt_zero (Nat.le_zero.1 hc) i (by omega)) hI hL hdf hgo
  | succ fuel ih =>
    intro t listed E f s W V ω w a als hsz hE hc hI hLk hL hnr hdf hgo
    simp only [Region.linearise.go]
    change ∃ ω' w' a', Gr ω0 W0 ω' W' ∧ WR H w0 ω' W' w' ∧ RegR ω' rg' cx.n a'.tmps ∧ DRs ω' df' a'.defers ∧ Steps P (lone (b.atR a (.inRegion ops (match (Region.ready .any ops listed)[t % (Region.ready .any ops listed).length]? with
      | some i => Region.linearise.go .any ops fuel (t / (Region.ready .any ops listed).length) (listed.setIfInBounds i true) [i]
      | none => [].reverse) :: k)) cs w) (lone (b.atR a' k) cs w')
    cases hi : (Region.ready .any ops listed)[t % (Region.ready .any ops listed).length]? with
    | none =>
      have hnil : Region.ready .any ops listed = [] := by
        cases hr : Region.ready .any ops listed with
        | nil => rfl
        | cons x xs =>
          rw [hr] at hi
          have hlt : t % (x :: xs).length < (x :: xs).length := Nat.mod_lt _ (by simp)
          simp at hi
          simp at hlt
          omega
      exact fin listed E f s W V ω w a als hE (ready_all hback hsz hnil) hI hL hdf hgo
    | some i =>
      simp only []
      rw [linearise_go_acc, List.reverse_singleton, List.singleton_append]
      obtain ⟨hu, o, ho, hafter⟩ := mem_ready.1 (List.mem_of_getElem? hi)
      have hil : i < ops.size := (Array.getElem?_eq_some_iff.1 ho).1
      have hil2 : i < listed.size := by omega
      obtain ⟨e, he, hei, heo⟩ := hp.pl.all i o (by simpa using ho)
      have hEi : ¬ E e.i := fun h => by
        have := (hE _).2 h
        rw [hei] at this
        simp [Array.getD, hil2] at this hu
        rw [hu] at this; cases this
      have hm : ∀ j, Nat.testBit e.m j = true → E j := fun j hj => by
        obtain ⟨d, h1, h2, h3⟩ := hp.pl.mask e he j hj
        have hd : E d.on := (hE _).1 (hafter d (by rw [heo] at h1; simpa using h1) h2)
        rcases h3 with rfl | ⟨e', h4, h5, h6⟩
        · exact hd
        · exact hI.cl e' h4 (by rw [h5]; exact hd) j h6
      have hwt : ∀ {rgx : PT Value}, Snap ops.toList L rg0 V rgx e → Region.wanted o (yielded ops a.tmps) = wantA ops.toList e.o rgx := fun hs => by
        rw [heo]
        exact want_ok (ω := ω) fun j want hg oj t hoj hd => hI.found hp he hEi hm hs (.inr ⟨j, want, oj, by rw [heo]; exact hg, by simpa using hoj, hd⟩)
      have hE' : ∀ j, (listed.setIfInBounds i true).getD j false = true ↔ E j ∨ j = e.i := fun j => by
        rw [El_set hil2, hE, hei]
      have hcn : cnt (listed.setIfInBounds i true) ≤ fuel := by have := cnt_set hu; omega
      have hsz' : (listed.setIfInBounds i true).size = ops.size := by simpa using hsz
      -- a floater
      have flo : ∀ (v v' : Value) (ω1 : Om) (w1 : World), V e.i = some v → Om.Le ω ω1 → VR ω1 v v' → WR H w0 ω1 W w1 → Gr ω0 W0 ω1 W → (∀ y ∈ als, ¬ E y.e.i → y.e.i ≠ e.i → ω1 y.b = none) → (∀ rest, Steps P (lone (b.atR a (.inRegion ops (i :: rest) :: k)) cs w) (lone (b.atR (a.put o.dst v') (.inRegion ops rest :: k)) cs w1)) →
          ∃ ω' w' a', Gr ω0 W0 ω' W' ∧ WR H w0 ω' W' w' ∧ RegR ω' rg' cx.n a'.tmps ∧ DRs ω' df' a'.defers ∧ Steps P (lone (b.atR a (.inRegion ops (i :: Region.linearise.go .any ops fuel (t / (Region.ready .any ops listed).length) (listed.setIfInBounds i true) []) :: k)) cs w) (lone (b.atR a' k) cs w') := fun v v' ω1 w1 hv hle hvr hwr hgr hal hst => by
        have hI' := hI.exec hp he hEi hm hv hvr hle hwr hgr hal
        rw [heo] at hI'
        obtain ⟨ω2, w2, a2, g1, g2, g3, g4, g5⟩ := ih (t / (Region.ready .any ops listed).length) (listed.setIfInBounds i true) (fun j => E j ∨ j = e.i) f s W V ω1 w1 (a.put o.dst v') als hsz' hE' hcn hI' (fun x hx hn => hLk x hx fun h => hn (.inl h)) hL hnr (by rw [put_defers]; exact hdf.mono hle) hgo
        exact ⟨ω2, w2, a2, g1, g2, g3, g4, (hst _).trans g5⟩
      cases hV : V e.i with
      | some v =>
        have hv0 : V e.i ≠ none := by rw [hV]; exact fun e => by cases e
        rcases hI.cov e he hv0 with h1 | ⟨x, hx, hxe⟩ | ⟨y, hy, hye⟩ | ⟨rgx, h1, h2, h3⟩
        · exact absurd h1 hEi
        · obtain ⟨g1, g2, g3, g4, g5⟩ := hI.st x hx
          subst hxe
          have hop := hLk x hx hEi
          obtain ⟨ω1, nx, w1, k1, k2, k3, k4⟩ := sim_op (P := P) hk (hI.opd hp g1 hEi hm g2) W w hI.wr _ _ hop
          rw [heo] at k2
          have hnd : ∀ c, o.op ≠ .defer c := by rw [← heo]; exact isSt_defer g5
          have hw := (hwt g2).trans g3
          have hvv : v = x.v := by rw [g4] at hV; cases hV; rfl
          have hal : ∀ y ∈ als, ¬ E y.e.i → y.e.i ≠ x.e.i → ω1 y.b = none := fun y hy hn _ => by
            obtain ⟨_, _, _, _, _, _, q7, q8⟩ := hI.al y hy
            exact (k1.keep y.b q7 (q8 hn).1).2
          generalize hz : x.v = u at k4 hvv
          cases k4 with
          | @value _ v' hvr => exact flo v v' ω1 w1 hV k1.le (by rw [hvv]; exact hvr) k3 (hI.gr.trans k1) hal fun rest => op_val ho hw hnd k2 (.inl rfl)
          | skip => exact flo v undef ω1 w1 hV k1.le (by rw [hvv]; exact .tuple .nil) k3 (hI.gr.trans k1) hal fun rest => op_val ho hw hnd k2 (.inr ⟨rfl, rfl⟩)
        · obtain ⟨g1, g2, g3, g4, g5, g6, g7, g8⟩ := hI.al y hy
          subst hye
          obtain ⟨k1, k2⟩ := g8 hEi
          obtain ⟨rm, o', q1, q2, q3, q4⟩ := alA_ok hk.ty g4 (hI.opd hp g1 hEi hm g2) (ω := ω)
          have hw := (hwt g2).trans g3
          have hnd : ∀ c, o.op ≠ .defer c := by rw [← heo]; exact alA_defer g4
          rw [heo] at q2
          refine flo v (y.ak.val w.heap.size) (ω.add y.b w.heap.size 0 rm) _ hV (ω.add_le k1) ?_ (hI.wr.make k1 g7 k2 q1) (hI.gr.make k1 g6) (fun z hz hn hzi => ?_) fun rest => op_val ho hw hnd (q2 w) (.inl rfl)
          · have : v = y.ak.val y.b := by rw [g5] at hV; cases hV; rfl
            rw [this]
            exact q4 _ _ _ (Om.add_at ..) (Om.add_room ..)
          · have hzb : z.b ≠ y.b := fun hb => hzi (hI.dis z hz y hy hb)
            obtain ⟨_, _, _, _, _, _, _, q8⟩ := hI.al z hz
            show (if z.b = y.b then _ else _) = none
            rw [if_neg hzb]; exact (q8 hn).1
        · have hw := (hwt h1).trans h2
          have hvv : v = undef := by rw [h3] at hV; cases hV; rfl
          exact flo v undef ω w hV (Om.Le.refl ω) (by rw [hvv]; exact .tuple .nil) hI.wr hI.gr (fun y hy hn _ => ((hI.al y hy).2.2.2.2.2.2.2 hn).1) fun rest => skip_ok ho hw rest k
      | none =>
        have hpe := hL.all e he hV
        have hsub : subA e.m s.done = true := subA_of fun j hj => by
          have hEj := hm j hj
          have hjl : j < e.i := hp.lt _ e (Nat.le_refl _) he j hj
          obtain ⟨oj, hoj⟩ : ∃ oj, ops.toList[j]? = some oj := ⟨ops.toList[j]'(by simp; omega), by simp⟩
          obtain ⟨ej, h1, h2, h3⟩ := hp.pl.all j oj hoj
          have := hI.sub ej h1 (by rw [h2]; exact hEj)
          rw [← h2]; exact (hI.bits ej h1).2 this
        have hmv : isMv e.o = true := by
          rcases noReady_ok hnr e hpe with h | h
          · exact h
          · rw [hsub] at h; cases h
        cases f with
        | zero => cases hgo
        | succ f =>
          unfold goD at hgo
          cases hpd : s.pend with
          | nil => rw [hpd] at hpe; cases hpe
          | cons e0 rest =>
            rw [hpd] at hgo hpe
            have hpw := hL.pw
            rw [hpd] at hpw
            obtain ⟨hq1, hq2⟩ := List.pairwise_cons.1 hpw
            obtain ⟨u, W1, h1, h2⟩ := bd_some hgo
            obtain ⟨h1, e1⟩ := okS h1
            simp only [Bool.and_eq_true] at h1
            rw [e1] at h2
            obtain ⟨⟨v, df1⟩, W2, h3, h4⟩ := bd_some h2
            obtain ⟨rg1, W3, h5, h6⟩ := bd_some h4
            obtain ⟨h5, e5⟩ := optS h5
            rw [e5] at h6
            obtain ⟨p, W4, h7, h8⟩ := bd_some h6
            obtain ⟨W5, W6, h9, h10, h11, h12⟩ := float_some h7
            have hee : e0 = e := by
              rcases List.mem_cons.1 hpe with h | h
              · exact h.symm
              · have hmem := pass_keep _ _ _ _ _ _ _ h9 e h hmv
                have hb := chain_ok f _ _ _ h8 e hmem hmv e0.i (bit_or.2 (.inr rfl))
                obtain ⟨g1, g2⟩ := hL.of e0 (by rw [hpd]; exact List.mem_cons_self)
                exact absurd g2 (hI.sub e0 g1 (hm _ hb))
            subst hee
            have hsn := hI.snap hp he hV hsub
            -- the machine's step
            have hst : ∃ ω1 v' w1 ds', Gr ω W ω1 W2 ∧ WR H w0 ω1 W2 w1 ∧ VR ω1 v v' ∧ DRs ω1 df1 ds' ∧ Steps P (lone (b.atR a (.inRegion ops (i :: Region.linearise.go .any ops fuel (t / (Region.ready .any ops listed).length) (listed.setIfInBounds i true) []) :: k)) cs w) (lone (b.atR ({ a with defers := ds' }.put o.dst v') (.inRegion ops (Region.linearise.go .any ops fuel (t / (Region.ready .any ops listed).length) (listed.setIfInBounds i true) []) :: k)) cs w1) := by
              cases hc : wantA ops.toList e0.o s.rg with
              | true =>
                rw [hc] at h3
                have hopd := hI.opd hp he hEi hm hsn
                rw [heo] at h3 hopd
                exact evOp_ok hk hr h3 hI.wr hopd hdf (hfit.mono hI.gr.le) ho ((hwt hsn).trans hc) _ k
              | false =>
                rw [hc] at h3
                cases h3
                exact ⟨ω, undef, w, a.defers, Gr.refl ω _, hI.wr, .tuple .nil, hdf, skip_ok ho ((hwt hsn).trans hc) _ k⟩
            obtain ⟨ω1, v', w1, ds', k1, k2, k3, k4, k5⟩ := hst
            have hI1 := hI.move hp he hV hEi hm hsub h5 k3 k1 k2 (a' := { a with defers := ds' }) rfl
            have hrest : ∀ e1 ∈ rest, e1 ∈ L ∧ Vp V e0.i v e1.i = none := fun e1 he1 => by
              obtain ⟨g1, g2⟩ := hL.of e1 (by rw [hpd]; exact List.mem_cons_of_mem _ he1)
              exact ⟨g1, by rw [Vp_ne (by have := hq1 e1 he1; omega)]; exact g2⟩
            obtain ⟨V', als', g1, g2, g3, g4, g5, g6⟩ := pass_ok hp _ _ _ _ _ _ _ _ _ h9 hI1 hrest hq2
            obtain ⟨e6, hlk⟩ := look_ok h10 fun x hx => (g1.st x hx).2.2.2.2
            rw [h12, e6] at h8
            have hLk' : Look kn (fun j => E j ∨ j = e0.i) p.xs W5 := fun x hx hn => by
              rcases hlk x hx with h | h
              · exact absurd (.inl (hm _ h)) hn
              · exact h
            have hL' : Left L V' p.rest := ⟨fun e1 he1 hv => by
              have hv1 : V e1.i = none := by
                cases hh : V e1.i with
                | none => rfl
                | some u => rw [g2 _ _ (Vp_le hV _ _ hh)] at hv; cases hv
              have := hL.all e1 he1 hv1
              rw [hpd] at this
              rcases List.mem_cons.1 this with h | h
              · rw [h, g2 _ v Vp_at] at hv; cases hv
              · exact g3 e1 h hv, fun e1 he1 => ⟨(hrest e1 (g4 e1 he1).1).1, (g4 e1 he1).2⟩, g5⟩
            rw [heo] at g1
            obtain ⟨ω2, w2, a2, m1, m2, m3, m4, m5⟩ := ih (t / (Region.ready .any ops listed).length) (listed.setIfInBounds i true) (fun j => E j ∨ j = e0.i) f _ W5 V' ω1 w1 ({ a with defers := ds' }.put o.dst v') als' hsz' hE' hcn g1 hLk' hL' h11 (by rw [put_defers]; exact k4) h8
            exact ⟨ω2, w2, a2, m1, m2, m3, m4, k5.trans m5⟩
theorem draw_ok (hk : KnOk P H w0 kn) (hmix : P.follows .mixedOrders = true) (rc : Rc) (hr : RcOk P H w0 rc) : DrawOk P H w0 kn rc := by
  intro cx ops rg df W rg' df' W' h ω w a hw hreg hdf b cs k id hfit
  unfold drawA at h
  obtain ⟨u, W1, h1, h2⟩ := bd_some h
  obtain ⟨h1, e1⟩ := okS h1
  rw [e1] at h2
  obtain ⟨p, W2, h3, h4⟩ := bd_some h2
  obtain ⟨W3, W4, h5, h6, h7, h8⟩ := float_some h3
  have hp := plan_ok h1
  have hpw := (planned ops.toList).2
  have hI0 : Inv H w0 kn cx.n ops.toList (planL ops.toList 0 []) rg ω W (fun _ => False) (fun _ => none) ω { w with drawn := w.drawn + 1 } a rg 0 [] [] W :=
    ⟨hw.drew _, Gr.refl ω W, fun e he t v hd hv => (by cases hv), fun t _ => rfl, fun e he => (by simp), fun e he hv => absurd rfl hv, fun e he hE => hE.elim, fun e he hE => hE.elim, fun e he _ hv => absurd rfl hv, hreg.size, fun e he hE => hE.elim, fun t _ => hreg.at_ t, fun e he hv => absurd rfl hv, fun x hx => (by cases hx), fun y hy => (by cases hy), fun y hy => (by cases hy), fun e he hv => absurd rfl hv⟩
  obtain ⟨V', als', g1, g2, g3, g4, g5, g6⟩ := pass_ok hp _ _ _ _ _ _ _ _ _ h5 hI0 (fun e he => ⟨he, rfl⟩) hpw
  obtain ⟨e6, hlk⟩ := look_ok h6 fun x hx => (g1.st x hx).2.2.2.2
  rw [h8, e6] at h4
  have hst := stepR_region_draw (P := P) (b := b) (a := a) (k := k) (cs := cs) (w := w) (ops := ops) (id := id)
  simp only [Region.schedule, hmix, Bool.true_or, if_true] at hst
  obtain ⟨ω2, w2, a2, m1, m2, m3, m4, m5⟩ := drawn_go (P := P) (b := b) (cs := cs) (k := k) hk hr hfit hp ops.size (w.tape w.drawn (.order b.fn id)) (Array.replicate ops.size false) (fun _ => False) _ ⟨p.rg, df, p.done, 0, p.xs, p.rest⟩ W3 V' ω { w with drawn := w.drawn + 1 } a als' (by simp) (fun j => by simp [Array.getD_eq_getD_getElem?, Array.getElem?_replicate]; split <;> simp) (by unfold cnt; exact Nat.le_trans (List.length_filter_le _ _) (by simp)) g1 (fun x hx _ => (hlk x hx).resolve_left (by simp)) ⟨fun e he hv => g3 e he hv, fun e he => ⟨(g4 e he).1, (g4 e he).2⟩, g5⟩ h7 hdf h4
  exact ⟨ω2, w2, a2, m1, m2, m3, m4, .head hst m5⟩
end
end Go.Cev
