/- Is a slice of data nil? Both ways are gone. -/
import Derived.Test.YtmnponhhmkdcdaaGreatDoorKIter
namespace Go.Kin
open Go.RowKit
/-! ### is a slice of data nil? It may be, if it is empty: both ways are gone -/
theorem run_slNil {P : Program} {t : TypeId} {i : TyI} (hti : TyOk P t i) {e : TypeId} (hu : i.u = .slice e) {w : World} (a : Option Addr) (n c : Nat) :
    (∀ op x y, (eqGuard op t x (Operand.const y) (.slice a n c) (.slice none 0 0)).run P w = .ok () w) ∧ (binOp .eql t (.slice a n c) (.slice none 0 0)).run P w = .ok (.bool a.isNone) w ∧ (binOp .neq t (.slice a n c) (.slice none 0 0)).run P w = .ok (.bool (!a.isNone)) w := by
  have hun := hti.under (w := w)
  rw [hu] at hun
  have hop : Op.equal t (.slice a n c) (.slice none 0 0) = Op.equalIn (9999 + 1) t (.slice a n c) (.slice none 0 0) := rfl
  refine nil_of_eq ?_ (fun op x c => by cases op <;> rfl) rfl rfl
  rw [hop, Op.equalIn]
  cases a <;> simp [Sem.run_bind, hun]
theorem Exec.eqNil {P : Program} {b : Frame} {cs : List Frame} {T : Machine → Prop} {C : Ctx} {k : List Item} {te : TE} (hte : TEok P te) {ops : Array Oper} {i m : Nat} {o : Oper} {op : BinOp} {x : Operand} {t t' d kk n xx : Nat} {row : Nat → List D} {s : Stt} {q : Bool}
    (ho : ops[i]? = some o) (hop : o.op = .binOp op t x (.const (.slice none 0 0)) t') (hq : (op = .eql ∧ q = true) ∨ (op = .neq ∧ q = false)) (hg : o.guard = none) (hd : o.dst = some d) (hdN : decide (d < s.N) = true) (hx : evalL s.S x = some (.d (.sl kk n xx row))) (ht : isSl te t = true)
    (h : ∀ r : Bool, (r = true → xx = 0) → Exec ⟨P, b, cs, T, C⟩ (.inRegion ops (List.range' (i + 1) m) :: k) (putSl d (.d (.v (.bool (r == q)))) s).sy) :
    Exec ⟨P, b, cs, T, C⟩ (.inRegion ops (List.range' i (m + 1)) :: k) s.sy := by
  intro a w ⟨E, hE⟩
  obtain ⟨ti, e, hti, hu⟩ := isSl_spec hte ht
  have hv := evalO_den hE (x := x) (sv := .d (.sl kk n xx row)) ((evalL_eq _ _).symm.trans hx)
  simp only [DenV, RdV] at hv
  obtain ⟨ad, c, hv, h1, h2, h3, h4⟩ := hv
  obtain ⟨g1, g2, g3⟩ := run_slNil (P := P) hti hu (w := w) ad n c
  have hr : gives P o a.eval w fun u w' => u = .bool (ad.isNone == q) ∧ w' = w := by
    unfold gives execOp
    have he : a.eval (.const (.slice none 0 0)) = .slice none 0 0 := rfl
    simp only [hop]
    rw [hv, he]
    rcases hq with ⟨rfl, rfl⟩ | ⟨rfl, rfl⟩
    · simp [g1, g2, Sem.run_bind]
    · simp [g1, g3, Sem.run_bind]
  obtain ⟨u, w', ⟨rfl, rfl⟩, hs⟩ := gives_step (b := b) (cs := cs) (k := k) (rest := List.range' (i + 1) m) ho (by unfold Region.wanted; rw [hg]) (by rw [hop]; intro c hc; cases hc) hr
  have h5 := hE.putSl (d := d) (by simpa using hdN) (sv := .d (.v (.bool (ad.isNone == q)))) (u := .bool (ad.isNone == q)) (by simp only [DenV, RdV])
  obtain ⟨m', hm, hst⟩ := h ad.isNone (fun hn => by
    rcases h4 with h4 | ⟨b', off, h4, _⟩
    · exact h4
    · rw [h4] at hn; cases hn) _ _ ⟨E, h5⟩
  rw [← hd] at hst
  exact ⟨m', hm, hs.trans hst⟩
end Go.Kin
