/- Contracts of functions of the seat, walked. -/
import Derived.Test.YtlcpglkbllhokaaM0
import Derived.Test.YtlcpglkbllhokaaChecked
namespace Go.Proofs.Ytlcpglkbllhokaa
open Go.Kin

theorem own_ok : ownKnob Try.prog.godebug = none := by kernel_rfl
theorem laid_ok : laidOutB Try.prog = true := by kernel_rfl
def tys : List TypeId := [3, 4, 22, 30, 33]
theorem tys_ok : okAll te tys = true := by kernel_rfl

theorem shp1_int {m : Nat} {ds : List D} (h : Shp te m 3 ds) : ∃ n, ds = [iv n] ∧ I64 n := by
  cases m with
  | zero => exact h.elim
  | succ m =>
    simp only [Shp, te_3] at h
    obtain ⟨n, rfl, h⟩ := h
    exact ⟨n, rfl, h⟩
theorem shp1_bool {m : Nat} {ds : List D} (h : Shp te m 4 ds) : ∃ b, ds = [.v (.bool b)] := by
  cases m with
  | zero => exact h.elim
  | succ m => simpa only [Shp, te_4] using h
theorem shp_int {x : D} (h : ArgShp te 3 x) : ∃ n, x = iv n ∧ I64 n := by
  obtain ⟨m, ds, h1, h2⟩ := h
  obtain ⟨n, rfl, h3⟩ := shp1_int h1
  simp [aggT, te_3, aggD] at h2
  exact ⟨n, h2.symm, h3⟩
theorem shp_slice {t e : Nat} {i j : TyI} {x : D} (hi : klook t te = some i) (hu : i.u = .slice e) (hj : klook e te = some j) {α : Type} [Inhabited α] {f : α → List D} {p : α → Prop} (hf : ∀ m ds, Shp te m e ds → ∃ a, ds = f a ∧ p a) (h : ArgShp te t x) :
    ∃ l : List α, LeX x (.sl j.size l.length l.length fun i => f (nth l i)) ∧ (∀ a ∈ l, p a) ∧ l.length ≤ topLen ∧ l.length * j.bytes ≤ reachBytes := by
  obtain ⟨m, ds, h1, h2⟩ := h
  simp [aggT, hi, hu, aggD] at h2
  subst h2
  cases m with
  | zero => exact h1.elim
  | succ m =>
    simp only [Shp, hi, hu, hj] at h1
    obtain ⟨n, row, h3, h4, h5, h6⟩ := h1
    cases h3
    obtain ⟨l, rfl, h7, h8⟩ := rows_list (fun i hi => hf m (row i) (h6 i hi))
    refine ⟨l, ?_, h8, h4, h5⟩
    unfold LeX
    exact ⟨rfl, .inl rfl, .inl ⟨rfl, h7⟩⟩
theorem shp1_deed {m : Nat} {ds : List D} (h : Shp te m 30 ds) : ∃ x : Bool × Int, ds = [.v (.bool x.1), iv x.2] ∧ I64 x.2 := by
  cases m with
  | zero => exact h.elim
  | succ m =>
    simp only [Shp, te_30, ShpFs] at h
    obtain ⟨d1, d2, rfl, h1, d3, d4, rfl, h2, rfl⟩ := h
    obtain ⟨b, rfl⟩ := shp1_bool h1
    obtain ⟨n, rfl, hn⟩ := shp1_int h2
    exact ⟨(b, n), rfl, hn⟩
end Go.Proofs.Ytlcpglkbllhokaa
