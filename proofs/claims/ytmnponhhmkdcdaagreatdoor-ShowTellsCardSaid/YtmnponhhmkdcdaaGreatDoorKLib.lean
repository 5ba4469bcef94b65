/- Contracts of the library, as contracts of data. -/
import Derived.Test.YtmnponhhmkdcdaaGreatDoorKRow
namespace Go.Kin
open Go.RowKit
theorem var_below {P : Program} {w w' : World} {n : String} {cs : Array Value} (hv : w.var? P n = some cs) (hb : RowKit.Below w.heap.size w w') : w'.var? P n = some cs := by
  unfold World.var? at *
  cases hg : P.globalNamed n with
  | none => rw [hg] at hv; cases hv
  | some g =>
    rw [hg] at hv
    simp only [Option.bind_some] at hv ⊢
    by_cases hlt : g < w.heap.size
    · rw [hb.block g hlt]; exact hv
    · rw [Array.getElem?_eq_none (by omega)] at hv; cases hv
theorem rd_one {w : World} {Z : Nat → Prop} {x : Value} {vs : List Value} (h : RdL w Z [.v x] vs) : vs = [x] := by
  simp only [RdL, RdV] at h
  obtain ⟨v, r, rfl, rfl, rfl⟩ := h; rfl
theorem rd_two {w : World} {Z : Nat → Prop} {x y : Value} {vs : List Value} (h : RdL w Z [.v x, .v y] vs) : vs = [x, y] := by
  simp only [RdL, RdV] at h
  obtain ⟨v, r, rfl, rfl, v', r', rfl, rfl, rfl⟩ := h; rfl
/-- a library's function of plain values that leaves the world alone, or makes new memory -/
theorem FnOK.lib {I : World → Prop} {P : Program} {f : FuncId} {args : List D} {x : Value} (he : Kin.Enters P f)
    (h : ∀ w Z vs, I w → RdL w Z args vs → Calls P f vs.toArray w fun e w' => e = .returned x ∧ RowKit.Below w.heap.size w w') : FnOK I P f args (.v x) := by
  refine ⟨he, fun w Z vs hI hZ hr => (h w Z vs hI hr).mono ?_⟩
  rintro e w' ⟨rfl, hb⟩
  exact ⟨x, Z, rfl, hb, fun b hz => ⟨Nat.lt_of_lt_of_le (hZ b hz) hb.size, .inl hz⟩, by simp only [RdV]⟩
theorem FnOK.weak {I I' : World → Prop} {P : Program} {f : FuncId} {args : List D} {x : D} (h : FnOK I P f args x) (hi : ∀ w, I' w → I w) : FnOK I' P f args x :=
  ⟨h.1, fun w Z vs hI => h.2 w Z vs (hi w hI)⟩
theorem mkS_size (s : List UInt8) : (mkS s).size = s.length := by rw [size_bytes]; simp
theorem wrap_id {n : Int} (h : -9223372036854775808 ≤ n ∧ n ≤ 9223372036854775807) : IntKind.i64.wrap n = n := by
  simp [IntKind.wrap, IntKind.signed, IntKind.bits]; omega
theorem bytes_lit (l : List UInt8) : Kin.bytes ⟨l.toArray⟩ = l := by simp [Kin.bytes]
end Go.Kin
