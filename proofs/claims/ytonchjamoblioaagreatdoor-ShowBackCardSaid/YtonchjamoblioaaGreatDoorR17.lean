/- A law of the seat: for every input it answers true, its arguments read as before; the listed variables hold what the program lays there. -/
import Derived.Test.YtonchjamoblioaaGreatDoorQT1
import Derived.Test.YtonchjamoblioaaGreatDoorZRowY
import Derived.SevenTiedAt
set_option linter.unusedSimpArgs false
set_option linter.unusedVariables false
set_option linter.unusedSectionVars false
namespace Go.Proofs.YtonchjamoblioaaGreatDoor
open Go.Kin
set_option maxRecDepth 100000
theorem showBack_lifted (os : Os) (started : os.Started) (H : Type) (enc : TypeId × Value → H) :
  ReturnsInHanded {} Tryz.checked os 9 .any (fun w args => (Rows.showBackSpec.pre enc Tryz.prog Tryz.f9 [] false w args ∧ laidMetH Tryz.prog laidX w) ∧ sizedMet enc Tryz.prog Tryz.f9 (OpenSpec.ofChange Rows.showBackSpec) false w args) (Rows.showBackSpec.post enc Tryz.prog Tryz.f9 false true false false) :=
 law_rowL (C := Tryz.checked) (P := Tryz.prog) (tb := 4) (X := fun w _ => laidMetH Tryz.prog laidX w) (fun _ _ _ hh h => h.of_heap hh) (fun _ _ h => laidX_met h) tysX tysX_ok rfl te_ok own_ok laid_ok started (by kernel_rfl) Tryz.func9
  (ChangeSpec.witness_shaped (enc := enc) (C := Tryz.checked) (os := os) (X := fun w _ => laidMetH Tryz.prog laidX w) false (World.doorLaid Tryz.prog 200 os) #[.agg #[.slice none 0 0, .slice none 0 0, .slice none 0 0, .int .i64 0, .int .i64 0], .agg #[.slice none 0 0, .slice none 0 0, .slice none 0 0, .int .i64 0, .int .i64 0], .agg #[.int .i64 0, .string ⟨#[]⟩, .slice none 0 0], .agg #[.int .i64 0, .string ⟨#[]⟩, .slice none 0 0]] 8 rfl (World.shaped_of_RefB (by kernel_rfl) (by kernel_rfl)) (by kernel_rfl) (by kernel_rfl) (by kernel_rfl) (doorX os _))
  rfl rfl Tryz.underlying4 (fun ds h => by
   have h2 : ds.length = 4 := h.trans (by rw [Tryz.params9]; rfl)
   match ds, h2 with
   | [_, _, _, _], _ => exact ⟨rfl, rfl, rfl⟩) (by kernel_rfl) (fun xs h => by
   rw [Tryz.params9] at h
   obtain ⟨x0, r, rfl, h0, h⟩ := args_cons h
   obtain ⟨x1, r, rfl, h1, h⟩ := args_cons h
   obtain ⟨x2, r, rfl, h2, h⟩ := args_cons h
   obtain ⟨x3, r, rfl, h3, h⟩ := args_cons h
   obtain rfl := args_nil h
   obtain ⟨q, le0, hq⟩ := shp_qu h0
   obtain ⟨q2, le1, hq2⟩ := shp_qu h1
   obtain ⟨e, le2, he⟩ := shp_ex h2
   obtain ⟨e2, le3, he2⟩ := shp_ex h3
   exact (showBack_ok q q2 e e2 hq hq2 he he2).args ⟨le0, le1, le2, le3, trivial⟩)
theorem showBack_row : Rows.ShowBackSaid :=
 OpenClaim.holds_of_wide 9 Tryz.f9 rfl rfl rfl rfl rfl rfl rfl ⟨rfl, rfl, rfl, rfl, rfl⟩ rfl rfl rfl rfl rfl (by kernel_rfl) Tryz.func9 (by kernel_rfl)
  (of_decide_eq_true (by kernel_rfl)) (by unfold Func.isWrapper; rw [if_neg (by decide +kernel)]; exact ⟨rfl, rfl⟩)
  (fun os started H enc _ => showBack_lifted os started H enc)
theorem showBack_holds : Rows.ShowBackCardSaid :=
 Claim7.holds_tied_plain_at .later [] [.data, .data, .data, .sentinel, .sentinel, .listed, .data] true (true, "d4617b708af924dbe28a7e7d733efad0004589994295c5299cd7e2650f78b5d1") true
  showBack_row (fun _ h => by cases h) (by kernel_rfl) (fun _ h => by cases h) showBack_row_tie rfl ⟨rfl, rfl⟩ (by kernel_rfl) rfl
  (fun f fn hf hfn => by
   obtain rfl : f = 9 := Option.some.inj ((show Tryz.prog.funcNamed Rows.showBackRow.func = some 9 by kernel_rfl).symm.trans hf) |>.symm
   obtain rfl : fn = Tryz.f9 := (Option.some.inj (Tryz.func9.symm.trans hfn)).symm
   exact ⟨by kernel_rfl, fun j t ht => by
    rw [Tryz.params9] at ht
    have hm : t ∈ [26, 26, 30, 30] := by simpa using Array.mem_of_getElem? ht
    have hall : ([26, 26, 30, 30].all fun u => !Tryz.prog.wantsStandIn u) = true := by kernel_rfl
    exact (show Tryz.prog.wantsStandIn t = false by simpa using List.all_eq_true.1 hall t hm)⟩)
  (by kernel_rfl)
end Go.Proofs.YtonchjamoblioaaGreatDoor
