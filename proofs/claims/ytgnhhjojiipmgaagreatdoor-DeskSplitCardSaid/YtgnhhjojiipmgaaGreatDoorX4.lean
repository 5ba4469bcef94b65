/- A law of the seat: for every input it answers true, its arguments read as before; the listed variables hold what the program lays there. -/
import Derived.Test.YtgnhhjojiipmgaaGreatDoorW5
import Derived.Test.YtgnhhjojiipmgaaGreatDoorKRowL
import Derived.Test.YtgnhhjojiipmgaaGreatDoorXFb
import Derived.Test.YtgnhhjojiipmgaaGreatDoorXFc
import Derived.Test.YtgnhhjojiipmgaaGreatDoorXJ
import Derived.SevenTiedAt
set_option linter.unusedSimpArgs false
set_option linter.unusedVariables false
set_option linter.unusedSectionVars false
namespace Go.Proofs.YtgnhhjojiipmgaaGreatDoor
open Go.Kin
set_option maxRecDepth 100000
theorem deskSplit_lifted (os : Os) (started : os.Started) (H : Type) (enc : TypeId × Value → H) :
    ReturnsInHanded {} Tryz.checked os 4 .any (fun w args => (Rows.deskSplitSpec.pre enc Tryz.prog Tryz.f4 [] false w args ∧ laidMetH Tryz.prog laidX w) ∧ sizedMet enc Tryz.prog Tryz.f4 (OpenSpec.ofChange Rows.deskSplitSpec) false w args) (Rows.deskSplitSpec.post enc Tryz.prog Tryz.f4 false true false false) :=
  law_rowL (C := Tryz.checked) (P := Tryz.prog) (tb := 4) (X := fun w _ => laidMetH Tryz.prog laidX w) (fun _ _ _ hh h => h.of_heap hh) (fun _ _ h => laidX_met h) tysX tysX_ok rfl te_ok own_ok laid_ok started wfNoInit Tryz.func4
    (ChangeSpec.witness_shaped (enc := enc) (C := Tryz.checked) (os := os) (X := fun w _ => laidMetH Tryz.prog laidX w) false (World.laidAll Tryz.prog os laidX) #[.string ⟨#[]⟩, .string ⟨#[]⟩] 8 (World.laidAll_os _ _ _) (World.shaped_of_ZipB (wfZip os) (wfTail os)) (wfWide os) (wfPre enc os) (wfSized enc os) (doorX os _))
    rfl rfl Tryz.underlying4 (fun ds h => by
      have h2 : ds.length = 2 := h.trans (by rw [Tryz.params4]; rfl)
      match ds, h2 with
      | [_, _], _ => exact ⟨rfl, rfl, rfl⟩) wfOk (fun xs h => by
      rw [Tryz.params4] at h
      obtain ⟨x0, r, rfl, h0, h⟩ := args_cons h
      obtain ⟨x1, r, rfl, h1, h⟩ := args_cons h
      obtain rfl := args_nil h
      obtain ⟨s0, rfl, q0⟩ := shp_str h0
      obtain ⟨s1, rfl, q1⟩ := shp_str h1
      exact (deskSplit_ok _ _ q0 q1).args ⟨LeD.refl _, LeD.refl _, trivial⟩)
theorem deskSplit_row : Rows.DeskSplitSaid :=
  OpenClaim.holds_of_wide 4 Tryz.f4 rfl rfl rfl rfl rfl rfl rfl ⟨rfl, rfl, rfl, rfl, rfl⟩ rfl rfl rfl rfl rfl wfNamed Tryz.func4 wJoined
    wfInst wfWrap
    (fun os started H enc _ => deskSplit_lifted os started H enc)
theorem deskSplit_holds : Rows.DeskSplitCardSaid :=
  Claim7.holds_tied_plain_at .later [] [.data, .data, .data, .sentinel, .sentinel, .data, .listed, .pinned, .data] true (true, "91b372d0ce0aa283ce207167f4fc5b006fdb8f1e198232001308ae224c5d0a03") true
    deskSplit_row (fun _ h => by cases h) wfText (fun _ h => by cases h) wSplit_tie rfl ⟨rfl, rfl⟩ wfMain rfl
    (fun f fn hf hfn => by
      obtain rfl : f = 4 := Option.some.inj (wfNamed.symm.trans hf) |>.symm
      obtain rfl : fn = Tryz.f4 := (Option.some.inj (Tryz.func4.symm.trans hfn)).symm
      exact ⟨wfLooks, fun j t ht => by
        rw [Tryz.params4] at ht
        have hm : t ∈ [9, 9] := by simpa using Array.mem_of_getElem? ht
        exact (show Tryz.prog.wantsStandIn t = false by simpa using List.all_eq_true.1 wfStand t hm)⟩)
    wfGoes
end Go.Proofs.YtgnhhjojiipmgaaGreatDoor
