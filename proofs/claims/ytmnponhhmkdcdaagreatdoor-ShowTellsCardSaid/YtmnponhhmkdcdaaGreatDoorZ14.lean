/- Contracts of functions of the seat, walked. -/
import Derived.Test.YtmnponhhmkdcdaaGreatDoorZ13
namespace Go.Proofs.YtmnponhhmkdcdaaGreatDoor
open Go.Kin
set_option linter.unusedSimpArgs false
set_option linter.unusedVariables false
set_option maxRecDepth 100000
set_option maxHeartbeats 0
theorem row1 {a : List D} {x : Ex} (h1 : LeDs a (exC x)) : LeD (.sl 3 1 1 (lstR [a])) (exsD [x]) := LeD.rows fun i hi => by
  obtain rfl : i = 0 := by omega
  rw [kdR_at (by simp)]
  exact ⟨h1, exD_lf x⟩
theorem row2 {a c : List D} {x y : Ex} (h1 : LeDs a (exC x)) (h2 : LeDs c (exC y)) : LeD (.sl 3 2 2 (lstR [a, c])) (exsD [x, y]) := LeD.rows fun i hi => by
  rcases (show i = 0 ∨ i = 1 by omega) with rfl | rfl
  · rw [kdR_at (by simp)]; exact ⟨h1, exD_lf x⟩
  · rw [kdR_at (by simp)]; exact ⟨h2, exD_lf y⟩
theorem lab_le (s : List UInt8) : LeDs [iv 1, sv s, .v (.slice none 0 0)] (exC (.mk 1 s [])) := ⟨LeD.refl _, LeD.refl _, by rw [kd_eq]; exact LeD.nil 3 _, trivial⟩
theorem node_le {k : Int} {l : List Ex} {d : D} (h : LeD d (exsD l)) : LeDs [iv k, sv [], d] (exC (.mk k [] l)) := ⟨LeD.refl _, LeD.refl _, by rw [kd_eq]; exact h, trivial⟩
def awE : Ex := .mk 2 [] [.mk 4 [] [.mk 3 [] [.mk 1 [120] [], .mk 1 [121] []]], .mk 1 [122] []]
theorem awE_fit : FitX awE := by
  have l : ∀ s : List UInt8, s.length ≤ 10 → FitX (.mk 1 s []) := fun s h => .mk (by show s.length ≤ _; omega) (by simp [Ex.kids]) (by simp [Ex.kids])
  refine .mk (by simp [awE, Ex.s]) (by simp [awE, Ex.kids]) fun y hy => ?_
  simp [awE, Ex.kids] at hy
  rcases hy with rfl | rfl
  · refine .mk (by simp [Ex.s]) (by simp [Ex.kids]) fun y hy => ?_
    simp [Ex.kids] at hy; subst hy
    refine .mk (by simp [Ex.s]) (by simp [Ex.kids]) fun y hy => ?_
    simp [Ex.kids] at hy
    rcases hy with rfl | rfl <;> exact l _ (by simp)
  · exact l _ (by simp)
theorem awE_S : exS awE = [40, 120, 124, 121, 41, 42, 46, 122] := by decide
theorem awE_E : exE awE = 0 := by decide
theorem awE_ok : FnOK Laid Tryz.prog 18 [.ag [iv 2, sv [], .sl 3 2 2 (lstR [[iv 4, sv [], .sl 3 1 1 (lstR [[iv 3, sv [], .sl 3 2 2 (lstR [[iv 1, sv [120], .v (.slice none 0 0)], [iv 1, sv [121], .v (.slice none 0 0)]])]])], [iv 1, sv [122], .v (.slice none 0 0)]])]] (.tup [sv [40, 120, 124, 121, 41, 42, 46, 122], iv 0]) := by
  have h := xexpr_ok awE awE_fit
  rw [awE_S, awE_E] at h
  exact FnOK.args h ⟨LeD.ag (node_le (row2 (node_le (row1 (node_le (row2 (lab_le _) (lab_le _))))) (lab_le _))), trivial⟩
def gq : Qu := ⟨[⟨[97], [98], false, [120], [101], zEx⟩], [⟨3, ⟨2, [101], [107], 0, 0, []⟩, ⟨3, [], [], 1, 5, []⟩⟩], [⟨1, [97], [], 0, 0, []⟩], 5, 1⟩
theorem itoa1 : Lib.itoa 1 = [49] := by
  have : Lib.decDigits 1 = [49] := by rw [Lib.decDigits, dif_pos (by omega)]; rfl
  unfold Lib.itoa; rw [if_neg (by decide)]; exact this
theorem itoa5 : Lib.itoa 5 = [53] := by
  have : Lib.decDigits 5 = [53] := by rw [Lib.decDigits, dif_pos (by omega)]; rfl
  unfold Lib.itoa; rw [if_neg (by decide)]; exact this
theorem gq_R : quR gq = true := by
  have e1 : ptR ⟨[97], [98], false, [120], [101], zEx⟩ = true := by
    unfold ptR
    rw [show freeB [97] = true from by decide, show freeB [98] = true from by decide, show freeB [120] = true from by decide, show freeB [101] = true from by decide]
    simp
  have e2 : cdR ⟨3, ⟨2, [101], [107], 0, 0, []⟩, ⟨3, [], [], 1, 5, []⟩⟩ = true := by decide
  have e3 : opR ⟨1, [97], [], 0, 0, []⟩ = true := by decide
  unfold quR gq
  simp [e1, e2, e3]
theorem gq_fit : FitQ gq := by
  refine ⟨by simp [gq], by simp [gq], by simp [gq], fun p hp => ?_, fun c hc => ?_, fun o ho => ?_⟩
  · simp [gq] at hp; subst hp
    exact ⟨by simp, by simp, by simp, by simp, .mk (by simp [Ex.s]) (by simp [Ex.kids]) (by simp [Ex.kids]), by simp [Ex.size_eq, Ex.kids, Ex.sizes]⟩
  · simp [gq] at hc; subst hc
    exact ⟨⟨by simp, by simp, by simp⟩, ⟨by simp, by simp, by simp⟩⟩
  · simp [gq] at ho; subst ho
    exact ⟨by simp, by simp, by simp⟩
theorem gq_T : quT gq = [109, 97, 116, 99, 104, 32, 40, 97, 41, 45, 91, 120, 32, 97, 115, 32, 101, 93, 45, 62, 40, 98, 41, 32, 119, 104, 101, 114, 101, 32, 101, 46, 107, 32, 60, 32, 53, 32, 114, 101, 116, 117, 114, 110, 32, 97, 32, 114, 97, 110, 103, 101, 32, 53, 32, 115, 108, 105, 100, 101, 32, 49] := by
  have e1 : showT ⟨1, 5, []⟩ = [53] := by
    have : Vl.right ⟨1, 5, []⟩ = true := by decide
    unfold showT; rw [if_pos this]; unfold Vl.shown shownV; rw [if_neg (by decide)]; exact itoa5
  have e2 : opT ⟨3, [], [], 1, 5, []⟩ = [53] := by unfold opT; rw [if_neg (by decide), if_neg (by decide)]; exact e1
  have e3 : cdT ⟨3, ⟨2, [101], [107], 0, 0, []⟩, ⟨3, [], [], 1, 5, []⟩⟩ = [101, 46, 107, 32, 60, 32, 53] := by unfold cdT; rw [e2]; decide
  unfold quT txR txC txP gq
  simp only [List.map_cons, List.map_nil, e3, itoa1, itoa5]
  decide
theorem gq_S : quS gq = [109, 97, 116, 99, 104, 32, 40, 97, 41, 45, 91, 120, 32, 97, 115, 32, 101, 93, 45, 62, 40, 98, 41, 32, 119, 104, 101, 114, 101, 32, 101, 46, 107, 32, 60, 32, 53, 32, 114, 101, 116, 117, 114, 110, 32, 97, 32, 114, 97, 110, 103, 101, 32, 53, 32, 115, 108, 105, 100, 101, 32, 49] := by
  unfold quS; rw [if_pos gq_R, gq_T, if_neg (by decide)]
theorem gq_E : quE gq = 0 := by
  unfold quE; rw [if_pos gq_R, gq_T, if_neg (by decide)]
theorem gq_ok : FnOK Laid Tryz.prog 16 [.ag [.sl 8 1 1 (lstR [[sv [97], sv [98], bv false, sv [120], sv [101], iv 0, sv [], .v (.slice none 0 0)]]), .sl 13 1 1 (lstR [[iv 3, iv 2, sv [101], sv [107], iv 0, iv 0, sv [], iv 3, sv [], sv [], iv 1, iv 5, sv []]]), .sl 6 1 1 (lstR [[iv 1, sv [97], sv [], iv 0, iv 0, sv []]]), iv 5, iv 1]] (.tup [sv [109, 97, 116, 99, 104, 32, 40, 97, 41, 45, 91, 120, 32, 97, 115, 32, 101, 93, 45, 62, 40, 98, 41, 32, 119, 104, 101, 114, 101, 32, 101, 46, 107, 32, 60, 32, 53, 32, 114, 101, 116, 117, 114, 110, 32, 97, 32, 114, 97, 110, 103, 101, 32, 53, 32, 115, 108, 105, 100, 101, 32, 49], iv 0]) := by
  have h := xquery_ok gq gq_fit
  rw [gq_S, gq_E] at h
  refine FnOK.args h ⟨LeD.ag ⟨LeD.rows fun i hi => ?_, LeD.slice (Nat.le_refl _) (Nat.le_refl _) fun i hi => ?_, LeD.slice (Nat.le_refl _) (Nat.le_refl _) fun i hi => ?_, LeD.refl _, LeD.refl _, trivial⟩, trivial⟩
  · obtain rfl : i = 0 := by simp [gq] at hi; omega
    exact ⟨⟨LeD.refl _, LeD.refl _, LeD.refl _, LeD.refl _, LeD.refl _, LeD.refl _, LeD.refl _, (by show LeD _ (kdX zEx); rw [kd_eq]; exact LeD.nil 3 _), trivial⟩, ptC_lf _⟩
  · obtain rfl : i = 0 := by simp [gq] at hi; omega
    rfl
  · obtain rfl : i = 0 := by simp [gq] at hi; omega
    rfl

theorem awake_ok  : FnOK Laid Tryz.prog 13 [] (bv true) := by
  refine FnOK_of laid_stable Tryz.func13 Tryz.ntmps13 rfl (by as_aux_lemma => kernel_rfl) (Nat.le_of_ble_eq_true rfl) (fun R hR => ?_)
  obtain ⟨_, b, cs, T, C⟩ := R
  obtain rfl : _ = Tryz.prog := hR.p
  refine Exec.seq ?_
  apply Exec.regionL te_ok
  · intro ops' Q hQ
    simp only [go_sem]
    repeat (refine And.intro (by first | assumption | omega | (simp; done) | (simp; omega) | (intros; omega) | (simp_all; done) | (simp_all; omega)) ?_)
    exact hQ
  refine Exec.seq ?_
  apply Exec.regionL te_ok
  · intro ops' Q hQ
    simp only [go_sem]
    repeat (refine And.intro (by first | assumption | omega | (simp; done) | (simp; omega) | (intros; omega) | (simp_all; done) | (simp_all; omega)) ?_)
    refine kcall hR.inv te_ok rfl rfl rfl rfl rfl rfl (label_ok _) ?_
    simp only [go_sem]
    repeat (refine And.intro (by first | assumption | omega | (simp; done) | (simp; omega) | (intros; omega) | (simp_all; done) | (simp_all; omega)) ?_)
    refine kcall hR.inv te_ok rfl rfl rfl rfl rfl rfl (label_ok _) ?_
    simp only [go_sem]
    repeat (refine And.intro (by first | assumption | omega | (simp; done) | (simp; omega) | (intros; omega) | (simp_all; done) | (simp_all; omega)) ?_)
    refine kfreeze 8 rfl (by simp only [go_sem]; rfl) ?_
    refine kcall hR.inv te_ok rfl rfl rfl rfl rfl rfl (of_ok _ _ _) ?_
    simp only [go_sem]
    repeat (refine And.intro (by first | assumption | omega | (simp; done) | (simp; omega) | (intros; omega) | (simp_all; done) | (simp_all; omega)) ?_)
    refine kfreeze 10 rfl (by simp only [go_sem]; rfl) ?_
    refine kcall hR.inv te_ok rfl rfl rfl rfl rfl rfl (of_ok _ _ _) ?_
    simp only [go_sem]
    repeat (refine And.intro (by first | assumption | omega | (simp; done) | (simp; omega) | (intros; omega) | (simp_all; done) | (simp_all; omega)) ?_)
    refine kcall hR.inv te_ok rfl rfl rfl rfl rfl rfl (label_ok _) ?_
    simp only [go_sem]
    repeat (refine And.intro (by first | assumption | omega | (simp; done) | (simp; omega) | (intros; omega) | (simp_all; done) | (simp_all; omega)) ?_)
    refine kfreeze 13 rfl (by simp only [go_sem]; rfl) ?_
    refine kcall hR.inv te_ok rfl rfl rfl rfl rfl rfl (of_ok _ _ _) ?_
    simp only [go_sem]
    repeat (refine And.intro (by first | assumption | omega | (simp; done) | (simp; omega) | (intros; omega) | (simp_all; done) | (simp_all; omega)) ?_)
    refine kcall hR.inv te_ok rfl rfl rfl rfl rfl rfl (awE_ok) ?_
    simp only [go_sem]
    repeat (refine And.intro (by first | assumption | omega | (simp; done) | (simp; omega) | (intros; omega) | (simp_all; done) | (simp_all; omega)) ?_)
    exact hQ
  refine Exec.seq ?_
  apply Exec.regionL te_ok
  · intro ops' Q hQ
    simp only [go_sem]
    repeat (refine And.intro (by first | assumption | omega | (simp; done) | (simp; omega) | (intros; omega) | (simp_all; done) | (simp_all; omega)) ?_)
    refine kcall hR.inv te_ok rfl rfl rfl rfl rfl rfl (good_ok) ?_
    simp only [go_sem]
    repeat (refine And.intro (by first | assumption | omega | (simp; done) | (simp; omega) | (intros; omega) | (simp_all; done) | (simp_all; omega)) ?_)
    refine kcall hR.inv te_ok rfl rfl rfl rfl rfl rfl (gq_ok) ?_
    simp only [go_sem]
    repeat (refine And.intro (by first | assumption | omega | (simp; done) | (simp; omega) | (intros; omega) | (simp_all; done) | (simp_all; omega)) ?_)
    exact hQ
  refine Exec.seq ?_
  apply Exec.regionL te_ok
  · intro ops' Q hQ
    simp only [go_sem]
    repeat (refine And.intro (by first | assumption | omega | (simp; done) | (simp; omega) | (intros; omega) | (simp_all; done) | (simp_all; omega)) ?_)
    exact hQ
  refine Exec.rets hR te_ok rfl rfl rfl (LeX.le ?_) (.inr ⟨_, rfl⟩)
  simp only [go_sem]
end Go.Proofs.YtmnponhhmkdcdaaGreatDoor
