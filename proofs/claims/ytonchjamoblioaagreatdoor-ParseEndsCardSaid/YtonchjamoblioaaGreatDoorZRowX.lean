/- Steps of a function body on data, and contracts of the functions of the seat, walked. -/
import Derived.Test.YtonchjamoblioaaGreatDoorPT0
import Derived.Test.YtonchjamoblioaaGreatDoorVDef
import Derived.Stop.Joined
import Derived.Test.YtonchjamoblioaaGreatDoorTie
import Derived.Test.YtonchjamoblioaaGreatDoorCards
import Derived.Test.YtonchjamoblioaaGreatDoorChecked
import Derived.ProofKit
import Derived.LaidMore
import Derived.OpenShut
import Derived.Stop.LaidErr
import Derived.Lib.LaidTab
set_option linter.unusedSimpArgs false
set_option linter.unusedVariables false
namespace Go.Proofs.YtonchjamoblioaaGreatDoor
open Go.Kin
set_option maxRecDepth 100000
set_option maxHeartbeats 0
theorem dg5 : Lib.decDigits 5 = [53] := by rw [Lib.decDigits, dif_pos (by omega)]; rfl
theorem parse_d5 : parseV [53] = ⟨1, 5, []⟩ ∧ parseE [53] = 0 := by
 have hb : parseB [53] = true := by
  have e : parseT [53] = ⟨1, 5, []⟩ := by decide
  have : Lib.itoa 5 = [53] := by unfold Lib.itoa; rw [if_neg (by decide), show (5 : Int).toNat = 5 from rfl, dg5]
  unfold parseB; rw [e]; unfold Vl.right Vl.shown shownV; simp [this, rightV]
 have e : parseT [53] = ⟨1, 5, []⟩ := by decide
 unfold parseV parseE; rw [hb, e]; exact ⟨rfl, rfl⟩
theorem dg1 : Lib.decDigits 1 = [49] := by rw [Lib.decDigits, dif_pos (by omega)]; rfl
theorem parse_d1 : parseV [49] = ⟨1, 1, []⟩ ∧ parseE [49] = 0 := by
 have hb : parseB [49] = true := by
  have e : parseT [49] = ⟨1, 1, []⟩ := by decide
  have : Lib.itoa 1 = [49] := by unfold Lib.itoa; rw [if_neg (by decide), show (1 : Int).toNat = 1 from rfl, dg1]
  unfold parseB; rw [e]; unfold Vl.right Vl.shown shownV; simp [this, rightV]
 have e : parseT [49] = ⟨1, 1, []⟩ := by decide
 unfold parseV parseE; rw [hb, e]; exact ⟨rfl, rfl⟩
def awA : List UInt8 := [109, 97, 116, 99, 104, 32, 40, 97, 41, 45, 91, 120, 93, 45, 62, 40, 98, 41, 32, 114, 101, 116, 117, 114, 110, 32, 97, 32, 114, 97, 110, 103, 101, 32, 53, 32, 115, 108, 105, 100, 101, 32, 49]
def awAT : List Tk := [⟨1, [109, 97, 116, 99, 104], 0, v0⟩, ⟨4, [40], 6, v0⟩, ⟨1, [97], 7, v0⟩, ⟨4, [41], 8, v0⟩, ⟨4, [45, 91], 9, v0⟩, ⟨1, [120], 11, v0⟩, ⟨4, [93, 45, 62], 12, v0⟩, ⟨4, [40], 15, v0⟩, ⟨1, [98], 16, v0⟩, ⟨4, [41], 17, v0⟩, ⟨1, [114, 101, 116, 117, 114, 110], 19, v0⟩, ⟨1, [97], 26, v0⟩, ⟨1, [114, 97, 110, 103, 101], 28, v0⟩, ⟨2, [53], 34, ⟨1, 5, []⟩⟩, ⟨1, [115, 108, 105, 100, 101], 36, v0⟩, ⟨2, [49], 42, ⟨1, 1, []⟩⟩, ⟨5, [], 43, v0⟩]
theorem awA_all : lexAll awA = (awAT, none) := by
 have s0 := lexAt_on (s := awA) (a := 0) (by decide +kernel) (by decide +kernel) (by decide +kernel)
 have n0 : thenA awA 0 = 5 := by decide +kernel
 have s1 := lexAt_on (s := awA) (a := 5) (by decide +kernel) (by decide +kernel) (by decide +kernel)
 have n1 : thenA awA 5 = 7 := by decide +kernel
 have s2 := lexAt_on (s := awA) (a := 7) (by decide +kernel) (by decide +kernel) (by decide +kernel)
 have n2 : thenA awA 7 = 8 := by decide +kernel
 have s3 := lexAt_on (s := awA) (a := 8) (by decide +kernel) (by decide +kernel) (by decide +kernel)
 have n3 : thenA awA 8 = 9 := by decide +kernel
 have s4 := lexAt_on (s := awA) (a := 9) (by decide +kernel) (by decide +kernel) (by decide +kernel)
 have n4 : thenA awA 9 = 11 := by decide +kernel
 have s5 := lexAt_on (s := awA) (a := 11) (by decide +kernel) (by decide +kernel) (by decide +kernel)
 have n5 : thenA awA 11 = 12 := by decide +kernel
 have s6 := lexAt_on (s := awA) (a := 12) (by decide +kernel) (by decide +kernel) (by decide +kernel)
 have n6 : thenA awA 12 = 15 := by decide +kernel
 have s7 := lexAt_on (s := awA) (a := 15) (by decide +kernel) (by decide +kernel) (by decide +kernel)
 have n7 : thenA awA 15 = 16 := by decide +kernel
 have s8 := lexAt_on (s := awA) (a := 16) (by decide +kernel) (by decide +kernel) (by decide +kernel)
 have n8 : thenA awA 16 = 17 := by decide +kernel
 have s9 := lexAt_on (s := awA) (a := 17) (by decide +kernel) (by decide +kernel) (by decide +kernel)
 have n9 : thenA awA 17 = 18 := by decide +kernel
 have s10 := lexAt_on (s := awA) (a := 18) (by decide +kernel) (by decide +kernel) (by decide +kernel)
 have n10 : thenA awA 18 = 25 := by decide +kernel
 have s11 := lexAt_on (s := awA) (a := 25) (by decide +kernel) (by decide +kernel) (by decide +kernel)
 have n11 : thenA awA 25 = 27 := by decide +kernel
 have s12 := lexAt_on (s := awA) (a := 27) (by decide +kernel) (by decide +kernel) (by decide +kernel)
 have n12 : thenA awA 27 = 33 := by decide +kernel
 have s13 := lexAt_on (s := awA) (a := 33) (by decide +kernel) (by show (parseE [53] == 0) = true; rw [parse_d5.2]; rfl) (by decide +kernel)
 have n13 : thenA awA 33 = 35 := by decide +kernel
 have s14 := lexAt_on (s := awA) (a := 35) (by decide +kernel) (by decide +kernel) (by decide +kernel)
 have n14 : thenA awA 35 = 41 := by decide +kernel
 have s15 := lexAt_on (s := awA) (a := 41) (by decide +kernel) (by show (parseE [49] == 0) = true; rw [parse_d1.2]; rfl) (by decide +kernel)
 have n15 : thenA awA 41 = 43 := by decide +kernel
 have s16 := lexAt_end (s := awA) (a := 43) (by decide +kernel) (by decide +kernel) (by decide +kernel)
 have t13 : tokA awA 33 = ⟨2, [53], 34, ⟨1, 5, []⟩⟩ := by show (⟨2, [53], 34, parseV [53]⟩ : Tk) = _; rw [parse_d5.1]
 have t15 : tokA awA 41 = ⟨2, [49], 42, ⟨1, 1, []⟩⟩ := by show (⟨2, [49], 42, parseV [49]⟩ : Tk) = _; rw [parse_d1.1]
 unfold lexAll
 rw [s0, n0, s1, n1, s2, n2, s3, n3, s4, n4, s5, n5, s6, n6, s7, n7, s8, n8, s9, n9, s10, n10, s11, n11, s12, n12, s13, n13, s14, n14, s15, n15, s16, t13, t15]
 rfl
def awB : List UInt8 := [109, 97, 116, 99, 104, 32, 40, 97, 41, 45, 91, 120, 93, 45, 40, 98, 41]
theorem awB_all : (lexAll awB).2 = some 13 := by
 have s0 := lexAt_on (s := awB) (a := 0) (by decide +kernel) (by decide +kernel) (by decide +kernel)
 have n0 : thenA awB 0 = 5 := by decide +kernel
 have s1 := lexAt_on (s := awB) (a := 5) (by decide +kernel) (by decide +kernel) (by decide +kernel)
 have n1 : thenA awB 5 = 7 := by decide +kernel
 have s2 := lexAt_on (s := awB) (a := 7) (by decide +kernel) (by decide +kernel) (by decide +kernel)
 have n2 : thenA awB 7 = 8 := by decide +kernel
 have s3 := lexAt_on (s := awB) (a := 8) (by decide +kernel) (by decide +kernel) (by decide +kernel)
 have n3 : thenA awB 8 = 9 := by decide +kernel
 have s4 := lexAt_on (s := awB) (a := 9) (by decide +kernel) (by decide +kernel) (by decide +kernel)
 have n4 : thenA awB 9 = 11 := by decide +kernel
 have s5 := lexAt_on (s := awB) (a := 11) (by decide +kernel) (by decide +kernel) (by decide +kernel)
 have n5 : thenA awB 11 = 12 := by decide +kernel
 have s6 := lexAt_on (s := awB) (a := 12) (by decide +kernel) (by decide +kernel) (by decide +kernel)
 have n6 : thenA awB 12 = 13 := by decide +kernel
 have s7 := lexAt_no (s := awB) (a := 13) (by decide +kernel) (by decide +kernel)
 have r0 : (lexAt awB 0).2 = (lexAt awB 5).2 := by rw [s0, n0]
 have r1 : (lexAt awB 5).2 = (lexAt awB 7).2 := by rw [s1, n1]
 have r2 : (lexAt awB 7).2 = (lexAt awB 8).2 := by rw [s2, n2]
 have r3 : (lexAt awB 8).2 = (lexAt awB 9).2 := by rw [s3, n3]
 have r4 : (lexAt awB 9).2 = (lexAt awB 11).2 := by rw [s4, n4]
 have r5 : (lexAt awB 11).2 = (lexAt awB 12).2 := by rw [s5, n5]
 have r6 : (lexAt awB 12).2 = (lexAt awB 13).2 := by rw [s6, n6]
 show (lexAt awB 0).2 = _
 rw [r0, r1, r2, r3, r4, r5, r6, s7]
 decide +kernel
def awX : List UInt8 := [40, 120, 124, 121, 41, 42, 46, 122]
def awXT : List Tk := [⟨4, [40], 0, v0⟩, ⟨1, [120], 1, v0⟩, ⟨4, [124], 2, v0⟩, ⟨1, [121], 3, v0⟩, ⟨4, [41], 4, v0⟩, ⟨4, [42], 5, v0⟩, ⟨4, [46], 6, v0⟩, ⟨1, [122], 7, v0⟩, ⟨5, [], 8, v0⟩]
theorem awX_all : lexAll awX = (awXT, none) := by
 have s0 := lexAt_on (s := awX) (a := 0) (by decide +kernel) (by decide +kernel) (by decide +kernel)
 have n0 : thenA awX 0 = 1 := by decide +kernel
 have s1 := lexAt_on (s := awX) (a := 1) (by decide +kernel) (by decide +kernel) (by decide +kernel)
 have n1 : thenA awX 1 = 2 := by decide +kernel
 have s2 := lexAt_on (s := awX) (a := 2) (by decide +kernel) (by decide +kernel) (by decide +kernel)
 have n2 : thenA awX 2 = 3 := by decide +kernel
 have s3 := lexAt_on (s := awX) (a := 3) (by decide +kernel) (by decide +kernel) (by decide +kernel)
 have n3 : thenA awX 3 = 4 := by decide +kernel
 have s4 := lexAt_on (s := awX) (a := 4) (by decide +kernel) (by decide +kernel) (by decide +kernel)
 have n4 : thenA awX 4 = 5 := by decide +kernel
 have s5 := lexAt_on (s := awX) (a := 5) (by decide +kernel) (by decide +kernel) (by decide +kernel)
 have n5 : thenA awX 5 = 6 := by decide +kernel
 have s6 := lexAt_on (s := awX) (a := 6) (by decide +kernel) (by decide +kernel) (by decide +kernel)
 have n6 : thenA awX 6 = 7 := by decide +kernel
 have s7 := lexAt_on (s := awX) (a := 7) (by decide +kernel) (by decide +kernel) (by decide +kernel)
 have n7 : thenA awX 7 = 8 := by decide +kernel
 have s8 := lexAt_end (s := awX) (a := 8) (by decide +kernel) (by decide +kernel) (by decide +kernel)
 unfold lexAll
 rw [s0, n0, s1, n1, s2, n2, s3, n3, s4, n4, s5, n5, s6, n6, s7, n7, s8]
 rfl
def awQ : Qu := ⟨[⟨[97], [98], false, [120], [], .mk 0 [] []⟩], [], [⟨1, [97], [], 0, 0, []⟩], 5, 1⟩
def awE : Ex := .mk 2 [] [.mk 4 [] [.mk 3 [] [.mk 1 [120] [], .mk 1 [121] []]], .mk 1 [122] []]
theorem kd_lst : ∀ l : List Ex, kdR l = lstR (l.map exC)
 | [] => by funext i; simp [kdR, lstR]
 | x :: r => by
  funext i
  cases i with
  | zero => cases x; simp [kdR, lstR, exC, Ex.k, Ex.s, kdX]
  | succ i => cases x; rw [kdR, kd_lst r]; simp [lstR]
theorem kd_mk (k : Int) (s : List UInt8) (l : List Ex) : kdX (.mk k s l) = .sl 3 l.length l.length (lstR (l.map exC)) := by rw [kd_eq, kd_lst]; rfl
theorem awA_ok : FnOK LaidX Tryz.prog 32 [sv awA] (.tup [quD awQ, iv 0, iv 0]) := by
 have h := pQuery_ok awA (by decide)
 obtain ⟨e1, e2, e3⟩ := lex_some (s := awA) (by decide) awA_all
 have hq : queryP awAT ⟨0, -1⟩ = .ok ⟨16, -1⟩ awQ := by kernel_rfl
 rw [readV_ok (s1 := ⟨16, -1⟩) (x := awQ) e3 (by rw [e1]; exact hq) (by rw [e1]; decide +kernel) (by decide)] at h
 exact h
theorem awB_ok : FnOK LaidX Tryz.prog 32 [sv awB] (.tup [quD qz, iv 13, iv 7]) := by
 have h := pQuery_ok awB (by decide)
 obtain ⟨e1, e2, e3⟩ := lex_none (s := awB) (by decide) awB_all
 rw [readV_no (by rw [e3]; decide), e2, e3] at h
 exact h
theorem awX_ok : FnOK LaidX Tryz.prog 34 [sv awX] (.tup [.ag [iv 2, sv [], .sl 3 2 2 (lstR [[iv 4, sv [], .sl 3 1 1 (lstR [[iv 3, sv [], .sl 3 2 2 (lstR [exC (.mk 1 [120] []), exC (.mk 1 [121] [])])]])], exC (.mk 1 [122] [])])], iv 0, iv 0]) := by
 have h := pExpr_ok awX (by decide)
 obtain ⟨e1, e2, e3⟩ := lex_some (s := awX) (by decide) awX_all
 have hq : wholeP awXT ⟨0, -1⟩ = .ok ⟨8, -1⟩ awE := by kernel_rfl
 rw [readV_ok (s1 := ⟨8, -1⟩) (x := awE) e3 (by rw [e1]; exact hq) (by rw [e1]; decide +kernel) (by decide)] at h
 have e : exD awE = .ag [iv 2, sv [], .sl 3 2 2 (lstR [[iv 4, sv [], .sl 3 1 1 (lstR [[iv 3, sv [], .sl 3 2 2 (lstR [exC (.mk 1 [120] []), exC (.mk 1 [121] [])])]])], exC (.mk 1 [122] [])])] := by
  unfold awE; simp only [exD, kd_mk, List.map, exC]; rfl
 rw [e] at h
 exact h
end Go.Proofs.YtonchjamoblioaaGreatDoor
namespace Go.Proofs.YtonchjamoblioaaGreatDoor
open Go.Kin
set_option maxRecDepth 100000
set_option maxHeartbeats 0
theorem lst_0 (a : List D) (l : List (List D)) : lstR (a :: l) 0 = a := rfl
attribute [go_sem] lst_0 awQ Qu.p Qu.c Qu.r Qu.range Qu.slide
theorem pawake_ok  : FnOK LaidX Tryz.prog 27 [] (bv true) := by
 refine FnOK_of laidX_stable Tryz.func27 Tryz.ntmps27 rfl (by as_aux_lemma => kernel_rfl) (Nat.le_of_ble_eq_true rfl) (fun R hR => ?_)
 obtain ⟨_, b, cs, T, C⟩ := R
 obtain rfl : _ = Tryz.prog := hR.p
 refine sreg te_ok ?_
 refine sq ?_
 apply Exec.regionL te_ok
 ·intro o Q hQ
  simp only [go_sem]
  repeat refine ob2 ?_
  refine kcall hR.inv te_ok rfl rfl rfl rfl rfl rfl (awA_ok) ?_
  simp only [go_sem]
  repeat refine ob2 ?_
  exact hQ
 refine sq ?_
 apply Exec.regionL te_ok
 ·intro o Q hQ
  simp only [go_sem]
  repeat refine ob2 ?_
  refine kcall hR.inv te_ok rfl rfl rfl rfl rfl rfl (awB_ok) ?_
  simp only [go_sem]
  repeat refine ob2 ?_
  exact hQ
 refine sq ?_
 apply Exec.regionL te_ok
 ·intro o Q hQ
  simp only [go_sem]
  repeat refine ob2 ?_
  refine kcall hR.inv te_ok rfl rfl rfl rfl rfl rfl (awX_ok) ?_
  simp only [go_sem]
  repeat refine ob2 ?_
  exact hQ
 refine sreg te_ok ?_
 refine Exec.rets hR te_ok rfl rfl rfl (LeX.le ?_) (.inr ⟨_, rfl⟩)
 simp only [go_sem]
 all_goals (try decide)
end Go.Proofs.YtonchjamoblioaaGreatDoor
namespace Go.Proofs.YtonchjamoblioaaGreatDoor
open Go.Kin
set_option maxRecDepth 100000
set_option maxHeartbeats 0
theorem ptells_ok (s : List UInt8) (hs : s.length ≤ 140737488351232) : FnOK LaidX Tryz.prog 26 [sv s] (bv true) := by
 refine FnOK_of laidX_stable Tryz.func26 Tryz.ntmps26 rfl (by as_aux_lemma => kernel_rfl) (Nat.le_of_ble_eq_true rfl) (fun R hR => ?_)
 obtain ⟨_, b, cs, T, C⟩ := R
 obtain rfl : _ = Tryz.prog := hR.p
 refine sreg te_ok ?_
 refine sq ?_
 apply Exec.regionL te_ok
 ·intro o Q hQ
  simp only [go_sem]
  repeat refine ob2 ?_
  refine kcall hR.inv te_ok rfl rfl rfl rfl rfl rfl (pQuery_ok s hs) ?_
  simp only [go_sem]
  repeat refine ob2 ?_
  exact hQ
 refine sq ?_
 apply Exec.regionL te_ok
 ·intro o Q hQ
  simp only [go_sem]
  repeat refine ob2 ?_
  refine kcall hR.inv te_ok rfl rfl rfl rfl rfl rfl (tQuery_ok s hs) ?_
  simp only [go_sem]
  repeat refine ob2 ?_
  exact hQ
 refine sq ?_
 apply Exec.regionL te_ok
 ·intro o Q hQ
  simp only [go_sem]
  repeat refine ob2 ?_
  refine kcall hR.inv te_ok rfl rfl rfl rfl rfl rfl (pExpr_ok s hs) ?_
  simp only [go_sem]
  repeat refine ob2 ?_
  exact hQ
 refine sq ?_
 apply Exec.regionL te_ok
 ·intro o Q hQ
  simp only [go_sem]
  repeat refine ob2 ?_
  refine kcall hR.inv te_ok rfl rfl rfl rfl rfl rfl (tExpr_ok s hs) ?_
  simp only [go_sem]
  repeat refine ob2 ?_
  exact hQ
 refine sq ?_
 apply Exec.regionL te_ok
 ·intro o Q hQ
  simp only [go_sem]
  repeat refine ob2 ?_
  refine kcallG hR.inv te_ok rfl rfl rfl rfl rfl rfl ob1 (fun hq => (sameQ_ok (readV qz queryP s).1 (readV qz queryP s).1 (readQ_small s).p (readQ_small s).c (readQ_small s).r (readQ_small s).e).weak laidX_laid) ?_
  simp only [go_sem]
  repeat refine ob2 ?_
  refine kcallG hR.inv te_ok rfl rfl rfl rfl rfl rfl ob1 (fun hq => (kSame_ok (readV xz wholeP s).1 (readV xz wholeP s).1 (readX_small s)).weak laidX_laid) ?_
  simp only [go_sem]
  repeat refine ob2 ?_
  exact hQ
 refine Exec.rets hR te_ok rfl rfl rfl (LeX.le ?_) (.inr ⟨_, rfl⟩)
 simp only [go_sem]
 all_goals (try simp)
end Go.Proofs.YtonchjamoblioaaGreatDoor
namespace Go.Proofs.YtonchjamoblioaaGreatDoor
open Go.Kin
set_option maxRecDepth 100000
set_option maxHeartbeats 0
def wordsW : List (List UInt8) := [[109, 97, 116, 99, 104], [40], [97], [41], [45, 91], [120], [97, 115], [101], [93, 45, 62], [61, 91], [93, 61, 62], [44], [119, 104, 101, 114, 101], [97, 110, 100], [61], [53], [34, 116, 34], [114, 101, 116, 117, 114, 110], [46], [114, 97, 110, 103, 101], [115, 108, 105, 100, 101], [124], [42], [], [60], [45, 49]]
def goodW : List (List UInt8) := [[109, 97, 116, 99, 104], [40], [97], [41], [45, 91], [120], [97, 115], [101], [93, 45, 62], [40], [98], [41], [44], [40], [98], [41], [61, 91], [120], [124], [40], [121], [46], [122], [41], [42], [93, 61, 62], [40], [99], [41], [119, 104, 101, 114, 101], [101], [46], [107], [60, 61], [53], [97, 110, 100], [97], [33, 61], [34, 113, 34], [114, 101, 116, 117, 114, 110], [97], [44], [101], [46], [107], [114, 97, 110, 103, 101], [49, 48], [115, 108, 105, 100, 101], [53]]
theorem goodRow {i : Nat} (h : i < 49) : lstR [[D.v (Value.string (mkS [109, 97, 116, 99, 104]))], [D.v (Value.string (mkS [40]))], [D.v (Value.string (mkS [97]))], [D.v (Value.string (mkS [41]))], [D.v (Value.string (mkS [45, 91]))], [D.v (Value.string (mkS [120]))], [D.v (Value.string (mkS [97, 115]))], [D.v (Value.string (mkS [101]))], [D.v (Value.string (mkS [93, 45, 62]))], [D.v (Value.string (mkS [40]))], [D.v (Value.string (mkS [98]))], [D.v (Value.string (mkS [41]))], [D.v (Value.string (mkS [44]))], [D.v (Value.string (mkS [40]))], [D.v (Value.string (mkS [98]))], [D.v (Value.string (mkS [41]))], [D.v (Value.string (mkS [61, 91]))], [D.v (Value.string (mkS [120]))], [D.v (Value.string (mkS [124]))], [D.v (Value.string (mkS [40]))], [D.v (Value.string (mkS [121]))], [D.v (Value.string (mkS [46]))], [D.v (Value.string (mkS [122]))], [D.v (Value.string (mkS [41]))], [D.v (Value.string (mkS [42]))], [D.v (Value.string (mkS [93, 61, 62]))], [D.v (Value.string (mkS [40]))], [D.v (Value.string (mkS [99]))], [D.v (Value.string (mkS [41]))], [D.v (Value.string (mkS [119, 104, 101, 114, 101]))], [D.v (Value.string (mkS [101]))], [D.v (Value.string (mkS [46]))], [D.v (Value.string (mkS [107]))], [D.v (Value.string (mkS [60, 61]))], [D.v (Value.string (mkS [53]))], [D.v (Value.string (mkS [97, 110, 100]))], [D.v (Value.string (mkS [97]))], [D.v (Value.string (mkS [33, 61]))], [D.v (Value.string (mkS [34, 113, 34]))], [D.v (Value.string (mkS [114, 101, 116, 117, 114, 110]))], [D.v (Value.string (mkS [97]))], [D.v (Value.string (mkS [44]))], [D.v (Value.string (mkS [101]))], [D.v (Value.string (mkS [46]))], [D.v (Value.string (mkS [107]))], [D.v (Value.string (mkS [114, 97, 110, 103, 101]))], [D.v (Value.string (mkS [49, 48]))], [D.v (Value.string (mkS [115, 108, 105, 100, 101]))], [D.v (Value.string (mkS [53]))]] i = [D.v (Value.string (mkS (nth goodW i)))] := lst_row (fun x => [sv x]) goodW h
theorem words_len (i : Nat) : (nth wordsW i).length ≤ 6 := by
 rcases Nat.lt_or_ge i 26 with h | h
 ·exact (show ∀ j : Fin 26, (nth wordsW j.val).length ≤ 6 by decide) ⟨i, h⟩
 ·have : nth wordsW i = default := by simp [nth, List.getD_eq_getElem?_getD, List.getElem?_eq_none (l := wordsW) h]
  rw [this]; decide
theorem good_len (i : Nat) : (nth goodW i).length ≤ 6 := by
 rcases Nat.lt_or_ge i 49 with h | h
 ·exact (show ∀ j : Fin 49, (nth goodW j.val).length ≤ 6 by decide) ⟨i, h⟩
 ·have : nth goodW i = default := by simp [nth, List.getD_eq_getElem?_getD, List.getElem?_eq_none (l := goodW) h]
  rw [this]; decide
def rowK (s r : List UInt8) : Nat → List UInt8
 | 0 => s
 | n + 1 => rowK s r n ++ (r ++ s)
theorem rowK_len {s r : List UInt8} (hs : s.length ≤ 40) (hr : r.length ≤ 40) : ∀ n, (rowK s r n).length ≤ 80 * (n + 1)
 | 0 => by simp only [rowK]; omega
 | n + 1 => by have := rowK_len hs hr n; simp only [rowK, List.length_append]; omega
def rowZ (s r : List UInt8) (i : Int) : List UInt8 := rowK s r (i - 1).toNat
theorem rowZ_1 (s r : List UInt8) : rowZ s r 1 = s := rfl
theorem rowZ_on (s r : List UInt8) {i : Int} (h : 1 ≤ i) : rowZ s r (i + 1) = rowZ s r i ++ r ++ s := by
 unfold rowZ
 rw [show (i + 1 - 1).toNat = (i - 1).toNat + 1 by omega]; simp [rowK]
theorem rowZ_len {s r : List UInt8} (hs : s.length ≤ 40) (hr : r.length ≤ 40) {i : Int} (h : 1 ≤ i ∧ i ≤ 40) : (rowZ s r i).length ≤ 3200 := by
 have := rowK_len hs hr (i - 1).toNat
 unfold rowZ; omega
theorem words_ok  : FnOK LaidX Tryz.prog 28 [] (.sl 1 26 26 (fun i => [sv (nth wordsW i)])) := by
 refine FnOK_of laidX_stable Tryz.func28 Tryz.ntmps28 rfl (by as_aux_lemma => kernel_rfl) (Nat.le_of_ble_eq_true rfl) (fun R hR => ?_)
 obtain ⟨_, b, cs, T, C⟩ := R
 obtain rfl : _ = Tryz.prog := hR.p
 refine sreg te_ok ?_
 refine sreg te_ok ?_
 refine Exec.rets hR te_ok rfl rfl rfl (LeX.le ?_) (.inr ⟨_, rfl⟩)
 simp only [go_sem]
 exact fun i hi => lst_row (fun x => [sv x]) wordsW hi
theorem row_ok (s r : List UInt8) (n : Int) (hs : s.length ≤ 40) (hr : r.length ≤ 40) (hn : 1 ≤ n ∧ n ≤ 40) : FnOK LaidX Tryz.prog 29 [sv s, sv r, iv n] (sv (rowZ s r n)) := by
 refine FnOK_of laidX_stable Tryz.func29 Tryz.ntmps29 rfl (by as_aux_lemma => kernel_rfl) (Nat.le_of_ble_eq_true rfl) (fun R hR => ?_)
 obtain ⟨_, b, cs, T, C⟩ := R
 obtain rfl : _ = Tryz.prog := hR.p
 refine sreg te_ok ?_
 refine sreg te_ok ?_
 refine sq ?_
 refine sreg te_ok ?_
 refine Exec.block ?_
 apply Exec.loopU [0, 1, 2] (X := Int) (fun i => [(8, .d (iv i)), (7, .d (sv (rowZ s r i)))]) (fun i => []) (fun i => []) (fun i => (n - i).toNat) (fun i => 1 ≤ i ∧ i ≤ n) 1
 case h0 =>
  omega
 case hw =>
  simp only [go_sem, rowZ_1]
 case body =>
  rintro i hx ih0
  try simp only at hx
  apply Exec.norm
  ·simp only [go_sem]
   rfl
  refine sq ?_
  refine sreg te_ok ?_
  refine Exec.cond_split rfl (fun h0 => ?_) (fun h0 => ?_)
  ·have hi := of_decide_eq_true h0
   have hl := rowZ_len hs hr (i := i) (by omega)
   have hr1 := rowZ_on s r (i := i) (by omega)
   have hwz : IntKind.i64.wrap (i + 1) = i + 1 := wrap_id (by constructor <;> omega)
   refine sk ?_
   refine sq ?_
   refine Exec.block ?_
   apply Exec.regionL te_ok
   ·intro o Q hQ
    simp only [go_sem, hr1, hwz]
    repeat refine ob2 ?_
    exact hQ
   refine Exec.inBlock ?_
   apply Exec.regionL te_ok
   ·intro o Q hQ
    simp only [go_sem, hr1, hwz]
    repeat refine ob2 ?_
    exact hQ
   refine Exec.back (ih0 (i + 1) ?_ ?_) ?_ ?_ ?_ ?_ ?_ ?_ ?_
   ·try simp only
    omega
   ·try simp only
    omega
   ·rfl
   ·rfl
   ·(simp only [go_sem, hr1, hwz])
   ·(simp only [go_sem, hr1, hwz])
   ·(simp only [go_sem, hr1, hwz])
   ·simp only [go_sem, hr1, hwz]
   ·rfl
  ·obtain rfl : i = n := by have := of_decide_eq_false h0; omega
   refine Exec.exit rfl ?_
   refine sreg te_ok ?_
   refine Exec.rets hR te_ok rfl rfl rfl (LeX.le ?_) (.inr ⟨_, rfl⟩)
   simp only [go_sem]
theorem parseEnds_ok  : FnOK LaidX Tryz.prog 6 [] (bv true) := by
 refine FnOK_of laidX_stable Tryz.func6 Tryz.ntmps6 rfl (by as_aux_lemma => kernel_rfl) (Nat.le_of_ble_eq_true rfl) (fun R hR => ?_)
 obtain ⟨_, b, cs, T, C⟩ := R
 obtain rfl : _ = Tryz.prog := hR.p
 have w28 : IntKind.i64.wrap (((26 : Nat) : Int) + 2) = 28 := by decide
 have w27 : IntKind.i64.wrap (((26 : Nat) : Int) + 1) = 27 := by decide
 refine sq ?_
 apply Exec.regionL te_ok
 ·intro o Q hQ
  simp only [go_sem, w28, w27]
  repeat refine ob2 ?_
  exact hQ
 refine sq ?_
 apply Exec.regionL te_ok
 ·intro o Q hQ
  simp only [go_sem, w28, w27]
  repeat refine ob2 ?_
  exact hQ
 refine sq ?_
 apply Exec.regionL te_ok
 ·intro o Q hQ
  simp only [go_sem, w28, w27]
  repeat refine ob2 ?_
  refine kcall hR.inv te_ok rfl rfl rfl rfl rfl rfl (words_ok) ?_
  simp only [go_sem, w28, w27]
  repeat refine ob2 ?_
  exact hQ
 refine sq ?_
 refine sq ?_
 apply Exec.regionL te_ok
 ·intro o Q hQ
  simp only [go_sem, w28, w27]
  repeat refine ob2 ?_
  exact hQ
 refine Exec.block ?_
 apply Exec.loopU [1, 2] (X := Nat) (fun i => [(3, .d (iv i))]) (fun i => []) (fun i => []) (fun i => 49 - i) (fun i => i ≤ 49) 0
 case h0 =>
  omega
 case hw =>
  simp only [go_sem, w28, w27]
 case body =>
  rintro i hxi ih0
  try simp only at hxi
  apply Exec.norm
  ·simp only [go_sem, w28, w27]
   rfl
  refine sq ?_
  refine sq ?_
  apply Exec.regionL te_ok
  ·intro o Q hQ
   simp only [go_sem, w28, w27]
   repeat refine ob2 ?_
   exact hQ
  refine Exec.cond_split rfl (fun h0 => ?_) (fun h0 => ?_)
  ·have hi : i < 49 := by have := of_decide_eq_true h0; omega
   have hwi : IntKind.i64.wrap ((i : Int) + 1) = ((i + 1 : Nat) : Int) := by rw [wrap_id (by constructor <;> omega)]; simp
   refine sk ?_
   refine sq ?_
   refine Exec.block ?_
   refine sq ?_
   apply Exec.regionL te_ok
   ·intro o Q hQ
    simp only [go_sem, w28, w27, hwi]
    repeat refine ob2 ?_
    exact hQ
   refine Exec.block ?_
   apply Exec.loopU [1, 2, 3] (X := Nat) (fun k => [(4, .d (iv k))]) (fun k => []) (fun k => []) (fun k => 28 - k) (fun k => k ≤ 28) 0
   case h0 =>
    omega
   case hw =>
    simp only [go_sem, w28, w27, hwi]
   case body =>
    rintro k hxk ih1
    try simp only at hxk
    apply Exec.norm
    ·simp only [go_sem, w28, w27, hwi]
     rfl
    refine sq ?_
    refine sq ?_
    apply Exec.regionL te_ok
    ·intro o Q hQ
     simp only [go_sem, w28, w27, hwi]
     repeat refine ob2 ?_
     exact hQ
    refine Exec.cond_split rfl (fun h1 => ?_) (fun h1 => ?_)
    ·have hk : k < 28 := by have := of_decide_eq_true h1; omega
     have hwk : IntKind.i64.wrap ((k : Int) + 1) = ((k + 1 : Nat) : Int) := by rw [wrap_id (by constructor <;> omega)]; simp
     refine sk ?_
     refine sq ?_
     refine Exec.block ?_
     refine sq ?_
     apply Exec.regionL te_ok
     ·intro o Q hQ
      simp only [go_sem, w28, w27, hwi, hwk]
      repeat refine ob2 ?_
      exact hQ
     refine sq ?_
     refine sq ?_
     apply Exec.regionL te_ok
     ·intro o Q hQ
      simp only [go_sem, w28, w27, hwi, hwk]
      repeat refine ob2 ?_
      exact hQ
     refine Exec.block ?_
     apply Exec.loopU [1, 2, 3, 4] (X := Nat × List UInt8) (fun ⟨n, a⟩ => [(6, .d (iv n)), (5, .d (sv a))]) (fun ⟨n, a⟩ => []) (fun ⟨n, a⟩ => []) (fun ⟨n, a⟩ => 49 - n) (fun ⟨n, a⟩ => n ≤ 49 ∧ a.length ≤ 20 * n) (0, [])
     case h0 =>
      simp
     case hw =>
      simp only [go_sem, w28, w27, hwi, hwk]
     case body =>
      rintro ⟨n, a⟩ hxn ih2
      try simp only at hxn
      apply Exec.norm
      ·simp only [go_sem, w28, w27, hwi, hwk]
       rfl
      refine sq ?_
      refine sq ?_
      apply Exec.regionL te_ok
      ·intro o Q hQ
       simp only [go_sem, w28, w27, hwi, hwk]
       repeat refine ob2 ?_
       exact hQ
      refine Exec.cond_split rfl (fun h2 => ?_) (fun h2 => ?_)
      ·have hn : n < 49 := by have := of_decide_eq_true h2; omega
       have hg := goodRow hn
       have l1 := good_len n
       have l2 := words_len k
       have hwn : IntKind.i64.wrap ((n : Int) + 1) = ((n + 1 : Nat) : Int) := by rw [wrap_id (by constructor <;> omega)]; simp
       refine sk ?_
       refine sq ?_
       refine Exec.block ?_
       refine sq ?_
       apply Exec.regionL te_ok
       ·intro o Q hQ
        simp only [go_sem, w28, w27, hwi, hwk, hg, hwn]
        repeat refine ob2 ?_
        exact hQ
       refine sq ?_
       refine Exec.block ?_
       refine sq ?_
       apply Exec.regionL te_ok
       ·intro o Q hQ
        simp only [go_sem, w28, w27, hwi, hwk, hg, hwn]
        repeat refine ob2 ?_
        exact hQ
       refine Exec.cond_split rfl (fun h3 => ?_) (fun h3 => ?_)
       ·apply Exec.regionL te_ok
        ·intro o Q hQ
         simp only [go_sem, w28, w27, hwi, hwk, hg, hwn]
         repeat refine ob2 ?_
         exact hQ
        refine Exec.inBlock ?_
        apply Exec.regionL te_ok
        ·intro o Q hQ
         simp only [go_sem, w28, w27, hwi, hwk, hg, hwn]
         repeat refine ob2 ?_
         exact hQ
        refine Exec.inBlock ?_
        apply Exec.regionL te_ok
        ·intro o Q hQ
         simp only [go_sem, w28, w27, hwi, hwk, hg, hwn]
         repeat refine ob2 ?_
         exact hQ
        refine Exec.back (ih2 (n + 1, a ++ [32] ++ nth wordsW k) ?_ ?_) ?_ ?_ ?_ ?_ ?_ ?_ ?_
        ·try simp only
         simp only [List.length_append, List.length_cons, List.length_nil]; omega
        ·try simp only
         omega
        ·rfl
        ·rfl
        ·(simp only [go_sem, w28, w27, hwi, hwk, hg, hwn])
        ·(simp only [go_sem, w28, w27, hwi, hwk, hg, hwn])
        ·(simp only [go_sem, w28, w27, hwi, hwk, hg, hwn])
        ·simp only [go_sem, w28, w27, hwi, hwk, hg, hwn]
        ·rfl
       ·refine sq ?_
        apply Exec.regionL te_ok
        ·intro o Q hQ
         simp only [go_sem, w28, w27, hwi, hwk, hg, hwn]
         repeat refine ob2 ?_
         exact hQ
        refine Exec.cond_split rfl (fun h4 => ?_) (fun h4 => ?_)
        ·apply Exec.regionL te_ok
         ·intro o Q hQ
          simp only [go_sem, w28, w27, hwi, hwk, hg, hwn]
          repeat refine ob2 ?_
          exact hQ
         refine Exec.inBlock ?_
         apply Exec.regionL te_ok
         ·intro o Q hQ
          simp only [go_sem, w28, w27, hwi, hwk, hg, hwn]
          repeat refine ob2 ?_
          exact hQ
         refine Exec.inBlock ?_
         apply Exec.regionL te_ok
         ·intro o Q hQ
          simp only [go_sem, w28, w27, hwi, hwk, hg, hwn]
          repeat refine ob2 ?_
          exact hQ
         refine Exec.back (ih2 (n + 1, a ++ [32] ++ (nth goodW n ++ [32] ++ nth goodW n)) ?_ ?_) ?_ ?_ ?_ ?_ ?_ ?_ ?_
         ·try simp only
          simp only [List.length_append, List.length_cons, List.length_nil]; omega
         ·try simp only
          omega
         ·rfl
         ·rfl
         ·(simp only [go_sem, w28, w27, hwi, hwk, hg, hwn])
         ·(simp only [go_sem, w28, w27, hwi, hwk, hg, hwn])
         ·(simp only [go_sem, w28, w27, hwi, hwk, hg, hwn])
         ·simp only [go_sem, w28, w27, hwi, hwk, hg, hwn]
         ·rfl
        ·refine sq ?_
         apply Exec.regionL te_ok
         ·intro o Q hQ
          simp only [go_sem, w28, w27, hwi, hwk, hg, hwn]
          repeat refine ob2 ?_
          exact hQ
         refine Exec.cond_split rfl (fun h5 => ?_) (fun h5 => ?_)
         ·apply Exec.regionL te_ok
          ·intro o Q hQ
           simp only [go_sem, w28, w27, hwi, hwk, hg, hwn]
           repeat refine ob2 ?_
           exact hQ
          refine Exec.inBlock ?_
          apply Exec.regionL te_ok
          ·intro o Q hQ
           simp only [go_sem, w28, w27, hwi, hwk, hg, hwn]
           repeat refine ob2 ?_
           exact hQ
          refine Exec.inBlock ?_
          apply Exec.regionL te_ok
          ·intro o Q hQ
           simp only [go_sem, w28, w27, hwi, hwk, hg, hwn]
           repeat refine ob2 ?_
           exact hQ
          refine Exec.back (ih2 (n + 1, a ++ [32] ++ []) ?_ ?_) ?_ ?_ ?_ ?_ ?_ ?_ ?_
          ·try simp only
           simp only [List.length_append, List.length_cons, List.length_nil]; omega
          ·try simp only
           omega
          ·rfl
          ·rfl
          ·(simp only [go_sem, w28, w27, hwi, hwk, hg, hwn])
          ·(simp only [go_sem, w28, w27, hwi, hwk, hg, hwn])
          ·(simp only [go_sem, w28, w27, hwi, hwk, hg, hwn])
          ·simp only [go_sem, w28, w27, hwi, hwk, hg, hwn]
          ·rfl
         ·refine sk ?_
          refine Exec.inBlock ?_
          apply Exec.regionL te_ok
          ·intro o Q hQ
           simp only [go_sem, w28, w27, hwi, hwk, hg, hwn]
           repeat refine ob2 ?_
           exact hQ
          refine Exec.inBlock ?_
          apply Exec.regionL te_ok
          ·intro o Q hQ
           simp only [go_sem, w28, w27, hwi, hwk, hg, hwn]
           repeat refine ob2 ?_
           exact hQ
          refine Exec.back (ih2 (n + 1, a ++ [32] ++ nth goodW n) ?_ ?_) ?_ ?_ ?_ ?_ ?_ ?_ ?_
          ·try simp only
           simp only [List.length_append, List.length_cons, List.length_nil]; omega
          ·try simp only
           omega
          ·rfl
          ·rfl
          ·(simp only [go_sem, w28, w27, hwi, hwk, hg, hwn])
          ·(simp only [go_sem, w28, w27, hwi, hwk, hg, hwn])
          ·(simp only [go_sem, w28, w27, hwi, hwk, hg, hwn])
          ·simp only [go_sem, w28, w27, hwi, hwk, hg, hwn]
          ·rfl
      ·refine Exec.exit rfl ?_
       refine sq ?_
       apply Exec.regionL te_ok
       ·intro o Q hQ
        simp only [go_sem, w28, w27, hwi, hwk]
        repeat refine ob2 ?_
        refine kcall hR.inv te_ok rfl rfl rfl rfl rfl rfl (ptells_ok _ (by (try simp only [List.length_append, List.length_cons, List.length_nil]); omega)) ?_
        simp only [go_sem, w28, w27, hwi, hwk]
        repeat refine ob2 ?_
        exact hQ
       refine Exec.cond (t := false) rfl ?_
       simp only [reduceIte, Bool.false_eq_true]
       refine sk ?_
       refine Exec.inBlock ?_
       apply Exec.regionL te_ok
       ·intro o Q hQ
        simp only [go_sem, w28, w27, hwi, hwk]
        repeat refine ob2 ?_
        exact hQ
       refine Exec.back (ih1 (k + 1) ?_ ?_) ?_ ?_ ?_ ?_ ?_ ?_ ?_
       ·try simp only
        omega
       ·try simp only
        omega
       ·rfl
       ·rfl
       ·(simp only [go_sem, w28, w27, hwi, hwk])
       ·(simp only [go_sem, w28, w27, hwi, hwk])
       ·(simp only [go_sem, w28, w27, hwi, hwk])
       ·simp only [go_sem, w28, w27, hwi, hwk]
       ·rfl
    ·refine Exec.exit rfl ?_
     refine Exec.inBlock ?_
     apply Exec.regionL te_ok
     ·intro o Q hQ
      simp only [go_sem, w28, w27, hwi]
      repeat refine ob2 ?_
      exact hQ
     refine Exec.back (ih0 (i + 1) ?_ ?_) ?_ ?_ ?_ ?_ ?_ ?_ ?_
     ·try simp only
      omega
     ·try simp only
      omega
     ·rfl
     ·rfl
     ·(simp only [go_sem, w28, w27, hwi])
     ·(simp only [go_sem, w28, w27, hwi])
     ·(simp only [go_sem, w28, w27, hwi])
     ·simp only [go_sem, w28, w27, hwi]
     ·rfl
  ·refine Exec.exit rfl ?_
   refine sq ?_
   refine sq ?_
   apply Exec.regionL te_ok
   ·intro o Q hQ
    simp only [go_sem, w28, w27]
    repeat refine ob2 ?_
    exact hQ
   refine Exec.block ?_
   apply Exec.loopU [] (X := Int) (fun i => [(8, .d (iv i))]) (fun i => []) (fun i => []) (fun i => (9 - i).toNat) (fun i => 1 ≤ i ∧ i ≤ 9) 1
   case h0 =>
    omega
   case hw =>
    simp only [go_sem, w28, w27]
   case body =>
    rintro i hx8 ih3
    try simp only at hx8
    apply Exec.norm
    ·simp only [go_sem, w28, w27]
     rfl
    refine sq ?_
    refine sq ?_
    apply Exec.regionL te_ok
    ·intro o Q hQ
     simp only [go_sem, w28, w27]
     repeat refine ob2 ?_
     exact hQ
    refine Exec.cond_split rfl (fun h7 => ?_) (fun h7 => ?_)
    ·have hi := of_decide_eq_true h7
     have hwz : IntKind.i64.wrap (i + 1) = i + 1 := wrap_id (by constructor <;> omega)
     have r0 := rowZ_len (s := [40, 97, 41, 45, 91, 120, 93, 45, 62, 40, 98, 41]) (r := [44, 32]) (by decide) (by decide) (i := i) (by omega)
     have r1 := rowZ_len (s := [97, 32, 60, 32, 53]) (r := [32, 97, 110, 100, 32]) (by decide) (by decide) (i := i) (by omega)
     have r2 := rowZ_len (s := [97]) (r := [44]) (by decide) (by decide) (i := i) (by omega)
     refine sk ?_
     refine sq ?_
     refine Exec.block ?_
     refine sq ?_
     apply Exec.regionL te_ok
     ·intro o Q hQ
      simp only [go_sem, w28, w27, hwz]
      repeat refine ob2 ?_
      refine kcall hR.inv te_ok rfl rfl rfl rfl rfl rfl (row_ok _ _ _ (by decide) (by decide) (by omega)) ?_
      simp only [go_sem, w28, w27, hwz]
      repeat refine ob2 ?_
      refine kcall hR.inv te_ok rfl rfl rfl rfl rfl rfl (row_ok _ _ _ (by decide) (by decide) (by omega)) ?_
      simp only [go_sem, w28, w27, hwz]
      repeat refine ob2 ?_
      refine kcall hR.inv te_ok rfl rfl rfl rfl rfl rfl (row_ok _ _ _ (by decide) (by decide) (by omega)) ?_
      simp only [go_sem, w28, w27, hwz]
      repeat refine ob2 ?_
      exact hQ
     refine sq ?_
     apply Exec.regionL te_ok
     ·intro o Q hQ
      simp only [go_sem, w28, w27, hwz]
      repeat refine ob2 ?_
      refine kcall hR.inv te_ok rfl rfl rfl rfl rfl rfl (ptells_ok _ (by (try simp only [List.length_append, List.length_cons, List.length_nil]); omega)) ?_
      simp only [go_sem, w28, w27, hwz]
      repeat refine ob2 ?_
      refine kcallG hR.inv te_ok rfl rfl rfl rfl rfl rfl ob1 (fun hq => ptells_ok _ (by (try simp only [List.length_append, List.length_cons, List.length_nil]); omega)) ?_
      simp only [go_sem, w28, w27, hwz]
      repeat refine ob2 ?_
      refine kcallG hR.inv te_ok rfl rfl rfl rfl rfl rfl ob1 (fun hq => ptells_ok _ (by (try simp only [List.length_append, List.length_cons, List.length_nil]); omega)) ?_
      simp only [go_sem, w28, w27, hwz]
      repeat refine ob2 ?_
      refine kcallG hR.inv te_ok rfl rfl rfl rfl rfl rfl ob1 (fun hq => ptells_ok _ (by (try simp only [List.length_append, List.length_cons, List.length_nil]); omega)) ?_
      simp only [go_sem, w28, w27, hwz]
      repeat refine ob2 ?_
      exact hQ
     refine Exec.cond (t := false) rfl ?_
     simp only [reduceIte, Bool.false_eq_true]
     refine sk ?_
     refine Exec.inBlock ?_
     apply Exec.regionL te_ok
     ·intro o Q hQ
      simp only [go_sem, w28, w27, hwz]
      repeat refine ob2 ?_
      exact hQ
     refine Exec.back (ih3 (i + 1) ?_ ?_) ?_ ?_ ?_ ?_ ?_ ?_ ?_
     ·try simp only
      omega
     ·try simp only
      omega
     ·rfl
     ·rfl
     ·(simp only [go_sem, w28, w27, hwz])
     ·(simp only [go_sem, w28, w27, hwz])
     ·(simp only [go_sem, w28, w27, hwz])
     ·simp only [go_sem, w28, w27, hwz]
     ·rfl
    ·refine Exec.exit rfl ?_
     refine sq ?_
     refine sq ?_
     apply Exec.regionL te_ok
     ·intro o Q hQ
      simp only [go_sem, w28, w27]
      repeat refine ob2 ?_
      exact hQ
     refine Exec.block ?_
     apply Exec.loopU [] (X := Int) (fun i => [(12, .d (iv i))]) (fun i => []) (fun i => []) (fun i => (30 - i).toNat) (fun i => 1 ≤ i ∧ i ≤ 30) 1
     case h0 =>
      omega
     case hw =>
      simp only [go_sem, w28, w27]
     case body =>
      rintro i hx12 ih4
      try simp only at hx12
      apply Exec.norm
      ·simp only [go_sem, w28, w27]
       rfl
      refine sq ?_
      refine sq ?_
      apply Exec.regionL te_ok
      ·intro o Q hQ
       simp only [go_sem, w28, w27]
       repeat refine ob2 ?_
       exact hQ
      refine Exec.cond_split rfl (fun h9 => ?_) (fun h9 => ?_)
      ·have hi := of_decide_eq_true h9
       have hwz : IntKind.i64.wrap (i + 1) = i + 1 := wrap_id (by constructor <;> omega)
       have r0 := rowZ_len (s := [120]) (r := [46]) (by decide) (by decide) (i := i) (by omega)
       have r1 := rowZ_len (s := [120, 42]) (r := [124]) (by decide) (by decide) (i := i) (by omega)
       have r2 := rowZ_len (s := [42]) (r := []) (by decide) (by decide) (i := i) (by omega)
       have r3 := rowZ_len (s := [40]) (r := []) (by decide) (by decide) (i := i) (by omega)
       have r4 := rowZ_len (s := [41]) (r := []) (by decide) (by decide) (i := i) (by omega)
       refine sk ?_
       refine sq ?_
       refine Exec.block ?_
       refine sq ?_
       apply Exec.regionL te_ok
       ·intro o Q hQ
        simp only [go_sem, w28, w27, hwz]
        repeat refine ob2 ?_
        refine kcall hR.inv te_ok rfl rfl rfl rfl rfl rfl (row_ok _ _ _ (by decide) (by decide) (by omega)) ?_
        simp only [go_sem, w28, w27, hwz]
        repeat refine ob2 ?_
        exact hQ
       refine sq ?_
       apply Exec.regionL te_ok
       ·intro o Q hQ
        simp only [go_sem, w28, w27, hwz]
        repeat refine ob2 ?_
        refine kcall hR.inv te_ok rfl rfl rfl rfl rfl rfl (ptells_ok _ (by (try simp only [List.length_append, List.length_cons, List.length_nil]); omega)) ?_
        simp only [go_sem, w28, w27, hwz]
        repeat refine ob2 ?_
        refine kcallG hR.inv te_ok rfl rfl rfl rfl rfl rfl ob1 (fun hq => ptells_ok _ (by (try simp only [List.length_append, List.length_cons, List.length_nil]); omega)) ?_
        simp only [go_sem, w28, w27, hwz]
        repeat refine ob2 ?_
        refine kcallG hR.inv te_ok rfl rfl rfl rfl rfl rfl ob1 (fun hq => row_ok _ _ _ (by decide) (by decide) (by omega)) ?_
        simp only [go_sem, w28, w27, hwz]
        repeat refine ob2 ?_
        refine kcallG hR.inv te_ok rfl rfl rfl rfl rfl rfl ob1 (fun hq => ptells_ok _ (by (try simp only [List.length_append, List.length_cons, List.length_nil]); omega)) ?_
        simp only [go_sem, w28, w27, hwz]
        repeat refine ob2 ?_
        refine kcallG hR.inv te_ok rfl rfl rfl rfl rfl rfl ob1 (fun hq => row_ok _ _ _ (by decide) (by decide) (by omega)) ?_
        simp only [go_sem, w28, w27, hwz]
        repeat refine ob2 ?_
        refine kcallG hR.inv te_ok rfl rfl rfl rfl rfl rfl ob1 (fun hq => ptells_ok _ (by (try simp only [List.length_append, List.length_cons, List.length_nil]); omega)) ?_
        simp only [go_sem, w28, w27, hwz]
        repeat refine ob2 ?_
        refine kcallG hR.inv te_ok rfl rfl rfl rfl rfl rfl ob1 (fun hq => row_ok _ _ _ (by decide) (by decide) (by omega)) ?_
        simp only [go_sem, w28, w27, hwz]
        repeat refine ob2 ?_
        refine kcallG hR.inv te_ok rfl rfl rfl rfl rfl rfl ob1 (fun hq => row_ok _ _ _ (by decide) (by decide) (by omega)) ?_
        simp only [go_sem, w28, w27, hwz]
        repeat refine ob2 ?_
        refine kcallG hR.inv te_ok rfl rfl rfl rfl rfl rfl ob1 (fun hq => ptells_ok _ (by (try simp only [List.length_append, List.length_cons, List.length_nil]); omega)) ?_
        simp only [go_sem, w28, w27, hwz]
        repeat refine ob2 ?_
        refine kcallG hR.inv te_ok rfl rfl rfl rfl rfl rfl ob1 (fun hq => ptells_ok _ (by (try simp only [List.length_append, List.length_cons, List.length_nil]); omega)) ?_
        simp only [go_sem, w28, w27, hwz]
        repeat refine ob2 ?_
        exact hQ
       refine Exec.cond (t := false) rfl ?_
       simp only [reduceIte, Bool.false_eq_true]
       refine sk ?_
       refine Exec.inBlock ?_
       apply Exec.regionL te_ok
       ·intro o Q hQ
        simp only [go_sem, w28, w27, hwz]
        repeat refine ob2 ?_
        exact hQ
       refine Exec.back (ih4 (i + 1) ?_ ?_) ?_ ?_ ?_ ?_ ?_ ?_ ?_
       ·try simp only
        omega
       ·try simp only
        omega
       ·rfl
       ·rfl
       ·(simp only [go_sem, w28, w27, hwz])
       ·(simp only [go_sem, w28, w27, hwz])
       ·(simp only [go_sem, w28, w27, hwz])
       ·simp only [go_sem, w28, w27, hwz]
       ·rfl
      ·refine Exec.exit rfl ?_
       refine sq ?_
       apply Exec.regionL te_ok
       ·intro o Q hQ
        simp only [go_sem, w28, w27]
        repeat refine ob2 ?_
        refine kcall hR.inv te_ok rfl rfl rfl rfl rfl rfl (ptells_ok _ (by (try simp only [List.length_append, List.length_cons, List.length_nil]); omega)) ?_
        simp only [go_sem, w28, w27]
        repeat refine ob2 ?_
        refine kcallG hR.inv te_ok rfl rfl rfl rfl rfl rfl ob1 (fun hq => pawake_ok) ?_
        simp only [go_sem, w28, w27]
        repeat refine ob2 ?_
        exact hQ
       refine Exec.rets hR te_ok rfl rfl rfl (LeX.le ?_) (.inr ⟨_, rfl⟩)
       simp only [go_sem, w28, w27]
end Go.Proofs.YtonchjamoblioaaGreatDoor
namespace Go.Proofs.YtonchjamoblioaaGreatDoor
open Go.Kin
set_option maxRecDepth 100000
set_option maxHeartbeats 0
end Go.Proofs.YtonchjamoblioaaGreatDoor
namespace Go.Kin
open Go.RowKit
section
variable {H : Type} {enc : TypeId × Value → H} {P : Program} {W : World} {te : TE}
/-- **A law's row, where variables are laid.** Its function answers true at data of the parameters' shapes; its arguments read as before. -/
theorem law_rowL {I : World → Prop} {X : World → Array Value → Prop} (hX : ∀ (w w' : World) (args : Array Value), w.heap = w'.heap → X w args → X w' args) (hXI : ∀ W args, X W args → I W) {C : _root_.Go.Checked} {os : Os} {f : FuncId} {fn : Func} {s : ChangeSpec} {tb : TypeId} (us : List TypeId) (hts : okAll te us = true) (hC : C.prog = P) (hte : TEok P te) (own : ownKnob P.godebug = none) (hlaid : laidOutB P = true) (started : os.Started) (noInit : P.inits.idxOf? f = none) (hfn : P.funcs[f]? = some fn)
    (witness : ∃ (w : World) (tape : Tape) (i : Input), w.os = os ∧ (w.forCall tape i).Shaped C.prog ∧ i.vars = [] ∧ Input.okWide C.prog (w.forCall tape i) .any w.heap.size f i ∧
      ((s.pre enc C.prog fn [] false (w.forCall tape i).memory i.args ∧ X (w.forCall tape i).memory i.args) ∧ sizedMet enc C.prog fn (OpenSpec.ofChange s) false (w.forCall tape i).memory i.args) ∧ ({} : Assume).holds C.prog (lone (Frame.enter C.prog f i.args .normal) [] (w.forCall tape i)))
    (hvars : s.vars = []) (hres : fn.resultTypes = #[tb]) (htb : P.underlying tb = some .bool)
    (hs : ∀ (ds : List (DataW H)), ds.length = fn.params.size → (s.fn H ds).results = [.lit (.bool true)] ∧ (s.fn H ds).args = ds ∧ (s.fn H ds).vars = [])
    (hok : (fn.params.toList.all fun t => us.contains t && P.readableRec t && decide (t < P.types.size)) = true)
    (h : ∀ xs, ArgsShp te fn.params.toList xs → FnOK I P f xs (.v (.bool true))) :
    ReturnsInHanded {} C os f .any (fun w args => (s.pre enc C.prog fn [] false w args ∧ X w args) ∧ sizedMet enc C.prog fn (OpenSpec.ofChange s) false w args) (s.post enc C.prog fn false true false false) := by
  subst hC
  refine returnsInHanded_of_change_and (X := X) hX own started noInit hfn witness ?_
  intro W base args ds gs before hval hW _ hwt hXW _
  have hW' := hW
  obtain ⟨p, q, hA, hV, rfl, hfz, hnd⟩ := hW
  rw [hvars] at hV
  have hgs : gs = [] ∧ q = [] := by
    cases gs with
    | nil => exact ⟨rfl, hV⟩
    | cons g gs => exact hV.elim
  obtain ⟨rfl, rfl⟩ := hgs
  have hall : ∀ t ∈ fn.params.toList, us.contains t = true ∧ C.prog.readableRec t = true ∧ t < C.prog.types.size := fun t ht => by
    have := List.all_eq_true.1 hok t ht
    simpa [and_assoc] using this
  have hwt' : ∀ x ∈ DataW.weightsEach C.prog fn.params.toList ds, x ≤ reachBytes := fun x hx => by
    have hv0 : s.plain.varTypes C.prog = [] := by simp [DataSpec.varTypes, ChangeSpec.plain, hvars]
    rw [hv0, List.append_nil, List.append_nil] at hwt
    simpa using List.all_eq_true.1 hwt x hx
  obtain ⟨xs, hx1, hx2⟩ := args_rd hte hts (fun t ht => (hall t ht).1) (fun j t v h1 h2 => hval j t v (by simpa using h1) (by simpa using h2)) hA hwt'
  have hc := (h xs hx1).2 W (fun b => b < W.heap.size) args.toList (hXI _ _ hXW) (fun b hb => hb) hx2
  rw [Array.toArray_toList] at hc
  refine Calls.mono hc fun e W' he => ?_
  obtain ⟨v, Z', rfl, hb, _, hv⟩ := he
  simp only [RdV] at hv
  subst hv
  have hlen : ds.length = fn.params.size := by
    have : ∀ {ts : List TypeId} {vs : List Value} {ds : List (DataW H)} {ps : List MemPlace}, DataW.TrodAll enc C.prog W 0 (fun _ => true) true ts vs ds ps → ds.length = ts.length := by
      intro ts
      induction ts with
      | nil => intro vs ds ps h; cases vs <;> cases ds <;> first | rfl | exact h.elim
      | cons t ts ih =>
        intro vs ds ps h
        cases vs with
        | nil => exact h.elim
        | cons v vs => cases ds with
          | nil => exact h.elim
          | cons d ds => obtain ⟨_, _, _, h2, _⟩ := h; simp [ih h2]
    simpa using this hA
  obtain ⟨e1, e2, e3⟩ := hs ds hlen
  refine ⟨.bool true, rfl, post_of_below (pa := p) (pv := []) hW' (fun b sp hd => ?_) (fun sp hsp => ?_) (fun sp _ => ?_) rfl hb ?_⟩
  · rw [List.append_nil, e1, hres]
    exact ⟨[], [], ⟨1, by simp [DataW.trod, htb, Value.cells]⟩, rfl, rfl⟩
  · rw [List.append_nil, e2]
    exact trodAll_stays hlaid (fun t ht => (hall t ht).2) hA (fun x hx => hb.same (hW'.lt x (by simpa using hx))) (fun x hx => hsp x (by simpa using hx))
  · rw [List.append_nil, e3, hvars]; rfl
  · intro j t r hj hr
    rw [hres] at hj hr
    match j, hj, hr with
    | 0, hj, hr =>
      simp [Value.resultList] at hj hr
      subst hj; subst hr
      simp [Value.okWide, Cell.okWide, Cell.ok, htb]
end
end Go.Kin
namespace Go.Proofs.YtonchjamoblioaaGreatDoor
open Go.Kin
set_option maxRecDepth 100000
theorem own_ok : ownKnob Tryz.prog.godebug = none := by kernel_rfl
theorem laid_ok : laidOutB Tryz.prog = true := by kernel_rfl
def tysX : List TypeId := [3, 4, 9]
theorem tysX_ok : okAll te tysX = true := by kernel_rfl
/-! ### what the rows lay -/
def laidX : List (String × DataW Unit) := Rows.parseTellsRow.laid
theorem gPow : Tryz.prog.globalNamed powName = some 0 := by kernel_rfl
theorem gSpc : Tryz.prog.globalNamed "strings.asciiSpace" = some 1 := by kernel_rfl
theorem gSyn : Tryz.prog.globalNamed "strconv.ErrSyntax" = some 6 := by kernel_rfl
theorem gRng : Tryz.prog.globalNamed "strconv.ErrRange" = some 7 := by kernel_rfl
theorem tPow : (Tryz.prog.globals[0]?).map (·.type) = some 206 := by kernel_rfl
theorem tSpc : (Tryz.prog.globals[1]?).map (·.type) = some 216 := by kernel_rfl
theorem tSyn : (Tryz.prog.globals[6]?).map (·.type) = some 186 := by kernel_rfl
theorem tRng : (Tryz.prog.globals[7]?).map (·.type) = some 186 := by kernel_rfl
theorem cells258 : Tryz.prog.cellsOf 258 = 1 := by kernel_rfl
theorem cells9 : Tryz.prog.cellsOf 9 = 1 := by kernel_rfl
/-- the name of the type of the library's errors -/
def errName : String := match (Rows.laid_strconv_ErrSyntax : DataW Unit) with
 | .iface n _ => n
 | _ => default
theorem row256 (u : TypeId) (h : Tryz.prog.typeName? 3 u = some errName) : u = 256 :=
 typeName_ptr_named (nm := "errors.errorString") (by kernel_rfl) (by kernel_rfl) (by decide) u (h.trans (congrArg some (by decide)))
theorem laidX_met {W : World} (h : laidMetH Tryz.prog laidX W) : LaidX W := by
 rw [MakeChecks.laidMetH_plain _ _ _ (by kernel_rfl)] at h
 have h3 := h.tail.tail
 obtain ⟨a1, s1, hv1, -, -, -⟩ := laid_sentinel h3.tail gRng tRng Tryz.underlying186 row256 Tryz.underlying256 Tryz.underlying258 rfl rfl Tryz.underlying9 cells258 cells9
 obtain ⟨a0, s0, hv0, -, -, -⟩ := laid_sentinel h3.tail.tail gSyn tSyn Tryz.underlying186 row256 Tryz.underlying256 Tryz.underlying258 rfl rfl Tryz.underlying9 cells258 cells9
 have h6 : laidMet Tryz.prog [("strings.asciiSpace", Lib.tabData .u8 Lib.asciiSpaceTab)] W := by
  have := h3.tail.tail.tail.tail
  exact this
 exact ⟨⟨Lib.tabIs_of_head gPow tPow Tryz.underlying206 Tryz.underlying191 (by kernel_rfl) (by kernel_rfl) h3⟩, ⟨_, _, hv0⟩, ⟨_, _, hv1⟩,
  Lib.tabIs_of_head gSpc tSpc Tryz.underlying216 Tryz.underlying5 (by kernel_rfl) (by kernel_rfl) h6⟩
theorem doorX (os : Os) (args : Array Value) : laidMetH Tryz.prog laidX ((World.doorLaid Tryz.prog 200 os).forCall (fun _ _ => 0) ⟨#[], args, []⟩).memory :=
 laidMetH_of_parts3 (fuel := 8) (laidMet_of_run' 8 (by kernel_rfl) (by kernel_rfl)) (by kernel_rfl) (by kernel_rfl)
end Go.Proofs.YtonchjamoblioaaGreatDoor
