/- Steps of a function body on data, and contracts of the functions of the seat, walked. -/
import Derived.Test.YtonchjamoblioaaGreatDoorPR7
import Derived.Test.YtonchjamoblioaaGreatDoorVDef
import Derived.Stop.Joined
import Derived.Test.YtonchjamoblioaaGreatDoorTie
import Derived.Test.YtonchjamoblioaaGreatDoorCards
import Derived.Test.YtonchjamoblioaaGreatDoorChecked
import Derived.ProofKit
import Derived.LaidMore
import Derived.OpenShut
import Derived.Stop.LaidErr
import Derived.Lib.LaidTab
set_option linter.unusedSimpArgs false
set_option linter.unusedVariables false
namespace Go.Proofs.YtonchjamoblioaaGreatDoor
open Go.Kin
/-! ### what is read is small; the chapter's examples -/
section
variable {l : List Tk}
theorem many_all {α : Type} (hk : TkOk l) {rd : PS → PR α} {w : List UInt8} {mx : Nat} {G : α → Prop} (hr : ∀ s : PS, s.n < l.length → AdvP l s (rd s)) (hG : ∀ s : PS, s.n < l.length → ∀ s1 x, rd s = .ok s1 x → G x) : ∀ (f : Nat) (s : PS) (acc : List α), s.n < l.length → (∀ x ∈ acc, G x) → ∀ s1 xs, manyP l rd w mx f s acc = .ok s1 xs → (s1.n < l.length ∧ xs.length + s.n ≤ acc.length + s1.n) ∧ ∀ x ∈ xs, G x
 | 0, s, acc, _, _, s1, xs, h => by cases h
 | f + 1, s, acc, hs, ha, s1, xs, h => by
   obtain ⟨t1, x, g1, h⟩ := bind_ok h
   have a1 := hr _ (by rw [limS_n]; exact hs) _ _ g1
   rw [limS_n] at a1
   have a2 := hG _ (by rw [limS_n]; exact hs) _ _ g1
   have a3 : ∀ y ∈ acc ++ [x], G y := fun y hy => by
    rcases List.mem_append.1 hy with h | h
    ·exact ha y h
    ·simp at h; subst h; exact a2
   split at h
   ·rename_i hp
    have := many_all hk hr hG _ _ _ (is_adv hk a1.2 hp) a3 _ _ h
    simp [PS.adv] at this
    exact ⟨⟨this.1.1, by omega⟩, this.2⟩
   ·cases h; exact ⟨⟨a1.2, by simp; omega⟩, a3⟩
theorem pat_small (hk : TkOk l) {s : PS} (hn : s.n < l.length) : ∀ s1 p, patP l s = .ok s1 p → p.e.size ≤ 1000000 := by
 intro s9 x h
 obtain ⟨s1, _, h1, h⟩ := bind_ok h
 have a1 := vertex_adv hk hn _ _ h1
 split at h
 ·rename_i hp
  have a2 := is_adv hk a1.2 hp
  obtain ⟨s2, y, h2, h⟩ := bind_ok h
  have a3 := whole_adv hk (s := s1.adv) a2 _ _ h2
  obtain ⟨s3, _, h3, h⟩ := bind_ok h
  obtain ⟨s4, _, h4, h⟩ := bind_ok h
  cases h
  have := hk.few
  show y.size ≤ _
  omega
 ·obtain ⟨s2, _, h2, h⟩ := bind_ok h
  obtain ⟨s3, _, h3, h⟩ := bind_ok h
  split at h
  ·obtain ⟨s4, _, h4, h⟩ := bind_ok h
   obtain ⟨s5, _, h5, h⟩ := bind_ok h
   obtain ⟨s6, _, h6, h⟩ := bind_ok h
   cases h
   show Ex.size (.mk 0 [] []) ≤ _
   rw [Ex.size_eq]; decide
  ·obtain ⟨s5, _, h5, h⟩ := bind_ok h
   obtain ⟨s6, _, h6, h⟩ := bind_ok h
   cases h
   show Ex.size (.mk 0 [] []) ≤ _
   rw [Ex.size_eq]; decide
structure SmQ (q : Qu) : Prop where
 p : q.p.length ≤ 1000000
 c : q.c.length ≤ 1000000
 r : q.r.length ≤ 1000000
 e : ∀ p ∈ q.p, p.e.size ≤ 1000000
theorem query_small (hk : TkOk l) {s : PS} (hn : s.n < l.length) : ∀ s1 q, queryP l s = .ok s1 q → SmQ q := by
 intro s1 q h
 have few := hk.few
 obtain ⟨s2, _, h2, h⟩ := bind_ok h
 obtain ⟨s3, ps, h3, h⟩ := bind_ok h
 obtain ⟨s4, cs, h4, h⟩ := bind_ok h
 obtain ⟨s5, _, h5, h⟩ := bind_ok h
 obtain ⟨s6, rs, h6, h⟩ := bind_ok h
 obtain ⟨s7, _, h7, h⟩ := bind_ok h
 obtain ⟨s8, _, h8, h⟩ := bind_ok h
 obtain ⟨s9, _, h9, h⟩ := bind_ok h
 obtain ⟨s0, _, h0, h⟩ := bind_ok h
 cases h
 have a2 := must_adv hk hn _ _ h2
 have a3 := many_all hk (G := fun p : Pt => p.e.size ≤ 1000000) (fun s hs => pat_adv hk hs) (fun s hs => pat_small hk hs) _ _ _ a2.2 (fun x hx => by cases hx) _ _ h3
 have a4 : s4.n < l.length ∧ cs.length ≤ 1000000 := by
  split at h4
  ·rename_i hp
   have := many_all hk (G := fun _ : Cd => True) (fun s hs => cd_adv hk hs) (fun _ _ _ _ _ => trivial) _ _ _ (is_adv hk a3.1.1 hp) (fun _ _ => trivial) _ _ h4
   simp at this; omega
  ·cases h4; exact ⟨a3.1.1, by simp⟩
 have a5 := must_adv hk a4.1 _ _ h5
 have a6 := many_all hk (G := fun _ : Opd => True) (fun s hs => told_adv hk hs) (fun _ _ _ _ _ => trivial) _ _ _ a5.2 (fun _ _ => trivial) _ _ h6
 simp at a3 a6
 exact ⟨by simp only; omega, a4.2, by simp only; omega, a3.2⟩
end
theorem readV_small {α : Type} {z : α} {rule : List Tk → PS → PR α} {G : α → Prop} (hz : G z) (h : ∀ l, TkOk l → ∀ s : PS, s.n < l.length → ∀ s1 x, rule l s = .ok s1 x → G x) (s : List UInt8) : G (readV z rule s).1 := by
 unfold readV
 by_cases hl : lexE s = 0
 ·rw [if_pos hl]
  obtain ⟨hk, h0, _, _⟩ := lex_tk hl
  cases hp : rule (lexT s) ⟨0, -1⟩ with
  | err a => exact hz
  | ok s1 x =>
   simp only
   split
   ·split
    ·exact hz
    ·exact h _ hk ⟨0, -1⟩ h0 _ _ hp
   ·exact hz
 ·rw [if_neg hl]; exact hz
theorem readQ_small (s : List UInt8) : SmQ (readV qz queryP s).1 := readV_small ⟨by decide, by decide, by decide, fun p hp => by cases hp⟩ (fun l hk s hn => query_small hk hn) s
theorem readX_small (s : List UInt8) : (readV xz wholeP s).1.size ≤ 1000000 := readV_small (G := fun x : Ex => x.size ≤ 1000000) (by show Ex.size (.mk 0 [] []) ≤ _; rw [Ex.size_eq]; decide) (fun l hk s hn s1 x h => by have := whole_adv hk hn _ _ h; have := hk.few; omega) s
theorem tQuery_ok (s : List UInt8) (hs : s.length ≤ 140737488351232) : FnOK LaidX Tryz.prog 57 [sv s] (.tup [quD (readV qz queryP s).1, iv (readV qz queryP s).2.1, iv (readV qz queryP s).2.2]) := readQ_eq s ▸ rQuery_ok s hs
theorem tExpr_ok (s : List UInt8) (hs : s.length ≤ 140737488351232) : FnOK LaidX Tryz.prog 58 [sv s] (.tup [exD (readV xz wholeP s).1, iv (readV xz wholeP s).2.1, iv (readV xz wholeP s).2.2]) := readX_eq s ▸ rExpr_ok s hs
end Go.Proofs.YtonchjamoblioaaGreatDoor
namespace Go.Proofs.YtonchjamoblioaaGreatDoor
open Go.Kin
set_option maxRecDepth 100000
set_option maxHeartbeats 0
theorem dg5 : Lib.decDigits 5 = [53] := by rw [Lib.decDigits, dif_pos (by omega)]; rfl
theorem parse_d5 : parseV [53] = ⟨1, 5, []⟩ ∧ parseE [53] = 0 := by
 have hb : parseB [53] = true := by
  have e : parseT [53] = ⟨1, 5, []⟩ := by decide
  have : Lib.itoa 5 = [53] := by unfold Lib.itoa; rw [if_neg (by decide), show (5 : Int).toNat = 5 from rfl, dg5]
  unfold parseB; rw [e]; unfold Vl.right Vl.shown shownV; simp [this, rightV]
 have e : parseT [53] = ⟨1, 5, []⟩ := by decide
 unfold parseV parseE; rw [hb, e]; exact ⟨rfl, rfl⟩
theorem dg1 : Lib.decDigits 1 = [49] := by rw [Lib.decDigits, dif_pos (by omega)]; rfl
theorem parse_d1 : parseV [49] = ⟨1, 1, []⟩ ∧ parseE [49] = 0 := by
 have hb : parseB [49] = true := by
  have e : parseT [49] = ⟨1, 1, []⟩ := by decide
  have : Lib.itoa 1 = [49] := by unfold Lib.itoa; rw [if_neg (by decide), show (1 : Int).toNat = 1 from rfl, dg1]
  unfold parseB; rw [e]; unfold Vl.right Vl.shown shownV; simp [this, rightV]
 have e : parseT [49] = ⟨1, 1, []⟩ := by decide
 unfold parseV parseE; rw [hb, e]; exact ⟨rfl, rfl⟩
def awA : List UInt8 := [109, 97, 116, 99, 104, 32, 40, 97, 41, 45, 91, 120, 93, 45, 62, 40, 98, 41, 32, 114, 101, 116, 117, 114, 110, 32, 97, 32, 114, 97, 110, 103, 101, 32, 53, 32, 115, 108, 105, 100, 101, 32, 49]
def awAT : List Tk := [⟨1, [109, 97, 116, 99, 104], 0, v0⟩, ⟨4, [40], 6, v0⟩, ⟨1, [97], 7, v0⟩, ⟨4, [41], 8, v0⟩, ⟨4, [45, 91], 9, v0⟩, ⟨1, [120], 11, v0⟩, ⟨4, [93, 45, 62], 12, v0⟩, ⟨4, [40], 15, v0⟩, ⟨1, [98], 16, v0⟩, ⟨4, [41], 17, v0⟩, ⟨1, [114, 101, 116, 117, 114, 110], 19, v0⟩, ⟨1, [97], 26, v0⟩, ⟨1, [114, 97, 110, 103, 101], 28, v0⟩, ⟨2, [53], 34, ⟨1, 5, []⟩⟩, ⟨1, [115, 108, 105, 100, 101], 36, v0⟩, ⟨2, [49], 42, ⟨1, 1, []⟩⟩, ⟨5, [], 43, v0⟩]
theorem awA_all : lexAll awA = (awAT, none) := by
 have s0 := lexAt_on (s := awA) (a := 0) (by decide +kernel) (by decide +kernel) (by decide +kernel)
 have n0 : thenA awA 0 = 5 := by decide +kernel
 have s1 := lexAt_on (s := awA) (a := 5) (by decide +kernel) (by decide +kernel) (by decide +kernel)
 have n1 : thenA awA 5 = 7 := by decide +kernel
 have s2 := lexAt_on (s := awA) (a := 7) (by decide +kernel) (by decide +kernel) (by decide +kernel)
 have n2 : thenA awA 7 = 8 := by decide +kernel
 have s3 := lexAt_on (s := awA) (a := 8) (by decide +kernel) (by decide +kernel) (by decide +kernel)
 have n3 : thenA awA 8 = 9 := by decide +kernel
 have s4 := lexAt_on (s := awA) (a := 9) (by decide +kernel) (by decide +kernel) (by decide +kernel)
 have n4 : thenA awA 9 = 11 := by decide +kernel
 have s5 := lexAt_on (s := awA) (a := 11) (by decide +kernel) (by decide +kernel) (by decide +kernel)
 have n5 : thenA awA 11 = 12 := by decide +kernel
 have s6 := lexAt_on (s := awA) (a := 12) (by decide +kernel) (by decide +kernel) (by decide +kernel)
 have n6 : thenA awA 12 = 15 := by decide +kernel
 have s7 := lexAt_on (s := awA) (a := 15) (by decide +kernel) (by decide +kernel) (by decide +kernel)
 have n7 : thenA awA 15 = 16 := by decide +kernel
 have s8 := lexAt_on (s := awA) (a := 16) (by decide +kernel) (by decide +kernel) (by decide +kernel)
 have n8 : thenA awA 16 = 17 := by decide +kernel
 have s9 := lexAt_on (s := awA) (a := 17) (by decide +kernel) (by decide +kernel) (by decide +kernel)
 have n9 : thenA awA 17 = 18 := by decide +kernel
 have s10 := lexAt_on (s := awA) (a := 18) (by decide +kernel) (by decide +kernel) (by decide +kernel)
 have n10 : thenA awA 18 = 25 := by decide +kernel
 have s11 := lexAt_on (s := awA) (a := 25) (by decide +kernel) (by decide +kernel) (by decide +kernel)
 have n11 : thenA awA 25 = 27 := by decide +kernel
 have s12 := lexAt_on (s := awA) (a := 27) (by decide +kernel) (by decide +kernel) (by decide +kernel)
 have n12 : thenA awA 27 = 33 := by decide +kernel
 have s13 := lexAt_on (s := awA) (a := 33) (by decide +kernel) (by show (parseE [53] == 0) = true; rw [parse_d5.2]; rfl) (by decide +kernel)
 have n13 : thenA awA 33 = 35 := by decide +kernel
 have s14 := lexAt_on (s := awA) (a := 35) (by decide +kernel) (by decide +kernel) (by decide +kernel)
 have n14 : thenA awA 35 = 41 := by decide +kernel
 have s15 := lexAt_on (s := awA) (a := 41) (by decide +kernel) (by show (parseE [49] == 0) = true; rw [parse_d1.2]; rfl) (by decide +kernel)
 have n15 : thenA awA 41 = 43 := by decide +kernel
 have s16 := lexAt_end (s := awA) (a := 43) (by decide +kernel) (by decide +kernel) (by decide +kernel)
 have t13 : tokA awA 33 = ⟨2, [53], 34, ⟨1, 5, []⟩⟩ := by show (⟨2, [53], 34, parseV [53]⟩ : Tk) = _; rw [parse_d5.1]
 have t15 : tokA awA 41 = ⟨2, [49], 42, ⟨1, 1, []⟩⟩ := by show (⟨2, [49], 42, parseV [49]⟩ : Tk) = _; rw [parse_d1.1]
 unfold lexAll
 rw [s0, n0, s1, n1, s2, n2, s3, n3, s4, n4, s5, n5, s6, n6, s7, n7, s8, n8, s9, n9, s10, n10, s11, n11, s12, n12, s13, n13, s14, n14, s15, n15, s16, t13, t15]
 rfl
def awB : List UInt8 := [109, 97, 116, 99, 104, 32, 40, 97, 41, 45, 91, 120, 93, 45, 40, 98, 41]
theorem awB_all : (lexAll awB).2 = some 13 := by
 have s0 := lexAt_on (s := awB) (a := 0) (by decide +kernel) (by decide +kernel) (by decide +kernel)
 have n0 : thenA awB 0 = 5 := by decide +kernel
 have s1 := lexAt_on (s := awB) (a := 5) (by decide +kernel) (by decide +kernel) (by decide +kernel)
 have n1 : thenA awB 5 = 7 := by decide +kernel
 have s2 := lexAt_on (s := awB) (a := 7) (by decide +kernel) (by decide +kernel) (by decide +kernel)
 have n2 : thenA awB 7 = 8 := by decide +kernel
 have s3 := lexAt_on (s := awB) (a := 8) (by decide +kernel) (by decide +kernel) (by decide +kernel)
 have n3 : thenA awB 8 = 9 := by decide +kernel
 have s4 := lexAt_on (s := awB) (a := 9) (by decide +kernel) (by decide +kernel) (by decide +kernel)
 have n4 : thenA awB 9 = 11 := by decide +kernel
 have s5 := lexAt_on (s := awB) (a := 11) (by decide +kernel) (by decide +kernel) (by decide +kernel)
 have n5 : thenA awB 11 = 12 := by decide +kernel
 have s6 := lexAt_on (s := awB) (a := 12) (by decide +kernel) (by decide +kernel) (by decide +kernel)
 have n6 : thenA awB 12 = 13 := by decide +kernel
 have s7 := lexAt_no (s := awB) (a := 13) (by decide +kernel) (by decide +kernel)
 have r0 : (lexAt awB 0).2 = (lexAt awB 5).2 := by rw [s0, n0]
 have r1 : (lexAt awB 5).2 = (lexAt awB 7).2 := by rw [s1, n1]
 have r2 : (lexAt awB 7).2 = (lexAt awB 8).2 := by rw [s2, n2]
 have r3 : (lexAt awB 8).2 = (lexAt awB 9).2 := by rw [s3, n3]
 have r4 : (lexAt awB 9).2 = (lexAt awB 11).2 := by rw [s4, n4]
 have r5 : (lexAt awB 11).2 = (lexAt awB 12).2 := by rw [s5, n5]
 have r6 : (lexAt awB 12).2 = (lexAt awB 13).2 := by rw [s6, n6]
 show (lexAt awB 0).2 = _
 rw [r0, r1, r2, r3, r4, r5, r6, s7]
 decide +kernel
def awX : List UInt8 := [40, 120, 124, 121, 41, 42, 46, 122]
def awXT : List Tk := [⟨4, [40], 0, v0⟩, ⟨1, [120], 1, v0⟩, ⟨4, [124], 2, v0⟩, ⟨1, [121], 3, v0⟩, ⟨4, [41], 4, v0⟩, ⟨4, [42], 5, v0⟩, ⟨4, [46], 6, v0⟩, ⟨1, [122], 7, v0⟩, ⟨5, [], 8, v0⟩]
theorem awX_all : lexAll awX = (awXT, none) := by
 have s0 := lexAt_on (s := awX) (a := 0) (by decide +kernel) (by decide +kernel) (by decide +kernel)
 have n0 : thenA awX 0 = 1 := by decide +kernel
 have s1 := lexAt_on (s := awX) (a := 1) (by decide +kernel) (by decide +kernel) (by decide +kernel)
 have n1 : thenA awX 1 = 2 := by decide +kernel
 have s2 := lexAt_on (s := awX) (a := 2) (by decide +kernel) (by decide +kernel) (by decide +kernel)
 have n2 : thenA awX 2 = 3 := by decide +kernel
 have s3 := lexAt_on (s := awX) (a := 3) (by decide +kernel) (by decide +kernel) (by decide +kernel)
 have n3 : thenA awX 3 = 4 := by decide +kernel
 have s4 := lexAt_on (s := awX) (a := 4) (by decide +kernel) (by decide +kernel) (by decide +kernel)
 have n4 : thenA awX 4 = 5 := by decide +kernel
 have s5 := lexAt_on (s := awX) (a := 5) (by decide +kernel) (by decide +kernel) (by decide +kernel)
 have n5 : thenA awX 5 = 6 := by decide +kernel
 have s6 := lexAt_on (s := awX) (a := 6) (by decide +kernel) (by decide +kernel) (by decide +kernel)
 have n6 : thenA awX 6 = 7 := by decide +kernel
 have s7 := lexAt_on (s := awX) (a := 7) (by decide +kernel) (by decide +kernel) (by decide +kernel)
 have n7 : thenA awX 7 = 8 := by decide +kernel
 have s8 := lexAt_end (s := awX) (a := 8) (by decide +kernel) (by decide +kernel) (by decide +kernel)
 unfold lexAll
 rw [s0, n0, s1, n1, s2, n2, s3, n3, s4, n4, s5, n5, s6, n6, s7, n7, s8]
 rfl
def awQ : Qu := ⟨[⟨[97], [98], false, [120], [], .mk 0 [] []⟩], [], [⟨1, [97], [], 0, 0, []⟩], 5, 1⟩
def awE : Ex := .mk 2 [] [.mk 4 [] [.mk 3 [] [.mk 1 [120] [], .mk 1 [121] []]], .mk 1 [122] []]
theorem kd_lst : ∀ l : List Ex, kdR l = lstR (l.map exC)
 | [] => by funext i; simp [kdR, lstR]
 | x :: r => by
  funext i
  cases i with
  | zero => cases x; simp [kdR, lstR, exC, Ex.k, Ex.s, kdX]
  | succ i => cases x; rw [kdR, kd_lst r]; simp [lstR]
theorem kd_mk (k : Int) (s : List UInt8) (l : List Ex) : kdX (.mk k s l) = .sl 3 l.length l.length (lstR (l.map exC)) := by rw [kd_eq, kd_lst]; rfl
theorem awA_ok : FnOK LaidX Tryz.prog 32 [sv awA] (.tup [quD awQ, iv 0, iv 0]) := by
 have h := pQuery_ok awA (by decide)
 obtain ⟨e1, e2, e3⟩ := lex_some (s := awA) (by decide) awA_all
 have hq : queryP awAT ⟨0, -1⟩ = .ok ⟨16, -1⟩ awQ := by kernel_rfl
 rw [readV_ok (s1 := ⟨16, -1⟩) (x := awQ) e3 (by rw [e1]; exact hq) (by rw [e1]; decide +kernel) (by decide)] at h
 exact h
theorem awB_ok : FnOK LaidX Tryz.prog 32 [sv awB] (.tup [quD qz, iv 13, iv 7]) := by
 have h := pQuery_ok awB (by decide)
 obtain ⟨e1, e2, e3⟩ := lex_none (s := awB) (by decide) awB_all
 rw [readV_no (by rw [e3]; decide), e2, e3] at h
 exact h
theorem awX_ok : FnOK LaidX Tryz.prog 34 [sv awX] (.tup [.ag [iv 2, sv [], .sl 3 2 2 (lstR [[iv 4, sv [], .sl 3 1 1 (lstR [[iv 3, sv [], .sl 3 2 2 (lstR [exC (.mk 1 [120] []), exC (.mk 1 [121] [])])]])], exC (.mk 1 [122] [])])], iv 0, iv 0]) := by
 have h := pExpr_ok awX (by decide)
 obtain ⟨e1, e2, e3⟩ := lex_some (s := awX) (by decide) awX_all
 have hq : wholeP awXT ⟨0, -1⟩ = .ok ⟨8, -1⟩ awE := by kernel_rfl
 rw [readV_ok (s1 := ⟨8, -1⟩) (x := awE) e3 (by rw [e1]; exact hq) (by rw [e1]; decide +kernel) (by decide)] at h
 have e : exD awE = .ag [iv 2, sv [], .sl 3 2 2 (lstR [[iv 4, sv [], .sl 3 1 1 (lstR [[iv 3, sv [], .sl 3 2 2 (lstR [exC (.mk 1 [120] []), exC (.mk 1 [121] [])])]])], exC (.mk 1 [122] [])])] := by
  unfold awE; simp only [exD, kd_mk, List.map, exC]; rfl
 rw [e] at h
 exact h
end Go.Proofs.YtonchjamoblioaaGreatDoor
namespace Go.Proofs.YtonchjamoblioaaGreatDoor
open Go.Kin
set_option maxRecDepth 100000
set_option maxHeartbeats 0
theorem lst_0 (a : List D) (l : List (List D)) : lstR (a :: l) 0 = a := rfl
attribute [go_sem] lst_0 awQ Qu.p Qu.c Qu.r Qu.range Qu.slide
theorem pawake_ok  : FnOK LaidX Tryz.prog 27 [] (bv true) := by
 refine FnOK_of laidX_stable Tryz.func27 Tryz.ntmps27 rfl (by as_aux_lemma => kernel_rfl) (Nat.le_of_ble_eq_true rfl) (fun R hR => ?_)
 obtain ⟨_, b, cs, T, C⟩ := R
 obtain rfl : _ = Tryz.prog := hR.p
 refine Exec.seq ?_
 refine Exec.reg te_ok ?_
 refine Exec.seq ?_
 apply Exec.regionL te_ok
 ·intro ops' Q hQ
  simp only [go_sem]
  repeat refine ob2 ?_
  refine kcall hR.inv te_ok rfl rfl rfl rfl rfl rfl (awA_ok) ?_
  simp only [go_sem]
  repeat refine ob2 ?_
  exact hQ
 refine Exec.seq ?_
 apply Exec.regionL te_ok
 ·intro ops' Q hQ
  simp only [go_sem]
  repeat refine ob2 ?_
  refine kcall hR.inv te_ok rfl rfl rfl rfl rfl rfl (awB_ok) ?_
  simp only [go_sem]
  repeat refine ob2 ?_
  exact hQ
 refine Exec.seq ?_
 apply Exec.regionL te_ok
 ·intro ops' Q hQ
  simp only [go_sem]
  repeat refine ob2 ?_
  refine kcall hR.inv te_ok rfl rfl rfl rfl rfl rfl (awX_ok) ?_
  simp only [go_sem]
  repeat refine ob2 ?_
  exact hQ
 refine Exec.seq ?_
 refine Exec.reg te_ok ?_
 refine Exec.rets hR te_ok rfl rfl rfl (LeX.le ?_) (.inr ⟨_, rfl⟩)
 simp only [go_sem]
 all_goals (try decide)
end Go.Proofs.YtonchjamoblioaaGreatDoor
namespace Go.Proofs.YtonchjamoblioaaGreatDoor
open Go.Kin
set_option maxRecDepth 100000
set_option maxHeartbeats 0
theorem ptells_ok (s : List UInt8) (hs : s.length ≤ 140737488351232) : FnOK LaidX Tryz.prog 26 [sv s] (bv true) := by
 refine FnOK_of laidX_stable Tryz.func26 Tryz.ntmps26 rfl (by as_aux_lemma => kernel_rfl) (Nat.le_of_ble_eq_true rfl) (fun R hR => ?_)
 obtain ⟨_, b, cs, T, C⟩ := R
 obtain rfl : _ = Tryz.prog := hR.p
 refine Exec.seq ?_
 refine Exec.reg te_ok ?_
 refine Exec.seq ?_
 apply Exec.regionL te_ok
 ·intro ops' Q hQ
  simp only [go_sem]
  repeat refine ob2 ?_
  refine kcall hR.inv te_ok rfl rfl rfl rfl rfl rfl (pQuery_ok s hs) ?_
  simp only [go_sem]
  repeat refine ob2 ?_
  exact hQ
 refine Exec.seq ?_
 apply Exec.regionL te_ok
 ·intro ops' Q hQ
  simp only [go_sem]
  repeat refine ob2 ?_
  refine kcall hR.inv te_ok rfl rfl rfl rfl rfl rfl (tQuery_ok s hs) ?_
  simp only [go_sem]
  repeat refine ob2 ?_
  exact hQ
 refine Exec.seq ?_
 apply Exec.regionL te_ok
 ·intro ops' Q hQ
  simp only [go_sem]
  repeat refine ob2 ?_
  refine kcall hR.inv te_ok rfl rfl rfl rfl rfl rfl (pExpr_ok s hs) ?_
  simp only [go_sem]
  repeat refine ob2 ?_
  exact hQ
 refine Exec.seq ?_
 apply Exec.regionL te_ok
 ·intro ops' Q hQ
  simp only [go_sem]
  repeat refine ob2 ?_
  refine kcall hR.inv te_ok rfl rfl rfl rfl rfl rfl (tExpr_ok s hs) ?_
  simp only [go_sem]
  repeat refine ob2 ?_
  exact hQ
 refine Exec.seq ?_
 apply Exec.regionL te_ok
 ·intro ops' Q hQ
  simp only [go_sem]
  repeat refine ob2 ?_
  refine kcallG hR.inv te_ok rfl rfl rfl rfl rfl rfl (by simp only [go_sem] <;> (first | assumption | omega | (simp only [Bool.not_eq_true', Bool.or_eq_false_iff, Bool.or_eq_true, Bool.and_eq_true, decide_eq_true_eq, decide_eq_false_iff_not, beq_iff_eq, Bool.not_eq_false']; omega) | (simp; done) | (simp; omega) | (intros; omega) | (simp_all; done) | (simp_all; omega))) (fun hq => (sameQ_ok (readV qz queryP s).1 (readV qz queryP s).1 (readQ_small s).p (readQ_small s).c (readQ_small s).r (readQ_small s).e).weak laidX_laid) ?_
  simp only [go_sem]
  repeat refine ob2 ?_
  refine kcallG hR.inv te_ok rfl rfl rfl rfl rfl rfl (by simp only [go_sem] <;> (first | assumption | omega | (simp only [Bool.not_eq_true', Bool.or_eq_false_iff, Bool.or_eq_true, Bool.and_eq_true, decide_eq_true_eq, decide_eq_false_iff_not, beq_iff_eq, Bool.not_eq_false']; omega) | (simp; done) | (simp; omega) | (intros; omega) | (simp_all; done) | (simp_all; omega))) (fun hq => (kSame_ok (readV xz wholeP s).1 (readV xz wholeP s).1 (readX_small s)).weak laidX_laid) ?_
  simp only [go_sem]
  repeat refine ob2 ?_
  exact hQ
 refine Exec.rets hR te_ok rfl rfl rfl (LeX.le ?_) (.inr ⟨_, rfl⟩)
 simp only [go_sem]
 all_goals (try simp)
end Go.Proofs.YtonchjamoblioaaGreatDoor
namespace Go.Proofs.YtonchjamoblioaaGreatDoor
open Go.Kin
set_option maxRecDepth 100000
set_option maxHeartbeats 0
theorem parseTells_ok (s : List UInt8) (hs : s.length ≤ 140737488355328) : FnOK LaidX Tryz.prog 5 [sv s] (bv true) := by
 refine FnOK_of laidX_stable Tryz.func5 Tryz.ntmps5 rfl (by as_aux_lemma => kernel_rfl) (Nat.le_of_ble_eq_true rfl) (fun R hR => ?_)
 obtain ⟨_, b, cs, T, C⟩ := R
 obtain rfl : _ = Tryz.prog := hR.p
 refine Exec.seq ?_
 refine Exec.reg te_ok ?_
 refine Exec.seq ?_
 refine Exec.seq ?_
 refine Exec.reg te_ok ?_
 refine Exec.cond_split rfl (fun h0 => ?_) (fun h0 => ?_)
 ·have h2 := of_decide_eq_true h0
  refine Exec.reg te_ok ?_
  refine Exec.seq ?_
  apply Exec.regionL te_ok
  ·intro ops' Q hQ
   simp only [go_sem]
   repeat refine ob2 ?_
   refine kcall hR.inv te_ok rfl rfl rfl rfl rfl rfl (ptells_ok (s.take 2100) (by simp; omega)) ?_
   simp only [go_sem]
   repeat refine ob2 ?_
   refine kcallG hR.inv te_ok rfl rfl rfl rfl rfl rfl (by simp only [go_sem] <;> (first | assumption | omega | (simp only [Bool.not_eq_true', Bool.or_eq_false_iff, Bool.or_eq_true, Bool.and_eq_true, decide_eq_true_eq, decide_eq_false_iff_not, beq_iff_eq, Bool.not_eq_false']; omega) | (simp; done) | (simp; omega) | (intros; omega) | (simp_all; done) | (simp_all; omega))) (fun hq => pawake_ok) ?_
   simp only [go_sem]
   repeat refine ob2 ?_
   exact hQ
  refine Exec.rets hR te_ok rfl rfl rfl (LeX.le ?_) (.inr ⟨_, rfl⟩)
  simp only [go_sem]
 ·have h2 := of_decide_eq_false h0
  refine Exec.skip ?_
  refine Exec.seq ?_
  apply Exec.regionL te_ok
  ·intro ops' Q hQ
   simp only [go_sem]
   repeat refine ob2 ?_
   refine kcall hR.inv te_ok rfl rfl rfl rfl rfl rfl (ptells_ok s (by omega)) ?_
   simp only [go_sem]
   repeat refine ob2 ?_
   refine kcallG hR.inv te_ok rfl rfl rfl rfl rfl rfl (by simp only [go_sem] <;> (first | assumption | omega | (simp only [Bool.not_eq_true', Bool.or_eq_false_iff, Bool.or_eq_true, Bool.and_eq_true, decide_eq_true_eq, decide_eq_false_iff_not, beq_iff_eq, Bool.not_eq_false']; omega) | (simp; done) | (simp; omega) | (intros; omega) | (simp_all; done) | (simp_all; omega))) (fun hq => pawake_ok) ?_
   simp only [go_sem]
   repeat refine ob2 ?_
   exact hQ
  refine Exec.rets hR te_ok rfl rfl rfl (LeX.le ?_) (.inr ⟨_, rfl⟩)
  simp only [go_sem]
end Go.Proofs.YtonchjamoblioaaGreatDoor
namespace Go.Kin
open Go.RowKit
section
variable {H : Type} {enc : TypeId × Value → H} {P : Program} {W : World} {te : TE}
/-- **A law's row, where variables are laid.** Its function answers true at data of the parameters' shapes; its arguments read as before. -/
theorem law_rowL {I : World → Prop} {X : World → Array Value → Prop} (hX : ∀ (w w' : World) (args : Array Value), w.heap = w'.heap → X w args → X w' args) (hXI : ∀ W args, X W args → I W) {C : _root_.Go.Checked} {os : Os} {f : FuncId} {fn : Func} {s : ChangeSpec} {tb : TypeId} (us : List TypeId) (hts : okAll te us = true) (hC : C.prog = P) (hte : TEok P te) (own : ownKnob P.godebug = none) (hlaid : laidOutB P = true) (started : os.Started) (noInit : P.inits.idxOf? f = none) (hfn : P.funcs[f]? = some fn)
    (witness : ∃ (w : World) (tape : Tape) (i : Input), w.os = os ∧ (w.forCall tape i).Shaped C.prog ∧ i.vars = [] ∧ Input.okWide C.prog (w.forCall tape i) .any w.heap.size f i ∧
      ((s.pre enc C.prog fn [] false (w.forCall tape i).memory i.args ∧ X (w.forCall tape i).memory i.args) ∧ sizedMet enc C.prog fn (OpenSpec.ofChange s) false (w.forCall tape i).memory i.args) ∧ ({} : Assume).holds C.prog (lone (Frame.enter C.prog f i.args .normal) [] (w.forCall tape i)))
    (hvars : s.vars = []) (hres : fn.resultTypes = #[tb]) (htb : P.underlying tb = some .bool)
    (hs : ∀ (ds : List (DataW H)), ds.length = fn.params.size → (s.fn H ds).results = [.lit (.bool true)] ∧ (s.fn H ds).args = ds ∧ (s.fn H ds).vars = [])
    (hok : (fn.params.toList.all fun t => us.contains t && P.readableRec t && decide (t < P.types.size)) = true)
    (h : ∀ xs, ArgsShp te fn.params.toList xs → FnOK I P f xs (.v (.bool true))) :
    ReturnsInHanded {} C os f .any (fun w args => (s.pre enc C.prog fn [] false w args ∧ X w args) ∧ sizedMet enc C.prog fn (OpenSpec.ofChange s) false w args) (s.post enc C.prog fn false true false false) := by
  subst hC
  refine returnsInHanded_of_change_and (X := X) hX own started noInit hfn witness ?_
  intro W base args ds gs before hval hW _ hwt hXW _
  have hW' := hW
  obtain ⟨p, q, hA, hV, rfl, hfz, hnd⟩ := hW
  rw [hvars] at hV
  have hgs : gs = [] ∧ q = [] := by
    cases gs with
    | nil => exact ⟨rfl, hV⟩
    | cons g gs => exact hV.elim
  obtain ⟨rfl, rfl⟩ := hgs
  have hall : ∀ t ∈ fn.params.toList, us.contains t = true ∧ C.prog.readableRec t = true ∧ t < C.prog.types.size := fun t ht => by
    have := List.all_eq_true.1 hok t ht
    simpa [and_assoc] using this
  have hwt' : ∀ x ∈ DataW.weightsEach C.prog fn.params.toList ds, x ≤ reachBytes := fun x hx => by
    have hv0 : s.plain.varTypes C.prog = [] := by simp [DataSpec.varTypes, ChangeSpec.plain, hvars]
    rw [hv0, List.append_nil, List.append_nil] at hwt
    simpa using List.all_eq_true.1 hwt x hx
  obtain ⟨xs, hx1, hx2⟩ := args_rd hte hts (fun t ht => (hall t ht).1) (fun j t v h1 h2 => hval j t v (by simpa using h1) (by simpa using h2)) hA hwt'
  have hc := (h xs hx1).2 W (fun b => b < W.heap.size) args.toList (hXI _ _ hXW) (fun b hb => hb) hx2
  rw [Array.toArray_toList] at hc
  refine Calls.mono hc fun e W' he => ?_
  obtain ⟨v, Z', rfl, hb, _, hv⟩ := he
  simp only [RdV] at hv
  subst hv
  have hlen : ds.length = fn.params.size := by
    have : ∀ {ts : List TypeId} {vs : List Value} {ds : List (DataW H)} {ps : List MemPlace}, DataW.TrodAll enc C.prog W 0 (fun _ => true) true ts vs ds ps → ds.length = ts.length := by
      intro ts
      induction ts with
      | nil => intro vs ds ps h; cases vs <;> cases ds <;> first | rfl | exact h.elim
      | cons t ts ih =>
        intro vs ds ps h
        cases vs with
        | nil => exact h.elim
        | cons v vs => cases ds with
          | nil => exact h.elim
          | cons d ds => obtain ⟨_, _, _, h2, _⟩ := h; simp [ih h2]
    simpa using this hA
  obtain ⟨e1, e2, e3⟩ := hs ds hlen
  refine ⟨.bool true, rfl, post_of_below (pa := p) (pv := []) hW' (fun b sp hd => ?_) (fun sp hsp => ?_) (fun sp _ => ?_) rfl hb ?_⟩
  · rw [List.append_nil, e1, hres]
    exact ⟨[], [], ⟨1, by simp [DataW.trod, htb, Value.cells]⟩, rfl, rfl⟩
  · rw [List.append_nil, e2]
    exact trodAll_stays hlaid (fun t ht => (hall t ht).2) hA (fun x hx => hb.same (hW'.lt x (by simpa using hx))) (fun x hx => hsp x (by simpa using hx))
  · rw [List.append_nil, e3, hvars]; rfl
  · intro j t r hj hr
    rw [hres] at hj hr
    match j, hj, hr with
    | 0, hj, hr =>
      simp [Value.resultList] at hj hr
      subst hj; subst hr
      simp [Value.okWide, Cell.okWide, Cell.ok, htb]
end
end Go.Kin
namespace Go.Proofs.YtonchjamoblioaaGreatDoor
open Go.Kin
set_option maxRecDepth 100000
theorem own_ok : ownKnob Tryz.prog.godebug = none := by kernel_rfl
theorem laid_ok : laidOutB Tryz.prog = true := by kernel_rfl
def tysX : List TypeId := [3, 4, 9]
theorem tysX_ok : okAll te tysX = true := by kernel_rfl
theorem shp_str {x : D} (h : ArgShp te 9 x) : ∃ s, x = sv s ∧ s.length ≤ 140737488355328 := by
 obtain ⟨m, ds, h1, h2⟩ := h
 cases m with
 | zero => exact h1.elim
 | succ m =>
  simp only [Shp, te_9] at h1
  obtain ⟨s, rfl, h3⟩ := h1
  simp [aggT, te_9, aggD] at h2
  exact ⟨s, h2.symm, by unfold reachBytes at h3; omega⟩
/-! ### what the rows lay -/
def laidX : List (String × DataW Unit) := Rows.parseTellsRow.laid
theorem gPow : Tryz.prog.globalNamed powName = some 0 := by kernel_rfl
theorem gSpc : Tryz.prog.globalNamed "strings.asciiSpace" = some 1 := by kernel_rfl
theorem gSyn : Tryz.prog.globalNamed "strconv.ErrSyntax" = some 6 := by kernel_rfl
theorem gRng : Tryz.prog.globalNamed "strconv.ErrRange" = some 7 := by kernel_rfl
theorem tPow : (Tryz.prog.globals[0]?).map (·.type) = some 206 := by kernel_rfl
theorem tSpc : (Tryz.prog.globals[1]?).map (·.type) = some 216 := by kernel_rfl
theorem tSyn : (Tryz.prog.globals[6]?).map (·.type) = some 186 := by kernel_rfl
theorem tRng : (Tryz.prog.globals[7]?).map (·.type) = some 186 := by kernel_rfl
theorem cells258 : Tryz.prog.cellsOf 258 = 1 := by kernel_rfl
theorem cells9 : Tryz.prog.cellsOf 9 = 1 := by kernel_rfl
/-- the name of the type of the library's errors -/
def errName : String := match (Rows.laid_strconv_ErrSyntax : DataW Unit) with
 | .iface n _ => n
 | _ => default
theorem row256 (u : TypeId) (h : Tryz.prog.typeName? 3 u = some errName) : u = 256 :=
 typeName_ptr_named (nm := "errors.errorString") (by kernel_rfl) (by kernel_rfl) (by decide) u (h.trans (congrArg some (by decide)))
theorem laidX_met {W : World} (h : laidMetH Tryz.prog laidX W) : LaidX W := by
 rw [MakeChecks.laidMetH_plain _ _ _ (by kernel_rfl)] at h
 have h3 := h.tail.tail
 obtain ⟨a1, s1, hv1, -, -, -⟩ := laid_sentinel h3.tail gRng tRng Tryz.underlying186 row256 Tryz.underlying256 Tryz.underlying258 rfl rfl Tryz.underlying9 cells258 cells9
 obtain ⟨a0, s0, hv0, -, -, -⟩ := laid_sentinel h3.tail.tail gSyn tSyn Tryz.underlying186 row256 Tryz.underlying256 Tryz.underlying258 rfl rfl Tryz.underlying9 cells258 cells9
 have h6 : laidMet Tryz.prog [("strings.asciiSpace", Lib.tabData .u8 Lib.asciiSpaceTab)] W := by
  have := h3.tail.tail.tail.tail
  exact this
 exact ⟨⟨Lib.tabIs_of_head gPow tPow Tryz.underlying206 Tryz.underlying191 (by kernel_rfl) (by kernel_rfl) h3⟩, ⟨_, _, hv0⟩, ⟨_, _, hv1⟩,
  Lib.tabIs_of_head gSpc tSpc Tryz.underlying216 Tryz.underlying5 (by kernel_rfl) (by kernel_rfl) h6⟩
theorem doorX (os : Os) (args : Array Value) : laidMetH Tryz.prog laidX ((World.doorLaid Tryz.prog 200 os).forCall (fun _ _ => 0) ⟨#[], args, []⟩).memory :=
 laidMetH_of_parts3 (fuel := 8) (laidMet_of_run' 8 (by kernel_rfl) (by kernel_rfl)) (by kernel_rfl) (by kernel_rfl)
end Go.Proofs.YtonchjamoblioaaGreatDoor
