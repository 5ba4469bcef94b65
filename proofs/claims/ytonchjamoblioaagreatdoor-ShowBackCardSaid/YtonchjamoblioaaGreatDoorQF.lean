/- Steps of a function body on data, and contracts of the functions of the seat, walked. -/
import Derived.Test.YtonchjamoblioaaGreatDoorZShX
import Derived.Test.YtonchjamoblioaaGreatDoorQL2
import Derived.Test.YtonchjamoblioaaGreatDoorZ10
import Derived.Test.YtonchjamoblioaaGreatDoorPDef
import Derived.Test.YtonchjamoblioaaGreatDoorKOb
set_option linter.unusedSimpArgs false
set_option linter.unusedVariables false
set_option linter.unusedSectionVars false
namespace Go.Proofs.YtonchjamoblioaaGreatDoor
open Go.Kin Go.Lib
/-! ### what is shown, as tokens: lexed, they are these -/
def gG (g : Bool) : List UInt8 := if g = true then [32] else []
def flat : List Pc → List UInt8
 | [] => []
 | p :: r => gG p.1 ++ (p.2.t ++ flat r)
theorem flat_app : ∀ a b : List Pc, flat (a ++ b) = flat a ++ flat b
 | [], _ => rfl
 | p :: a, b => by simp [flat, flat_app a b]
def toksP (a : Nat) : List Pc → List Tk
 | [] => [⟨5, [], a, v0⟩]
 | p :: r => p.2.at' (a + (gG p.1).length : Nat) :: toksP (a + (gG p.1).length + p.2.t.length) r
def Fits (t : Tk) (R : List UInt8) : Prop := t.k ≠ 5 ∧ firstT (t.t ++ R) = t.at' 0 ∧ firstB (t.t ++ R) = true ∧ spanN blankI (t.t ++ R) = 0
def LexOk : List Pc → List UInt8 → Prop
 | [], _ => True
 | p :: r, R => Fits p.2 (flat r ++ R) ∧ LexOk r R
theorem LexOk_app : ∀ (a b : List Pc) (R : List UInt8), LexOk (a ++ b) R ↔ LexOk a (flat b ++ R) ∧ LexOk b R
 | [], _, _ => by simp [LexOk]
 | p :: a, b, R => by simp only [List.cons_append, LexOk, LexOk_app a b R, flat_app, List.append_assoc, and_assoc]
theorem toks_len : ∀ (l : List Pc) (a : Nat), (toksP a l).length = l.length + 1
 | [], _ => rfl
 | p :: r, a => by simp [toksP, toks_len r]
theorem lex_flat : ∀ (l : List Pc) (a f : Nat), LexOk l [] → l.length < f → lexR f a (flat l) = (toksP a l, none)
 | [], a, f, _, hf => by
  obtain ⟨f, rfl⟩ : ∃ q, f = q + 1 := ⟨f - 1, by simp at hf; omega⟩
  have := lexR_last (f := f) (a := a) (g := []) rfl
  exact this
 | p :: r, a, f, h, hf => by
  obtain ⟨f, rfl⟩ : ∃ q, f = q + 1 := ⟨f - 1, by simp at hf; omega⟩
  obtain ⟨⟨h1, h2, h3, h4⟩, hr⟩ := h
  rw [List.append_nil] at h2 h3 h4
  have ih := lex_flat r (a + (gG p.1).length + p.2.t.length) f hr (by simpa using hf)
  have st := lexR_step (f := f) (a := a) (g := gG p.1) (R := flat r) (t := p.2) (by unfold gG; split; rfl; rfl) h4 h1 h2 h3
  rw [ih] at st
  exact st
theorem at_toks : ∀ (l : List Pc) (pre : List Tk) (a : Nat), At (pre ++ toksP a l) pre.length l
 | [], _, _ => trivial
 | p :: r, pre, a => by
  have e : nth (pre ++ toksP a (p :: r)) pre.length = p.2.at' (a + (gG p.1).length : Nat) := nth_of (by rw [List.getElem?_append_right (Nat.le_refl _), Nat.sub_self]; rfl)
  refine ⟨by rw [e]; exact ⟨rfl, rfl, rfl⟩, ?_⟩
  have := at_toks r (pre ++ [p.2.at' (a + (gG p.1).length : Nat)]) (a + (gG p.1).length + p.2.t.length)
  simpa [toksP] using this
theorem last_toks : ∀ (l : List Pc) (a : Nat), (nth (toksP a l) l.length).k = 5
 | [], _ => rfl
 | p :: r, a => last_toks r _
/-! tokens, each before what stands behind it -/
def Soft (R : List UInt8) : Prop := ∀ c r, R = c :: r → signI c.toNat = false
theorem soft_nil : Soft [] := fun c r h => by cases h
theorem soft_cons {c : UInt8} {R : List UInt8} (h : signI c.toNat = false) : Soft (c :: R) := fun d r e => by cases e; exact h
theorem span_soft {p : Int → Bool} (hp : ∀ n, p n = true → signI n = true) {R : List UInt8} (h : Soft R) : ∀ x : List UInt8, spanN p (x ++ R) = spanN p x := by
 cases R with
 | nil => intro x; rw [List.append_nil]
 | cons c r =>
  intro x
  refine spanN_stop ?_ _ x
  cases hc : p c.toNat with
  | false => rfl
  | true => have := hp _ hc; rw [h c r rfl] at this; cases this
theorem span_whole {p : Int → Bool} {w : List UInt8} (h : w.all (fun c => p c.toNat) = true) : spanN p w = w.length := by
 have := spanN_full (p := p) [] w h
 simpa [spanN] using this
theorem letter_noblank {n : Int} (h : letterI n = true) : blankI n = false := by
 unfold letterI at h; simp only [Bool.and_eq_true, decide_eq_true_eq] at h
 unfold blankI; simp; omega
theorem word_fits {w : List UInt8} (hv : vertexB w = true) (hl : letterI (w.getD 0 0).toNat = true) {R : List UInt8} (hR : Soft R) : Fits (wd w) R := by
 have h0 : 0 < w.length := vertex_pos hv
 obtain ⟨c, r, rfl⟩ : ∃ c r, w = c :: r := by cases w with | nil => simp at h0 | cons c r => exact ⟨c, r, rfl⟩
 have hall : (c :: r).all (fun c => signI c.toNat) = true := by unfold vertexB at hv; rw [Bool.and_eq_true] at hv; exact hv.1
 have e1 : wordN (c :: r ++ R) = c :: r := by
  unfold wordN
  rw [span_soft (fun n h => h) hR, span_whole hall]; exact List.take_left
 have hg : (c :: r ++ R).getD 0 0 = c := rfl
 have hl' : letterI c.toNat = true := hl
 refine ⟨by simp [wd], ?_, ?_, ?_⟩
 ·show firstT (c :: r ++ R) = _
  unfold firstT
  rw [if_neg (by simp), hg, if_pos hl', e1]; rfl
 ·show firstB (c :: r ++ R) = _
  unfold firstB
  rw [if_neg (by simp), hg, if_pos hl', e1]; exact hv
 ·show spanN blankI (c :: (r ++ R)) = 0
  simp only [spanN]; rw [if_neg (by rw [letter_noblank hl']; decide)]
theorem free_fits {w : List UInt8} (h : freeB w = true) {R : List UInt8} (hR : Soft R) : Fits (wd w) R := by
 unfold freeB at h; simp only [Bool.and_eq_true] at h
 exact word_fits h.1 h.2.1 hR
/-- signs that begin no other -/
def closedS : List (List UInt8) := [[40], [41], [44], [46], [124], [42], [43], [63], [45, 91], [93, 45, 62], [61, 91], [93, 61, 62]]
theorem closed_only : ∀ w ∈ closedS, w ∈ signsF ∧ ∀ q ∈ signsF, w.isPrefixOf q = true → q = w := by decide
theorem closed_head : ∀ w ∈ closedS, letterI ((w.getD 0 0).toNat : Int) = false ∧ digitI ((w.getD 0 0).toNat : Int) = false ∧ blankI ((w.getD 0 0).toNat : Int) = false ∧ (((w.getD 0 0).toNat : Int) == 34) = false ∧ ((((w.getD 0 0).toNat : Int) == 45) = false ∨ w = [45, 91]) := by decide
theorem closed_best {w : List UInt8} (h : w ∈ closedS) (R : List UInt8) : bestSign (w ++ R) = w := by
 obtain ⟨h1, h2⟩ := closed_only w h
 refine isBest_unique (best_isBest _) (.inr ⟨h1, pre_iff.2 (List.prefix_append _ _), fun q hq hp => ?_⟩)
 have hp := pre_iff.1 hp
 rcases Nat.lt_or_ge w.length q.length with hl | hl
 ·have : w <+: q := List.prefix_of_prefix_length_le (List.prefix_append w R) hp (by omega)
  rw [h2 q hq (List.isPrefixOf_iff_prefix.2 this)]; exact Nat.le_refl _
 ·exact hl
theorem sign_fits {w : List UInt8} (h : w ∈ closedS) (R : List UInt8) : Fits (sg w) R := by
 obtain ⟨a1, a2, a3, a4, a5⟩ := closed_head w h
 have hb := closed_best h R
 have hne : 0 < w.length := signs_ne w (closed_only w h).1
 obtain ⟨c, r, rfl⟩ : ∃ c r, w = c :: r := by cases w with | nil => simp at hne | cons c r => exact ⟨c, r, rfl⟩
 have hg : (c :: r ++ R).getD 0 0 = c := rfl
 simp only [List.getD_cons_zero] at a1 a2 a3 a4 a5
 have h3 : ¬ ((((c.toNat : Int) == 45) && decide (0 < (spanN digitI ((c :: r ++ R).drop 1) : Int))) = true) := by
  rcases a5 with h | h
  ·rw [h]; simp
  ·cases h
   have : spanN digitI (([45, 91] ++ R).drop 1) = 0 := rfl
   rw [this]; simp
 refine ⟨by simp [sg], ?_, ?_, ?_⟩
 ·show firstT (c :: r ++ R) = _
  unfold firstT
  rw [if_neg (by simp), hg, if_neg (by rw [a1]; decide), if_neg (by rw [a2]; decide), if_neg h3, if_neg (by rw [a4]; decide), hb]; rfl
 ·show firstB (c :: r ++ R) = _
  unfold firstB
  rw [if_neg (by simp), hg, if_neg (by rw [a1]; decide), if_neg (by rw [a2]; decide), if_neg h3, if_neg (by rw [a4]; decide), hb]; rfl
 ·show spanN blankI (c :: (r ++ R)) = 0
  simp only [spanN]; rw [if_neg (by rw [a3]; decide)]
/-- signs of a comparison, behind which a blank stands -/
theorem cmp_fits (k : Int) (hk : 1 ≤ k ∧ k ≤ 6) (R : List UInt8) : Fits (sg (opS k)) (32 :: R) := by
 have : k = 1 ∨ k = 2 ∨ k = 3 ∨ k = 4 ∨ k = 5 ∨ k = 6 := by omega
 have key : ∀ w : List UInt8, firstB w = true → firstT w = ⟨4, w, 0, v0⟩ → spanN blankI w = 0 → 0 < w.length → Fits (sg w) (32 :: R) := fun w h1 h2 h3 h4 => by
  have := first_app (x := w) (y := R) (d := 32) (by decide) h1 (by rw [h2]; simp)
  exact ⟨by simp [sg], by show firstT (w ++ 32 :: R) = _; rw [this.1, h2]; rfl, this.2, span_head h3 h4⟩
 rcases this with rfl | rfl | rfl | rfl | rfl | rfl <;> exact key _ (by decide) (by decide) (by decide) (by decide)
end Go.Proofs.YtonchjamoblioaaGreatDoor
namespace Go.Proofs.YtonchjamoblioaaGreatDoor
open Go.Kin
set_option maxRecDepth 100000
set_option maxHeartbeats 0
def accS (b hd sep : List UInt8) (l : List (List UInt8)) (i : Nat) : List UInt8 := b ++ (if i = 0 then [] else hd ++ Lib.join (l.take i) sep)
theorem sumL_le {M c : Nat} : ∀ {l : List (List UInt8)}, (∀ x ∈ l, x.length ≤ M) → sumL c l ≤ (M + c) * l.length
 | [], _ => by simp [sumL]
 | x :: r, h => by
  have h1 := sumL_le (c := c) fun y hy => h y (List.mem_cons_of_mem _ hy)
  have h2 := h x List.mem_cons_self
  simp only [sumL, List.length_cons, Nat.mul_add, Nat.mul_one]; omega
theorem accS_all {b hd sep : List UInt8} {l : List (List UInt8)} {i : Nat} (h : l.length ≤ i) : accS b hd sep l i = b ++ (if i = 0 then [] else hd ++ Lib.join l sep) := by
 unfold accS; rw [List.take_of_length_le h]
/-! #### the text of a query -/
def txP (q : Qu) : List UInt8 := accS [109, 97, 116, 99, 104, 32] [] [44, 32] (q.p.map ptT) q.p.length
def txC (q : Qu) : List UInt8 := accS (txP q) [32, 119, 104, 101, 114, 101, 32] [32, 97, 110, 100, 32] (q.c.map cdT) q.c.length
def txR (q : Qu) : List UInt8 := accS (txC q ++ [32, 114, 101, 116, 117, 114, 110, 32]) [] [44, 32] (q.r.map opT) q.r.length
def quT (q : Qu) : List UInt8 := txR q ++ [32, 114, 97, 110, 103, 101, 32] ++ Lib.itoa q.range ++ [32, 115, 108, 105, 100, 101, 32] ++ Lib.itoa q.slide
noncomputable def quS (q : Qu) : List UInt8 := if quR q = true then (if 2000 < (quT q).length then [] else quT q) else []
noncomputable def quE (q : Qu) : Int := if quR q = true then (if 2000 < (quT q).length then 3 else 0) else 2
structure QuF (q : Qu) : Prop where
 p : ∀ p ∈ q.p, ptR p = true
 c : ∀ c ∈ q.c, cdR c = true
 r : ∀ o ∈ q.r, opR o = true
 lp : 1 ≤ q.p.length ∧ q.p.length ≤ 4
 lc : q.c.length ≤ 6
 lr : 1 ≤ q.r.length ∧ q.r.length ≤ 4
 ra : 1 ≤ q.range ∧ q.range ≤ 1048576
 sl : 1 ≤ q.slide ∧ q.slide ≤ 1048576
theorem qu_f {q : Qu} (h : quR q = true) : QuF q := by
 unfold quR at h
 simp only [Bool.and_eq_true, decide_eq_true_eq, List.all_eq_true] at h
 obtain ⟨h1, h2, h3, h4, h5, h6, h7, h8⟩ := h
 exact ⟨h6, h7, fun o ho => (h8 o ho).2, h1, h2, h3, h4, h5⟩
theorem sum_p {q : Qu} (h : QuF q) : sumL 2 (q.p.map ptT) ≤ 4008 := by
 have h1 := sumL_le (M := 1000) (c := 2) (l := q.p.map ptT) fun x hx => by
  obtain ⟨p, hp, rfl⟩ := List.mem_map.1 hx; exact ptT_len (h.p p hp)
 rw [List.length_map] at h1
 have := h.lp; omega
theorem sum_c {q : Qu} (h : QuF q) : sumL 5 (q.c.map cdT) ≤ 1830 := by
 have h1 := sumL_le (M := 300) (c := 5) (l := q.c.map cdT) fun x hx => by
  obtain ⟨p, hp, rfl⟩ := List.mem_map.1 hx; exact cdT_len (h.c p hp)
 rw [List.length_map] at h1
 have := h.lc; omega
theorem sum_r {q : Qu} (h : QuF q) : sumL 2 (q.r.map opT) ≤ 408 := by
 have h1 := sumL_le (M := 100) (c := 2) (l := q.r.map opT) fun x hx => by
  obtain ⟨p, hp, rfl⟩ := List.mem_map.1 hx; exact opT_len (h.r p hp)
 rw [List.length_map] at h1
 have := h.lr; omega
end Go.Proofs.YtonchjamoblioaaGreatDoor
namespace Go.Proofs.YtonchjamoblioaaGreatDoor
open Go.Kin
set_option maxRecDepth 100000
set_option maxHeartbeats 0
def pc1 (q : Qu) : List UInt8 := [109, 97, 116, 99, 104, 32] ++ Lib.join (q.p.map ptT) [44, 32]
def pc2 (q : Qu) : List UInt8 := if 0 < q.c.length then [32, 119, 104, 101, 114, 101, 32] ++ Lib.join (q.c.map cdT) [32, 97, 110, 100, 32] else []
def pc3 (q : Qu) : List UInt8 := [32, 114, 101, 116, 117, 114, 110, 32] ++ Lib.join (q.r.map opT) [44, 32]
def pc4 (q : Qu) : List UInt8 := [32, 114, 97, 110, 103, 101, 32] ++ Lib.itoa q.range ++ [32, 115, 108, 105, 100, 101, 32] ++ Lib.itoa q.slide
def pcs (q : Qu) : List (List UInt8) := [pc1 q, pc2 q, pc3 q, pc4 q]
def acT (q : Qu) (i : Nat) : List UInt8 := ((pcs q).take i).flatten
theorem acT_s (q : Qu) {i : Nat} (h : i < 4) : acT q (i + 1) = acT q i ++ nth (pcs q) i := by
 unfold acT; rw [take_succ_nth (show i < (pcs q).length from h)]; simp
theorem quT_pcs {q : Qu} (h : QuF q) : acT q 4 = quT q := by
 have h1 : txP q = pc1 q := by
  unfold txP pc1; rw [accS_all (by simp), if_neg (by have := h.lp; omega)]; simp
 have h2 : txC q = pc1 q ++ pc2 q := by
  unfold txC pc2; rw [accS_all (by simp), h1]
  by_cases hc : q.c.length = 0
  ·rw [if_pos hc, if_neg (by omega)]
  ·rw [if_neg hc, if_pos (by omega)]
 have h3 : txR q = pc1 q ++ pc2 q ++ pc3 q := by
  unfold txR pc3; rw [accS_all (by simp), if_neg (by have := h.lr; omega), h2]; simp
 unfold quT acT pcs
 rw [h3]; simp [pc4]
theorem acT_le (q : Qu) {i : Nat} (h : i ≤ 4) : (acT q i).length ≤ (acT q 4).length := by
 have e : acT q 4 = acT q i ++ ((pcs q).drop i).flatten := by
  unfold acT
  rw [← List.flatten_append, List.take_append_drop]
  rfl
 rw [e, List.length_append]; omega
theorem pc_len {q : Qu} (h : QuF q) : (pc1 q).length ≤ 5000 ∧ (pc2 q).length ≤ 5000 ∧ (pc3 q).length ≤ 5000 ∧ (pc4 q).length ≤ 100 := by
 have s1 := sum_p h
 have s2 := sum_c h
 have s3 := sum_r h
 have j1 := join_len (q.p.map ptT) [44, 32]
 have j2 := join_len (q.c.map cdT) [32, 97, 110, 100, 32]
 have j3 := join_len (q.r.map opT) [44, 32]
 have i1 := Lib.itoa_length_le q.range (by have := h.ra; omega) (by have := h.ra; omega)
 have i2 := Lib.itoa_length_le q.slide (by have := h.sl; omega) (by have := h.sl; omega)
 have e2 : ([44, 32] : List UInt8).length = 2 := rfl
 have e5 : ([32, 97, 110, 100, 32] : List UInt8).length = 5 := rfl
 rw [e2] at j1 j3; rw [e5] at j2
 refine ⟨by unfold pc1; simp; omega, ?_, by unfold pc3; simp; omega, by unfold pc4; simp; omega⟩
 unfold pc2; split <;> simp <;> omega
theorem ix4 (q : Qu) {i : Nat} (h : i < 4) : ([D.v (.string (mkS (pc1 q))), D.v (.string (mkS (pc2 q))), D.v (.string (mkS (pc3 q))), D.v (.string (mkS (pc4 q)))] : List D)[i]? = some (D.v (.string (mkS (nth (pcs q) i)))) := by
 rcases (show i = 0 ∨ i = 1 ∨ i = 2 ∨ i = 3 by omega) with rfl | rfl | rfl | rfl <;> rfl
theorem nth_pc {q : Qu} (h : QuF q) {i : Nat} (hi : i < 4) : (nth (pcs q) i).length ≤ 5000 := by
 have := pc_len h
 rcases (show i = 0 ∨ i = 1 ∨ i = 2 ∨ i = 3 by omega) with rfl | rfl | rfl | rfl
 ·exact this.1
 ·exact this.2.1
 ·exact this.2.2.1
 ·exact Nat.le_trans this.2.2.2 (by omega)
theorem pieces_ok (q : Qu) : FnOK Laid Tryz.prog 42 [quD q] (.fn 83 [.ptr [ptsD q.p, cdsD q.c, opsD q.r, iv q.range, iv q.slide]]) := by
 refine FnOK_of laid_stable Tryz.func42 Tryz.ntmps42 rfl (by as_aux_lemma => kernel_rfl) (Nat.le_of_ble_eq_true rfl) (fun R hR => ?_)
 obtain ⟨_, b, cs, T, C⟩ := R
 obtain rfl : _ = Tryz.prog := hR.p
 refine sreg te_ok ?_
 refine sq ?_
 refine Exec.freezeB 1 rfl rfl rfl ?_
 apply Exec.norm
 ·simp only [go_sem]
  rfl
 refine Exec.reg te_ok ?_
 refine Exec.rets hR te_ok rfl rfl rfl (LeX.le ?_) (.inr ⟨_, rfl⟩)
 simp only [go_sem]
theorem xquery_ok (q : Qu) (hfq : FitQ q) : FnOK Laid Tryz.prog 16 [quD q] (.tup [sv (quS q), iv (quE q)]) := by
 refine FnOK_of laid_stable Tryz.func16 Tryz.ntmps16 rfl (by as_aux_lemma => kernel_rfl) (Nat.le_of_ble_eq_true rfl) (fun R hR => ?_)
 obtain ⟨_, b, cs, T, C⟩ := R
 obtain rfl : _ = Tryz.prog := hR.p
 refine sreg te_ok ?_
 refine Exec.scope ?_
 refine sq ?_
 refine sq ?_
 apply Exec.regionL te_ok
 ·intro u' Q hQ
  simp only [go_sem]
  repeat refine ob2 ?_
  refine kcall hR.inv te_ok rfl rfl rfl rfl rfl rfl (xtree_ok q hfq) ?_
  simp only [go_sem]
  repeat refine ob2 ?_
  exact hQ
 refine Exec.cond_split rfl (fun h0 => ?_) (fun h0 => ?_)
 ·refine sreg te_ok ?_
  refine Exec.rets hR te_ok rfl rfl rfl (LeX.le ?_) (.inr ⟨_, rfl⟩)
  simp only [go_sem]
  have : quR q = false := by simpa using h0
  simp [quS, quE, this]
 ·have hr : quR q = true := by simpa using h0
  have hf := qu_f hr
  have fl1 := hf.lp
  have fl2 := hf.lc
  have fl3 := hf.lr
  have fi1 := hf.ra
  have fi2 := hf.sl
  have il1 := Lib.itoa_length_le q.range (by omega) (by omega)
  have il2 := Lib.itoa_length_le q.slide (by omega) (by omega)
  have s1 := sum_p hf
  have s2 := sum_c hf
  have s3 := sum_r hf
  have j1 : (Lib.join (q.p.map ptT) [44, 32]).length ≤ _ := join_len (q.p.map ptT) [44, 32]
  have j2 : (Lib.join (q.c.map cdT) [32, 97, 110, 100, 32]).length ≤ _ := join_len (q.c.map cdT) [32, 97, 110, 100, 32]
  have j3 : (Lib.join (q.r.map opT) [44, 32]).length ≤ _ := join_len (q.r.map opT) [44, 32]
  rw [show ([44, 32] : List UInt8).length = 2 from rfl] at j1 j3
  rw [show ([32, 97, 110, 100, 32] : List UInt8).length = 5 from rfl] at j2
  refine sk ?_
  refine sreg te_ok ?_
  refine sq ?_
  refine Exec.label ?_
  refine sq ?_
  refine sq ?_
  apply Exec.regionL te_ok
  ·intro u' Q hQ
   simp only [go_sem]
   repeat refine ob2 ?_
   refine kcall hR.inv te_ok rfl rfl rfl rfl rfl rfl (pieces_ok q) ?_
   simp only [go_sem]
   repeat refine ob2 ?_
   exact hQ
  refine Exec.block ?_
  refine Exec.range 1 hR.round hR.bfn rfl rfl Tryz.func83 Tryz.ntmps83 rfl (by as_aux_lemma => kernel_rfl) (Nat.le_of_ble_eq_true rfl) (fun a0 l0 r0 lo0 hlo0 hN0 hD0 hfr0 hfl0 => ?_)
  apply Exec.norm
  ·simp only [go_sem]
   rfl
  refine sreg te_ok ?_
  refine sq ?_
  refine sreg te_ok ?_
  refine Exec.cond_split rfl (fun h1 => ?_) (fun h1 => ?_)
  ·apply Exec.regionL te_ok
   ·intro u' Q hQ
    simp only [go_sem]
    repeat refine ob2 ?_
    refine kcall hR.inv te_ok rfl rfl rfl rfl rfl rfl (joinedC_ok q.c [32, 97, 110, 100, 32] cdT (by omega) (by omega) (fun c hc => xcondT_ok c (hfq.ca c hc) (hf.c c hc))) ?_
    simp only [go_sem]
    repeat refine ob2 ?_
    exact hQ
   refine sq ?_
   apply Exec.draw (st := _) 11 10 [] [] te_ok (by as_aux_lemma => kernel_rfl) (by as_aux_lemma => kernel_rfl) (by as_aux_lemma => kernel_rfl)
   ·intro u' Q hQ
    simp only [go_sem]
    repeat refine ob2 ?_
    refine kdcall hR.inv te_ok rfl rfl rfl rfl rfl rfl (itoa_ok q.range (by constructor <;> omega)) ?_
    simp only [go_sem]
    repeat refine ob2 ?_
    refine kdcall hR.inv te_ok rfl rfl rfl rfl rfl rfl (itoa_ok q.slide (by constructor <;> omega)) ?_
    simp only [go_sem]
    repeat refine ob2 ?_
    exact hQ
   refine sq ?_
   apply Exec.draw (st := _) 14 12 [5] [] te_ok (by as_aux_lemma => kernel_rfl) (by as_aux_lemma => kernel_rfl) (by as_aux_lemma => kernel_rfl)
   ·intro u' Q hQ
    simp only [go_sem]
    repeat refine ob2 ?_
    refine kdcall hR.inv te_ok rfl rfl rfl rfl rfl rfl (joinedP_ok q.p [44, 32] ptT (by omega) (by omega) (fun p hp => xptT_ok p (hf.p p hp))) ?_
    simp only [go_sem]
    repeat refine ob2 ?_
    refine kdcall hR.inv te_ok rfl rfl rfl rfl rfl rfl (joinedO_ok q.r [44, 32] opT (by omega) (by omega) (fun o ho => xopT_ok o (hfq.ra o ho))) ?_
    simp only [go_sem]
    repeat refine ob2 ?_
    exact hQ
   refine sreg te_ok ?_
   refine Exec.block ?_
   apply Exec.loopU [0, 36] (X := Nat) (fun i => [(37, .d (iv i))]) (fun i => [(1004, 9, [.d (sv (acT q i))])]) (fun i => []) (fun i => 4 - i) (fun i => i ≤ 4 ∧ (acT q i).length ≤ 2000) 0
   case h0 =>
    exact ⟨by omega, by simp [acT]⟩
   case hw =>
    simp only [go_sem]; rfl
   case body =>
    rintro i hx ih0
    try simp only at hx
    apply Exec.norm
    ·simp only [go_sem]
     rfl
    refine sreg te_ok ?_
    refine sq ?_
    refine Exec.cond_split rfl (fun h2 => ?_) (fun h2 => ?_)
    ·have hi : i < 4 := by have := of_decide_eq_true h2; omega
     have hix : ([D.v (.string (mkS (109 :: 97 :: 116 :: 99 :: 104 :: 32 :: Lib.join (List.map ptT q.p) [44, 32]))), D.v (.string (mkS (32 :: 119 :: 104 :: 101 :: 114 :: 101 :: 32 :: Lib.join (List.map cdT q.c) [32, 97, 110, 100, 32]))), D.v (.string (mkS (32 :: 114 :: 101 :: 116 :: 117 :: 114 :: 110 :: 32 :: Lib.join (List.map opT q.r) [44, 32]))), D.v (.string (mkS (32 :: 114 :: 97 :: 110 :: 103 :: 101 :: 32 :: (Lib.itoa q.range ++ [32, 115, 108, 105, 100, 101, 32] ++ Lib.itoa q.slide))))] : List D)[i]? = some (D.v (.string (mkS (nth (pcs q) i)))) := by have hx4 := ix4 q hi; unfold pc2 at hx4; rw [if_pos (by have := of_decide_eq_true h1; omega)] at hx4; exact hx4
     have has : acT q i ++ nth (pcs q) i = acT q (i + 1) := (acT_s q hi).symm
     have hnl := nth_pc hf hi
     have w2 : IntKind.i64.wrap ((i : Int) + 1) = ((i + 1 : Nat) : Int) := by rw [wrap_id (by omega)]; omega
     refine sk ?_
     refine sq ?_
     refine Exec.block ?_
     refine sq ?_
     apply Exec.regionL te_ok
     ·intro u' Q hQ
      simp only [go_sem, hix, has, w2, Int.toNat_natCast]
      repeat refine ob2 ?_
      exact hQ
     refine sq ?_
     refine Exec.regStart 4 rfl ?_
     apply Exec.regPart 0 2 2 te_ok rfl
     ·intro u' Q hQ
      simp only [go_sem, hix, has, w2, Int.toNat_natCast]
      repeat refine ob2 ?_
      exact hQ
     refine Exec.yield 1 (m := 1) rfl rfl rfl rfl rfl rfl hlo0 rfl hN0 rfl (fun ag0 hag0 hdg0 => ?_)
     apply Exec.norm
     ·simp only [go_sem, hix, has, w2, Int.toNat_natCast]
      rfl
     apply Exec.regionL te_ok
     ·intro u' Q hQ
      simp only [go_sem, hix, has, w2, Int.toNat_natCast]
      repeat refine ob2 ?_
      exact hQ
     refine Exec.begin rfl hlo0 hfl0 ?_
     apply Exec.norm
     ·simp only [go_sem, hix, has, w2, Int.toNat_natCast]
      rfl
     refine Exec.block ?_
     refine sq ?_
     refine sq ?_
     apply Exec.regionL te_ok
     ·intro u' Q hQ
      simp only [go_sem, hix, has, w2, Int.toNat_natCast]
      repeat refine ob2 ?_
      exact hQ
     refine sq ?_
     apply Exec.regionL te_ok
     ·intro u' Q hQ
      simp only [go_sem, hix, has, w2, Int.toNat_natCast]
      repeat refine ob2 ?_
      exact hQ
     refine Exec.cond_split rfl (fun h3 => ?_) (fun h3 => ?_)
     ·refine Exec.exit rfl ?_
      refine Exec.roundEnd 1 .fall rfl hlo0 hfl0 rfl hag0 hdg0 rfl rfl rfl ?_
      apply Exec.norm
      ·simp only [go_sem, hix, has, w2, Int.toNat_natCast]
       rfl
      apply Exec.regPart 3 1 0 te_ok rfl
      ·intro u' Q hQ
       simp only [go_sem, hix, has, w2, Int.toNat_natCast]
       repeat refine ob2 ?_
       exact hQ
      refine Exec.regEnd ?_
      refine Exec.cond (t := false) rfl ?_
      simp only [reduceIte, Bool.false_eq_true]
      refine sk ?_
      refine Exec.inBlock ?_
      apply Exec.regionL te_ok
      ·intro u' Q hQ
       simp only [go_sem, hix, has, w2, Int.toNat_natCast]
       repeat refine ob2 ?_
       exact hQ
      refine Exec.back (ih0 (i + 1) ?_ ?_) ?_ ?_ ?_ ?_ ?_ ?_ ?_
      ·try simp only
       exact ⟨by omega, by have := of_decide_eq_true h3; omega⟩
      ·try simp only
       omega
      ·rfl
      ·rfl
      ·(simp only [go_sem, hix, has, w2, Int.toNat_natCast])
      ·(simp only [go_sem, hix, has, w2, Int.toNat_natCast])
      ·(simp only [go_sem, hix, has, w2, Int.toNat_natCast])
      ·simp only [go_sem, hix, has, w2, Int.toNat_natCast]
      ·rfl
     ·refine sk ?_
      refine sq ?_
      apply Exec.regionL te_ok
      ·intro u' Q hQ
       simp only [go_sem, hix, has, w2, Int.toNat_natCast]
       repeat refine ob2 ?_
       exact hQ
      refine Exec.roundEnd 1 .ret rfl hlo0 hfl0 rfl hag0 hdg0 rfl rfl rfl ?_
      apply Exec.norm
      ·simp only [go_sem, hix, has, w2, Int.toNat_natCast]
       rfl
      apply Exec.regPart 3 1 0 te_ok rfl
      ·intro u' Q hQ
       simp only [go_sem, hix, has, w2, Int.toNat_natCast]
       repeat refine ob2 ?_
       exact hQ
      refine Exec.regEnd ?_
      refine Exec.cond (t := true) rfl ?_
      simp only [reduceIte, Bool.false_eq_true]
      refine Exec.rangeEnd 1 (pd := (some .ret)) Tryz.func83 rfl (.inr ⟨_, rfl⟩) rfl rfl hlo0 hfl0 rfl rfl hN0 hD0 ?_
      apply Exec.norm
      ·simp only [go_sem, hix, has, w2, Int.toNat_natCast]
       rfl
      refine Exec.retsM hR te_ok rfl (.cons hfr0 .nil) rfl (LeX.le ?_) (.inr ⟨_, rfl⟩)
      simp only [go_sem]
      have hq3 : 2000 < (quT q).length := by have e1 := of_decide_eq_false h3; have e2 := acT_le q (i := i + 1) (by omega); rw [quT_pcs hf] at e2; omega
      simp [quS, quE, hr, hq3]
    ·refine Exec.exit rfl ?_
     refine Exec.rangeEnd 1 (pd := none) Tryz.func83 rfl (.inl rfl) rfl rfl hlo0 hfl0 rfl rfl hN0 hD0 ?_
     apply Exec.norm
     ·simp only [go_sem]
      rfl
     refine Exec.inBlock ?_
     refine sreg te_ok ?_
     refine Exec.retsM hR te_ok rfl (.cons hfr0 .nil) rfl (LeX.le ?_) (.inr ⟨_, rfl⟩)
     simp only [go_sem]
     obtain rfl : i = 4 := by have := of_decide_eq_false h2; omega
     have e3 := hx.2
     rw [quT_pcs hf] at e3 ⊢
     have hq3 : ¬ 2000 < (quT q).length := by omega
     simp [quS, quE, hr, hq3]
  ·refine sk ?_
   refine sq ?_
   apply Exec.draw (st := _) 11 10 [] [] te_ok (by as_aux_lemma => kernel_rfl) (by as_aux_lemma => kernel_rfl) (by as_aux_lemma => kernel_rfl)
   ·intro u' Q hQ
    simp only [go_sem]
    repeat refine ob2 ?_
    refine kdcall hR.inv te_ok rfl rfl rfl rfl rfl rfl (itoa_ok q.range (by constructor <;> omega)) ?_
    simp only [go_sem]
    repeat refine ob2 ?_
    refine kdcall hR.inv te_ok rfl rfl rfl rfl rfl rfl (itoa_ok q.slide (by constructor <;> omega)) ?_
    simp only [go_sem]
    repeat refine ob2 ?_
    exact hQ
   refine sq ?_
   apply Exec.draw (st := _) 14 12 [5] [] te_ok (by as_aux_lemma => kernel_rfl) (by as_aux_lemma => kernel_rfl) (by as_aux_lemma => kernel_rfl)
   ·intro u' Q hQ
    simp only [go_sem]
    repeat refine ob2 ?_
    refine kdcall hR.inv te_ok rfl rfl rfl rfl rfl rfl (joinedP_ok q.p [44, 32] ptT (by omega) (by omega) (fun p hp => xptT_ok p (hf.p p hp))) ?_
    simp only [go_sem]
    repeat refine ob2 ?_
    refine kdcall hR.inv te_ok rfl rfl rfl rfl rfl rfl (joinedO_ok q.r [44, 32] opT (by omega) (by omega) (fun o ho => xopT_ok o (hfq.ra o ho))) ?_
    simp only [go_sem]
    repeat refine ob2 ?_
    exact hQ
   refine sreg te_ok ?_
   refine Exec.block ?_
   apply Exec.loopU [0, 36] (X := Nat) (fun i => [(37, .d (iv i))]) (fun i => [(1004, 9, [.d (sv (acT q i))])]) (fun i => []) (fun i => 4 - i) (fun i => i ≤ 4 ∧ (acT q i).length ≤ 2000) 0
   case h0 =>
    exact ⟨by omega, by simp [acT]⟩
   case hw =>
    simp only [go_sem]; rfl
   case body =>
    rintro i hx ih1
    try simp only at hx
    apply Exec.norm
    ·simp only [go_sem]
     rfl
    refine sreg te_ok ?_
    refine sq ?_
    refine Exec.cond_split rfl (fun h6 => ?_) (fun h6 => ?_)
    ·have hi : i < 4 := by have := of_decide_eq_true h6; omega
     have hix : ([D.v (.string (mkS (109 :: 97 :: 116 :: 99 :: 104 :: 32 :: Lib.join (List.map ptT q.p) [44, 32]))), D.v (.string (mkS [])), D.v (.string (mkS (32 :: 114 :: 101 :: 116 :: 117 :: 114 :: 110 :: 32 :: Lib.join (List.map opT q.r) [44, 32]))), D.v (.string (mkS (32 :: 114 :: 97 :: 110 :: 103 :: 101 :: 32 :: (Lib.itoa q.range ++ [32, 115, 108, 105, 100, 101, 32] ++ Lib.itoa q.slide))))] : List D)[i]? = some (D.v (.string (mkS (nth (pcs q) i)))) := by have hx4 := ix4 q hi; unfold pc2 at hx4; rw [if_neg (by have := of_decide_eq_false h1; omega)] at hx4; exact hx4
     have has : acT q i ++ nth (pcs q) i = acT q (i + 1) := (acT_s q hi).symm
     have hnl := nth_pc hf hi
     have w2 : IntKind.i64.wrap ((i : Int) + 1) = ((i + 1 : Nat) : Int) := by rw [wrap_id (by omega)]; omega
     refine sk ?_
     refine sq ?_
     refine Exec.block ?_
     refine sq ?_
     apply Exec.regionL te_ok
     ·intro u' Q hQ
      simp only [go_sem, hix, has, w2, Int.toNat_natCast]
      repeat refine ob2 ?_
      exact hQ
     refine sq ?_
     refine Exec.regStart 4 rfl ?_
     apply Exec.regPart 0 2 2 te_ok rfl
     ·intro u' Q hQ
      simp only [go_sem, hix, has, w2, Int.toNat_natCast]
      repeat refine ob2 ?_
      exact hQ
     refine Exec.yield 1 (m := 1) rfl rfl rfl rfl rfl rfl hlo0 rfl hN0 rfl (fun ag1 hag1 hdg1 => ?_)
     apply Exec.norm
     ·simp only [go_sem, hix, has, w2, Int.toNat_natCast]
      rfl
     apply Exec.regionL te_ok
     ·intro u' Q hQ
      simp only [go_sem, hix, has, w2, Int.toNat_natCast]
      repeat refine ob2 ?_
      exact hQ
     refine Exec.begin rfl hlo0 hfl0 ?_
     apply Exec.norm
     ·simp only [go_sem, hix, has, w2, Int.toNat_natCast]
      rfl
     refine Exec.block ?_
     refine sq ?_
     refine sq ?_
     apply Exec.regionL te_ok
     ·intro u' Q hQ
      simp only [go_sem, hix, has, w2, Int.toNat_natCast]
      repeat refine ob2 ?_
      exact hQ
     refine sq ?_
     apply Exec.regionL te_ok
     ·intro u' Q hQ
      simp only [go_sem, hix, has, w2, Int.toNat_natCast]
      repeat refine ob2 ?_
      exact hQ
     refine Exec.cond_split rfl (fun h7 => ?_) (fun h7 => ?_)
     ·refine Exec.exit rfl ?_
      refine Exec.roundEnd 1 .fall rfl hlo0 hfl0 rfl hag1 hdg1 rfl rfl rfl ?_
      apply Exec.norm
      ·simp only [go_sem, hix, has, w2, Int.toNat_natCast]
       rfl
      apply Exec.regPart 3 1 0 te_ok rfl
      ·intro u' Q hQ
       simp only [go_sem, hix, has, w2, Int.toNat_natCast]
       repeat refine ob2 ?_
       exact hQ
      refine Exec.regEnd ?_
      refine Exec.cond (t := false) rfl ?_
      simp only [reduceIte, Bool.false_eq_true]
      refine sk ?_
      refine Exec.inBlock ?_
      apply Exec.regionL te_ok
      ·intro u' Q hQ
       simp only [go_sem, hix, has, w2, Int.toNat_natCast]
       repeat refine ob2 ?_
       exact hQ
      refine Exec.back (ih1 (i + 1) ?_ ?_) ?_ ?_ ?_ ?_ ?_ ?_ ?_
      ·try simp only
       exact ⟨by omega, by have := of_decide_eq_true h7; omega⟩
      ·try simp only
       omega
      ·rfl
      ·rfl
      ·(simp only [go_sem, hix, has, w2, Int.toNat_natCast])
      ·(simp only [go_sem, hix, has, w2, Int.toNat_natCast])
      ·(simp only [go_sem, hix, has, w2, Int.toNat_natCast])
      ·simp only [go_sem, hix, has, w2, Int.toNat_natCast]
      ·rfl
     ·refine sk ?_
      refine sq ?_
      apply Exec.regionL te_ok
      ·intro u' Q hQ
       simp only [go_sem, hix, has, w2, Int.toNat_natCast]
       repeat refine ob2 ?_
       exact hQ
      refine Exec.roundEnd 1 .ret rfl hlo0 hfl0 rfl hag1 hdg1 rfl rfl rfl ?_
      apply Exec.norm
      ·simp only [go_sem, hix, has, w2, Int.toNat_natCast]
       rfl
      apply Exec.regPart 3 1 0 te_ok rfl
      ·intro u' Q hQ
       simp only [go_sem, hix, has, w2, Int.toNat_natCast]
       repeat refine ob2 ?_
       exact hQ
      refine Exec.regEnd ?_
      refine Exec.cond (t := true) rfl ?_
      simp only [reduceIte, Bool.false_eq_true]
      refine Exec.rangeEnd 1 (pd := (some .ret)) Tryz.func83 rfl (.inr ⟨_, rfl⟩) rfl rfl hlo0 hfl0 rfl rfl hN0 hD0 ?_
      apply Exec.norm
      ·simp only [go_sem, hix, has, w2, Int.toNat_natCast]
       rfl
      refine Exec.retsM hR te_ok rfl (.cons hfr0 .nil) rfl (LeX.le ?_) (.inr ⟨_, rfl⟩)
      simp only [go_sem]
      have hq3 : 2000 < (quT q).length := by have e1 := of_decide_eq_false h7; have e2 := acT_le q (i := i + 1) (by omega); rw [quT_pcs hf] at e2; omega
      simp [quS, quE, hr, hq3]
    ·refine Exec.exit rfl ?_
     refine Exec.rangeEnd 1 (pd := none) Tryz.func83 rfl (.inl rfl) rfl rfl hlo0 hfl0 rfl rfl hN0 hD0 ?_
     apply Exec.norm
     ·simp only [go_sem]
      rfl
     refine Exec.inBlock ?_
     refine sreg te_ok ?_
     refine Exec.retsM hR te_ok rfl (.cons hfr0 .nil) rfl (LeX.le ?_) (.inr ⟨_, rfl⟩)
     simp only [go_sem]
     obtain rfl : i = 4 := by have := of_decide_eq_false h6; omega
     have e3 := hx.2
     rw [quT_pcs hf] at e3 ⊢
     have hq3 : ¬ 2000 < (quT q).length := by omega
     simp [quS, quE, hr, hq3]
end Go.Proofs.YtonchjamoblioaaGreatDoor
namespace Go.Proofs.YtonchjamoblioaaGreatDoor
open Go.Kin Go.Lib
/-! ### what whole texts are read as -/
section
variable {α : Type} {z : α} {rule : List Tk → PS → PR α} {s : List UInt8}
theorem Sh.refl (h : LxT s) : Sh (lexT s) (lexT s) := ⟨rfl, fun _ _ => ⟨rfl, rfl, rfl⟩, fun i j a b => ⟨h.up i j a b, h.up i j a b⟩, fun i a => ⟨(h.pos i a).1, (h.pos i a).1⟩⟩
end
end Go.Proofs.YtonchjamoblioaaGreatDoor
namespace Go.Proofs.YtonchjamoblioaaGreatDoor
open Go.Kin
set_option maxRecDepth 100000
set_option maxHeartbeats 0
attribute [go_sem] te_101 te_22 te_23 te_24 te_53 te_51 te_56
theorem samePt_ok (x y : Pt) (hfx : FitX x.e) : FnOK Laid Tryz.prog 63 [ptD x, ptD y] (bv (decide (x = y))) := by
 refine FnOK_of laid_stable Tryz.func63 Tryz.ntmps63 rfl (by as_aux_lemma => kernel_rfl) (Nat.le_of_ble_eq_true rfl) (fun R hR => ?_)
 obtain ⟨_, b, cs, T, C⟩ := R
 obtain rfl : _ = Tryz.prog := hR.p
 refine sreg te_ok ?_
 refine sq ?_
 apply Exec.regionL te_ok
 ·intro u' Q hQ
  simp only [go_sem]
  repeat refine ob2 ?_
  refine kcall hR.inv te_ok rfl rfl rfl rfl rfl rfl (xsame_ok x.e y.e hfx) ?_
  simp only [go_sem]
  repeat refine ob2 ?_
  exact hQ
 refine sreg te_ok ?_
 refine Exec.rets hR te_ok rfl rfl rfl (LeX.le ?_) (.inr ⟨_, rfl⟩)
 simp only [go_sem]
 rw [← pt_eq]
 cases (x.a == y.a) <;> cases (x.z == y.z) <;> cases (x.path == y.path) <;> cases (x.lab == y.lab) <;> cases (x.name == y.name) <;> cases decide (x.e = y.e) <;> rfl
theorem eqPt_ok (l m : List Pt) (hl : l.length ≤ 1000000) (hx0 : ∀ p ∈ l, FitX p.e) : FnOK Laid Tryz.prog 62 [ptsD l, ptsD m, .fn 63 []] (bv (decide (l = m))) := by
 refine FnOK_of laid_stable Tryz.func62 Tryz.ntmps62 rfl (by as_aux_lemma => kernel_rfl) (Nat.le_of_ble_eq_true rfl) (fun R hR => ?_)
 obtain ⟨_, b, cs, T, C⟩ := R
 obtain rfl : _ = Tryz.prog := hR.p
 refine sreg te_ok ?_
 refine sq ?_
 refine sreg te_ok ?_
 refine Exec.cond_split rfl (fun h0 => ?_) (fun h0 => ?_)
 ·refine sreg te_ok ?_
  refine Exec.rets hR te_ok rfl rfl rfl (LeX.le ?_) (.inr ⟨_, rfl⟩)
  simp only [go_sem]
  have : l ≠ m := fun e => by subst e; simp at h0
  simp [this]
 ·have hlm : l.length = m.length := by simp at h0; omega
  refine sk ?_
  refine sq ?_
  refine sreg te_ok ?_
  refine Exec.block ?_
  apply Exec.loopU [1, 2, 15, 16] (X := Nat) (fun i => [(17, .d (iv i))]) (fun i => []) (fun i => []) (fun i => l.length - i) (fun i => i ≤ l.length ∧ l.take i = m.take i) 0
  case h0 =>
   simp
  case hw =>
   simp only [go_sem]
  case body =>
   rintro i hx ih0
   try simp only at hx
   apply Exec.norm
   ·simp only [go_sem]
    rfl
   refine sreg te_ok ?_
   refine sq ?_
   refine Exec.cond_split rfl (fun h1 => ?_) (fun h1 => ?_)
   ·have hi : i < l.length := by simp at h1; omega
    have hi2 : i < m.length := by omega
    have w2 : IntKind.i64.wrap ((i : Int) + 1) = ((i + 1 : Nat) : Int) := by rw [wrap_id (by omega)]; omega
    refine sk ?_
    refine sq ?_
    refine Exec.block ?_
    refine sq ?_
    apply Exec.regionL te_ok
    ·intro u' Q hQ
     simp only [go_sem, w2]
     repeat refine ob2 ?_
     exact hQ
    refine sq ?_
    apply Exec.regionL te_ok
    ·intro u' Q hQ
     simp only [go_sem, w2]
     repeat refine ob2 ?_
     exact hQ
    refine sq ?_
    apply Exec.regionL te_ok
    ·intro u' Q hQ
     simp only [go_sem, w2]
     repeat refine ob2 ?_
     refine kcall hR.inv te_ok rfl rfl rfl rfl rfl rfl (samePt_ok _ _ (hx0 _ (nth_mem hi))) ?_
     simp only [go_sem, w2]
     repeat refine ob2 ?_
     exact hQ
    refine Exec.cond_split rfl (fun h2 => ?_) (fun h2 => ?_)
    ·refine sq ?_
     apply Exec.regionL te_ok
     ·intro u' Q hQ
      simp only [go_sem, w2]
      repeat refine ob2 ?_
      exact hQ
     refine Exec.rets hR te_ok rfl rfl rfl (LeX.le ?_) (.inr ⟨_, rfl⟩)
     simp only [go_sem]
     have : l ≠ m := fun e => by subst e; simp [decide_eq_true_eq] at h2
     simp [this]
    ·refine sk ?_
     refine Exec.inBlock ?_
     apply Exec.regionL te_ok
     ·intro u' Q hQ
      simp only [go_sem, w2]
      repeat refine ob2 ?_
      exact hQ
     refine Exec.back (ih0 (i + 1) ?_ ?_) ?_ ?_ ?_ ?_ ?_ ?_ ?_
     ·try simp only
      exact ⟨by omega, (same_step hlm hi hx.2).2 (by simpa [decide_eq_true_eq] using h2)⟩
     ·try simp only
      omega
     ·rfl
     ·rfl
     ·(simp only [go_sem, w2])
     ·(simp only [go_sem, w2])
     ·(simp only [go_sem, w2])
     ·simp only [go_sem, w2]
     ·rfl
   ·refine Exec.exit rfl ?_
    refine sreg te_ok ?_
    refine Exec.rets hR te_ok rfl rfl rfl (LeX.le ?_) (.inr ⟨_, rfl⟩)
    simp only [go_sem]
    have : l = m := by have := hx.2; simp at h1; rw [List.take_of_length_le (by omega), List.take_of_length_le (by omega)] at this; exact this
    simp [this]
theorem eqCd_ok (l m : List Cd) (hl : l.length ≤ 1000000)  : FnOK Laid Tryz.prog 64 [cdsD l, cdsD m] (bv (decide (l = m))) := by
 refine FnOK_of laid_stable Tryz.func64 Tryz.ntmps64 rfl (by as_aux_lemma => kernel_rfl) (Nat.le_of_ble_eq_true rfl) (fun R hR => ?_)
 obtain ⟨_, b, cs, T, C⟩ := R
 obtain rfl : _ = Tryz.prog := hR.p
 refine sreg te_ok ?_
 refine sq ?_
 refine sreg te_ok ?_
 refine Exec.cond_split rfl (fun h0 => ?_) (fun h0 => ?_)
 ·refine sreg te_ok ?_
  refine Exec.rets hR te_ok rfl rfl rfl (LeX.le ?_) (.inr ⟨_, rfl⟩)
  simp only [go_sem]
  have : l ≠ m := fun e => by subst e; simp at h0
  simp [this]
 ·have hlm : l.length = m.length := by simp at h0; omega
  refine sk ?_
  refine sq ?_
  refine sreg te_ok ?_
  refine Exec.block ?_
  apply Exec.loopU [0, 1, 12] (X := Nat) (fun i => [(13, .d (iv i))]) (fun i => []) (fun i => []) (fun i => l.length - i) (fun i => i ≤ l.length ∧ l.take i = m.take i) 0
  case h0 =>
   simp
  case hw =>
   simp only [go_sem]
  case body =>
   rintro i hx ih0
   try simp only at hx
   apply Exec.norm
   ·simp only [go_sem]
    rfl
   refine sreg te_ok ?_
   refine sq ?_
   refine Exec.cond_split rfl (fun h1 => ?_) (fun h1 => ?_)
   ·have hi : i < l.length := by simp at h1; omega
    have hi2 : i < m.length := by omega
    have w2 : IntKind.i64.wrap ((i : Int) + 1) = ((i + 1 : Nat) : Int) := by rw [wrap_id (by omega)]; omega
    refine sk ?_
    refine sq ?_
    refine Exec.block ?_
    refine sq ?_
    apply Exec.regionL te_ok
    ·intro u' Q hQ
     simp only [go_sem, w2]
     repeat refine ob2 ?_
     exact hQ
    refine sq ?_
    apply Exec.draw (st := _) 10 9 [] [] te_ok (by as_aux_lemma => kernel_rfl) (by as_aux_lemma => kernel_rfl) (by as_aux_lemma => kernel_rfl)
    ·intro u' Q hQ
     simp only [go_sem, w2]
     repeat refine ob2 ?_
     exact hQ
    refine Exec.cond_split rfl (fun h2 => ?_) (fun h2 => ?_)
    ·refine sq ?_
     apply Exec.regionL te_ok
     ·intro u' Q hQ
      simp only [go_sem, w2]
      repeat refine ob2 ?_
      exact hQ
     refine Exec.rets hR te_ok rfl rfl rfl (LeX.le ?_) (.inr ⟨_, rfl⟩)
     simp only [go_sem]
     have : l ≠ m := fun e => by subst e; simp [cdx, and_assoc] at h2
     simp [this]
    ·refine sk ?_
     refine Exec.inBlock ?_
     apply Exec.regionL te_ok
     ·intro u' Q hQ
      simp only [go_sem, w2]
      repeat refine ob2 ?_
      exact hQ
     refine Exec.back (ih0 (i + 1) ?_ ?_) ?_ ?_ ?_ ?_ ?_ ?_ ?_
     ·try simp only
      exact ⟨by omega, (same_step hlm hi hx.2).2 (by simpa [cdx, and_assoc] using h2)⟩
     ·try simp only
      omega
     ·rfl
     ·rfl
     ·(simp only [go_sem, w2])
     ·(simp only [go_sem, w2])
     ·(simp only [go_sem, w2])
     ·simp only [go_sem, w2]
     ·rfl
   ·refine Exec.exit rfl ?_
    refine sreg te_ok ?_
    refine Exec.rets hR te_ok rfl rfl rfl (LeX.le ?_) (.inr ⟨_, rfl⟩)
    simp only [go_sem]
    have : l = m := by have := hx.2; simp at h1; rw [List.take_of_length_le (by omega), List.take_of_length_le (by omega)] at this; exact this
    simp [this]
theorem eqOp_ok (l m : List Opd) (hl : l.length ≤ 1000000)  : FnOK Laid Tryz.prog 65 [opsD l, opsD m] (bv (decide (l = m))) := by
 refine FnOK_of laid_stable Tryz.func65 Tryz.ntmps65 rfl (by as_aux_lemma => kernel_rfl) (Nat.le_of_ble_eq_true rfl) (fun R hR => ?_)
 obtain ⟨_, b, cs, T, C⟩ := R
 obtain rfl : _ = Tryz.prog := hR.p
 refine sreg te_ok ?_
 refine sq ?_
 refine sreg te_ok ?_
 refine Exec.cond_split rfl (fun h0 => ?_) (fun h0 => ?_)
 ·refine sreg te_ok ?_
  refine Exec.rets hR te_ok rfl rfl rfl (LeX.le ?_) (.inr ⟨_, rfl⟩)
  simp only [go_sem]
  have : l ≠ m := fun e => by subst e; simp at h0
  simp [this]
 ·have hlm : l.length = m.length := by simp at h0; omega
  refine sk ?_
  refine sq ?_
  refine sreg te_ok ?_
  refine Exec.block ?_
  apply Exec.loopU [0, 1, 12] (X := Nat) (fun i => [(13, .d (iv i))]) (fun i => []) (fun i => []) (fun i => l.length - i) (fun i => i ≤ l.length ∧ l.take i = m.take i) 0
  case h0 =>
   simp
  case hw =>
   simp only [go_sem]
  case body =>
   rintro i hx ih0
   try simp only at hx
   apply Exec.norm
   ·simp only [go_sem]
    rfl
   refine sreg te_ok ?_
   refine sq ?_
   refine Exec.cond_split rfl (fun h1 => ?_) (fun h1 => ?_)
   ·have hi : i < l.length := by simp at h1; omega
    have hi2 : i < m.length := by omega
    have w2 : IntKind.i64.wrap ((i : Int) + 1) = ((i + 1 : Nat) : Int) := by rw [wrap_id (by omega)]; omega
    refine sk ?_
    refine sq ?_
    refine Exec.block ?_
    refine sq ?_
    apply Exec.regionL te_ok
    ·intro u' Q hQ
     simp only [go_sem, w2]
     repeat refine ob2 ?_
     exact hQ
    refine sq ?_
    apply Exec.draw (st := _) 10 9 [] [] te_ok (by as_aux_lemma => kernel_rfl) (by as_aux_lemma => kernel_rfl) (by as_aux_lemma => kernel_rfl)
    ·intro u' Q hQ
     simp only [go_sem, w2]
     repeat refine ob2 ?_
     exact hQ
    refine Exec.cond_split rfl (fun h2 => ?_) (fun h2 => ?_)
    ·refine sq ?_
     apply Exec.regionL te_ok
     ·intro u' Q hQ
      simp only [go_sem, w2]
      repeat refine ob2 ?_
      exact hQ
     refine Exec.rets hR te_ok rfl rfl rfl (LeX.le ?_) (.inr ⟨_, rfl⟩)
     simp only [go_sem]
     have : l ≠ m := fun e => by subst e; simp [op_eq] at h2
     simp [this]
    ·refine sk ?_
     refine Exec.inBlock ?_
     apply Exec.regionL te_ok
     ·intro u' Q hQ
      simp only [go_sem, w2]
      repeat refine ob2 ?_
      exact hQ
     refine Exec.back (ih0 (i + 1) ?_ ?_) ?_ ?_ ?_ ?_ ?_ ?_ ?_
     ·try simp only
      exact ⟨by omega, (same_step hlm hi hx.2).2 (by simpa [op_eq] using h2)⟩
     ·try simp only
      omega
     ·rfl
     ·rfl
     ·(simp only [go_sem, w2])
     ·(simp only [go_sem, w2])
     ·(simp only [go_sem, w2])
     ·simp only [go_sem, w2]
     ·rfl
   ·refine Exec.exit rfl ?_
    refine sreg te_ok ?_
    refine Exec.rets hR te_ok rfl rfl rfl (LeX.le ?_) (.inr ⟨_, rfl⟩)
    simp only [go_sem]
    have : l = m := by have := hx.2; simp at h1; rw [List.take_of_length_le (by omega), List.take_of_length_le (by omega)] at this; exact this
    simp [this]
theorem tsame_ok (x y : Qu) (h1 : x.p.length ≤ 1000000) (h2 : x.c.length ≤ 1000000) (h3 : x.r.length ≤ 1000000) (hx0 : ∀ p ∈ x.p, FitX p.e) : FnOK Laid Tryz.prog 33 [quD x, quD y] (bv (decide (x = y))) := by
 refine FnOK_of laid_stable Tryz.func33 Tryz.ntmps33 rfl (by as_aux_lemma => kernel_rfl) (Nat.le_of_ble_eq_true rfl) (fun R hR => ?_)
 obtain ⟨_, b, cs, T, C⟩ := R
 obtain rfl : _ = Tryz.prog := hR.p
 refine sreg te_ok ?_
 refine sq ?_
 apply Exec.regionL te_ok
 ·intro u' Q hQ
  simp only [go_sem]
  repeat refine ob2 ?_
  refine kcallG hR.inv te_ok rfl rfl rfl rfl rfl rfl ob1 (fun hq => eqPt_ok x.p y.p (by omega) hx0) ?_
  simp only [go_sem]
  repeat refine ob2 ?_
  refine kcallG hR.inv te_ok rfl rfl rfl rfl rfl rfl ob1 (fun hq => eqCd_ok x.c y.c (by omega)) ?_
  simp only [go_sem]
  repeat refine ob2 ?_
  refine kcallG hR.inv te_ok rfl rfl rfl rfl rfl rfl ob1 (fun hq => eqOp_ok x.r y.r (by omega)) ?_
  simp only [go_sem]
  repeat refine ob2 ?_
  exact hQ
 refine Exec.rets hR te_ok rfl rfl rfl (LeX.le ?_) (.inr ⟨_, rfl⟩)
 simp only [go_sem]
 rw [← qu_eq]
 cases decide (x.p = y.p) <;> cases decide (x.c = y.c) <;> cases decide (x.r = y.r) <;> cases (x.range == y.range) <;> cases (x.slide == y.slide) <;> rfl
end Go.Proofs.YtonchjamoblioaaGreatDoor
namespace Go.Proofs.YtonchjamoblioaaGreatDoor
open Go.Kin Go.Lib
/-! ### what is right is small -/
/-! ### the text that the law writes anew -/
section
variable (g : List UInt8) (l : List Tk)
def othK : Nat → List UInt8
 | 0 => []
 | i + 1 => (if 0 < i then othK i ++ g else othK i) ++ (nth l i).t
def othB (i : Nat) : List UInt8 := if 0 < i then othK g l i ++ g else othK g l i
end
theorem othK_on (g : List UInt8) (l : List Tk) (i : Nat) : othK g l (i + 1) = othB g l i ++ (nth l i).t := rfl
/-! ### the gaps -/
def gapsW : List (List UInt8) := [[32], [10], [9, 32]]
def pick3 (x : Int) : Int := if x.tmod 3 < 0 then x.tmod 3 + 3 else x.tmod 3
def gP (n : Int) : List UInt8 := nth gapsW (pick3 n).toNat
end Go.Proofs.YtonchjamoblioaaGreatDoor
