/- Steps of a function body on data, and contracts of the functions of the seat, walked. -/
import Derived.Test.YtonchjamoblioaaGreatDoorRLaw2
import Derived.Test.YtonchjamoblioaaGreatDoorZShX
import Derived.Test.YtonchjamoblioaaGreatDoorZL4
import Derived.Test.YtonchjamoblioaaGreatDoorRDef
set_option linter.unusedSimpArgs false
set_option linter.unusedVariables false
namespace Go.Proofs.YtonchjamoblioaaGreatDoor
open Go.Kin
/-! ### the document's queries -/
section
variable (l : List Tk)
def toldR (s : RS) : RS × Opd := (toldS l s, toldO l s)
def qu1 (s : RS) : RS := mustR l [109, 97, 116, 99, 104] s
def qu2 (s : RS) : RS × List Pt := manyR l (patR l) [44] 4 (l.length + 1) (qu1 l s) []
def qu3 (p : RS) : RS × List Cd := if isR l [119, 104, 101, 114, 101] p = true then manyR l (condR l) [97, 110, 100] 6 (l.length + 1) (p.step l) [] else (p, [])
def qu4 (p : RS) : RS := mustR l [114, 101, 116, 117, 114, 110] p
def qu5 (p : RS) : RS × List Opd := manyR l (toldR l) [44] 4 (l.length + 1) p []
def qu6 (p : RS) : RS := mustR l [114, 97, 110, 103, 101] p
def qu8 (p : RS) : RS := mustR l [115, 108, 105, 100, 101] p
def quT (ps : List Pt) (cs : List Cd) (rs : List Opd) (p : RS) : RS × Qu := (numS l (qu8 l (numS l (qu6 l p))), ⟨ps, cs, rs, numV l (qu6 l p), numV l (qu8 l (numS l (qu6 l p)))⟩)
def queryR (s : RS) : RS × Qu := quT l (qu2 l s).2 (qu3 l (qu2 l s).1).2 (qu5 l (qu4 l (qu3 l (qu2 l s).1).1)).2 (qu5 l (qu4 l (qu3 l (qu2 l s).1).1)).1
def endB (s : RS) : Bool := decide (s.b < 0) && !((nth l s.n).k == 5)
def endR (s : RS) : RS := if endB l s = true then s.fail l else s
end
def wrongA (s : RS) : Int := if 0 ≤ s.b then s.b else if 0 ≤ s.m then s.m else 0
def wrongE (s : RS) : Int := if 0 ≤ s.b then 7 else if 0 ≤ s.m then 3 else 0
def readR {α : Type} (z : α) (rule : List Tk → RS → RS × α) (s : List UInt8) : α × Int × Int :=
 if lexE s = 0 then (if wrongE (endR (lexT s) (rule (lexT s) ⟨0, -1, -1⟩).1) = 0 then (rule (lexT s) ⟨0, -1, -1⟩).2 else z, wrongA (endR (lexT s) (rule (lexT s) ⟨0, -1, -1⟩).1), wrongE (endR (lexT s) (rule (lexT s) ⟨0, -1, -1⟩).1))
 else (z, lexA s, lexE s)
section
variable {l : List Tk}
theorem manyR_y {α : Type} {it : RS → RS × α} {w : List UInt8} {mx f : Nat} {s : RS} {acc : List α} (hf : 0 < f) (hl : acc.length = mx) : manyR l it w mx f s acc = if isR l w ((it s).1.much (nth l s.n).a) = true then manyR l it w mx (f - 1) (((it s).1.much (nth l s.n).a).step l) (acc ++ [(it s).2]) else ((it s).1.much (nth l s.n).a, acc ++ [(it s).2]) := by
 obtain ⟨g, rfl⟩ : ∃ g, f = g + 1 := ⟨f - 1, by omega⟩
 simp only [manyR, if_pos hl, Nat.add_sub_cancel]
theorem manyR_n {α : Type} {it : RS → RS × α} {w : List UInt8} {mx f : Nat} {s : RS} {acc : List α} (hf : 0 < f) (hl : ¬ acc.length = mx) : manyR l it w mx f s acc = if isR l w (it s).1 = true then manyR l it w mx (f - 1) ((it s).1.step l) (acc ++ [(it s).2]) else ((it s).1, acc ++ [(it s).2]) := by
 obtain ⟨g, rfl⟩ : ∃ g, f = g + 1 := ⟨f - 1, by omega⟩
 simp only [manyR, if_neg hl, Nat.add_sub_cancel]
theorem toldR_on (n0 : Nat) : OnR l n0 (toldR l) := fun s _ h => ⟨toldS_ge s, toldS_lt h⟩
theorem condR_on (n0 : Nat) : OnR l n0 (condR l) := fun s _ h => ⟨condR_ge s, condR_lt h⟩
variable (hk : TkOk l)
include hk
theorem many_advP {α : Type} {rd : PS → PR α} {w : List UInt8} {mx : Nat} (hr : ∀ s : PS, s.n < l.length → AdvP l s (rd s)) : ∀ (f : Nat) (s : PS) (acc : List α), s.n < l.length → ∀ s1 xs, manyP l rd w mx f s acc = .ok s1 xs → s1.n < l.length
 | 0, s, acc, _, s1, xs, h => by cases h
 | f + 1, s, acc, hs, s1, xs, h => by
   obtain ⟨t1, x, g1, h⟩ := bind_ok h
   have a1 := hr _ (by rw [limS_n]; exact hs) _ _ g1
   split at h
   ·rename_i hp; exact many_advP hr _ _ _ (is_adv hk a1.2 hp) _ _ h
   ·cases h; exact a1.2
omit hk in
theorem quT_bad {ps : List Pt} {cs : List Cd} {rs : List Opd} {p : RS} (h : 0 ≤ p.b) : (quT l ps cs rs p).1.b = p.b := by
 have h1 := must_bad (l := l) (w := [114, 97, 110, 103, 101]) h
 have h2 := num_bad (l := l) (s := qu6 l p) (by unfold qu6; omega)
 have h3 := must_bad (l := l) (w := [115, 108, 105, 100, 101]) (s := numS l (qu6 l p)) (by unfold qu6 at *; omega)
 have h4 := num_bad (l := l) (s := qu8 l (numS l (qu6 l p))) (by unfold qu8 qu6 at *; omega)
 unfold quT qu8 qu6 at *
 simp only; omega
omit hk in
theorem qu5_bad {p : RS} (h : 0 ≤ p.b) : (qu5 l p).1.b = p.b := many_bad (fun s h => told_bad h) h _ _
omit hk in
theorem qu3_bad {p : RS} (h : 0 ≤ p.b) : (qu3 l p).1.b = p.b := by unfold qu3; rw [isR_bad h]; rfl
omit hk in
theorem qu4_bad {p : RS} (h : 0 ≤ p.b) : (qu4 l p).b = p.b := must_bad h
theorem rel_query {s : RS} (hn : s.n < l.length) : Rel s (queryP l ⟨s.n, s.m⟩) (queryR l s) := by
 have T5 : ∀ (ps : List Pt) (cs : List Cd) (p : RS), 0 ≤ p.b → (quT l ps cs (qu5 l (qu4 l p)).2 (qu5 l (qu4 l p)).1).1.b = p.b := fun ps cs p h => by
  have h1 := qu4_bad (l := l) h
  have h2 := qu5_bad (l := l) (p := qu4 l p) (by omega)
  rw [quT_bad (by omega), h2, h1]
 refine (rel_must hk (w := [109, 97, 116, 99, 104]) hn).bind (g := fun p => (fun p2 : RS × List Pt => quT l p2.2 (qu3 l p2.1).2 (qu5 l (qu4 l (qu3 l p2.1).1)).2 (qu5 l (qu4 l (qu3 l p2.1).1)).1) (manyR l (patR l) [44] 4 (l.length + 1) p.1 [])) (fun hb s1 _ h1 => ?_) (fun p hp => ?_)
 ·have a1 := must_adv hk (s := ⟨s.n, s.m⟩) hn _ _ h1
  refine (rel_many hk (fun s h => rel_pat hk h) (fun a ha => mc_pat hk ha) (fun s h => pat_adv hk h) (fun s h => pat_bad h) (l.length + 1) ⟨s1.n, s.b, s1.m⟩ [] a1.2 (by simp only; omega)).bind (g := fun p2 : RS × List Pt => quT l p2.2 (qu3 l p2.1).2 (qu5 l (qu4 l (qu3 l p2.1).1)).2 (qu5 l (qu4 l (qu3 l p2.1).1)).1) (fun hb s2 ps h2 => ?_) (fun p hp => ?_)
  ·have a2 := many_advP hk (fun s h => pat_adv hk h) _ _ _ a1.2 _ _ h2
   have R3 : Rel (⟨s2.n, s.b, s2.m⟩ : RS) (if isP l [119, 104, 101, 114, 101] s2 = true then manyP l (cdP l) [97, 110, 100] 6 (l.length + 1) s2.adv [] else .ok s2 []) (qu3 l ⟨s2.n, s.b, s2.m⟩) := by
    unfold qu3
    rw [isR_good (s := ⟨s2.n, s.b, s2.m⟩) hb]
    by_cases hp : isP l [119, 104, 101, 114, 101] s2 = true
    ·have hp' : isP l [119, 104, 101, 114, 101] ⟨s2.n, s2.m⟩ = true := hp
     rw [if_pos hp, if_pos hp', es_step hk a2 hp]
     have h9 := rel_many (w := [97, 110, 100]) (mx := 6) hk (fun s h => rel_cd hk h) (fun a _ => mc_cd) (fun s h => cd_adv hk h) (fun s h => by show (cmpR l _ _ 0 cmpsW).1.b = _; rw [cmp_bad (by rw [opd_bad h]; exact h), opd_bad h]) (l.length + 1) ⟨s2.n + 1, s.b, s2.m⟩ [] (is_adv hk a2 hp) (by simp only; omega)
     exact ⟨fun h => h9.1 h, fun h => by simp only at h; omega⟩
    ·have hp' : ¬ (isP l [119, 104, 101, 114, 101] ⟨s2.n, s2.m⟩ = true) := hp
     rw [if_neg hp, if_neg hp']; exact ⟨fun _ => rfl, fun h => by simp only at h; omega⟩
   refine R3.bind (g := fun p3 : RS × List Cd => quT l ps p3.2 (qu5 l (qu4 l p3.1)).2 (qu5 l (qu4 l p3.1)).1) (fun hb s3 cs h3 => ?_) (fun p hp => T5 _ _ _ hp)
   have a3 : s3.n < l.length := by
    split at h3
    ·rename_i hp; exact many_advP hk (fun s hs => cd_adv hk hs) _ _ _ (is_adv hk a2 hp) _ _ h3
    ·cases h3; exact a2
   refine (rel_must hk (w := [114, 101, 116, 117, 114, 110]) (s := ⟨s3.n, s.b, s3.m⟩) a3).bind (g := fun p => quT l ps cs (qu5 l p.1).2 (qu5 l p.1).1) (fun hb s4 _ h4 => ?_) (fun p hp => ?_)
   ·have a4 := must_adv hk (s := s3) a3 _ _ h4
    refine (rel_many hk (fun s h => rel_told hk h) (fun a _ => mc_told) (fun s h => told_adv hk h) (fun s h => told_bad h) (l.length + 1) ⟨s4.n, s.b, s4.m⟩ [] a4.2 (by simp only; omega)).bind (g := fun p => quT l ps cs p.2 p.1) (fun hb s5 rs h5 => ?_) (fun p hp => quT_bad hp)
    have a5 := many_advP hk (fun s h => told_adv hk h) _ _ _ a4.2 _ _ h5
    refine (rel_must hk (w := [114, 97, 110, 103, 101]) (s := ⟨s5.n, s.b, s5.m⟩) a5).bind (g := fun p => (numS l (qu8 l (numS l p.1)), (⟨ps, cs, rs, numV l p.1, numV l (qu8 l (numS l p.1))⟩ : Qu))) (fun hb s6 _ h6 => ?_) (fun p hp => ?_)
    ·have a6 := must_adv hk (s := s5) a5 _ _ h6
     refine (rel_num hk (s := ⟨s6.n, s.b, s6.m⟩) a6.2).bind (g := fun p => (numS l (qu8 l p.1), (⟨ps, cs, rs, p.2, numV l (qu8 l p.1)⟩ : Qu))) (fun hb s7 rg h7 => ?_) (fun p hp => ?_)
     ·have a7 := num_adv hk (s := s6) a6.2 _ _ h7
      refine (rel_must hk (w := [115, 108, 105, 100, 101]) (s := ⟨s7.n, s.b, s7.m⟩) a7.2).bind (g := fun p => (numS l p.1, (⟨ps, cs, rs, rg, numV l p.1⟩ : Qu))) (fun hb s8 _ h8 => ?_) (fun p hp => num_bad hp)
      have a8 := must_adv hk (s := s7) a7.2 _ _ h8
      exact (rel_num hk (s := ⟨s8.n, s.b, s8.m⟩) a8.2).map (F := fun sl => (⟨ps, cs, rs, rg, sl⟩ : Qu))
     ·have := must_bad (l := l) (w := [115, 108, 105, 100, 101]) hp
      show (numS l (mustR l _ p.1)).b = _
      rw [num_bad (by omega)]; exact this
    ·have h1 := num_bad (l := l) hp
     have := must_bad (l := l) (w := [115, 108, 105, 100, 101]) (s := numS l p.1) (by omega)
     show (numS l (mustR l _ (numS l p.1))).b = _
     rw [num_bad (by omega)]; omega
   ·have h2 := qu5_bad (l := l) hp
    rw [quT_bad (by omega)]; exact h2
  ·have h1 := qu3_bad (l := l) hp
   rw [T5 _ _ _ (by omega)]; exact h1
 ·have h1 : (manyR l (patR l) [44] 4 (l.length + 1) p.1 []).1.b = p.1.b := many_bad (fun s h => pat_bad h) hp _ _
  have h2 := qu3_bad (l := l) (p := (manyR l (patR l) [44] 4 (l.length + 1) p.1 []).1) (by omega)
  simp only
  rw [T5 _ _ _ (by omega)]; omega
end
theorem read_eq {α : Type} {z : α} {rule : List Tk → PS → PR α} {rr : List Tk → RS → RS × α} (hr : ∀ l, TkOk l → ∀ s : RS, s.n < l.length → Rel s (rule l ⟨s.n, s.m⟩) (rr l s)) (hl : ∀ l, TkOk l → ∀ s : PS, s.n < l.length → ∀ s1 x, rule l s = .ok s1 x → s1.n < l.length) (s : List UInt8) : readR z rr s = readV z rule s := by
 unfold readR readV
 by_cases h : lexE s = 0
 ·rw [if_pos h, if_pos h]
  obtain ⟨hk, h0, _, _⟩ := lex_tk h
  have h1 := (hr _ hk ⟨0, -1, -1⟩ h0).1 (by simp only; omega)
  have h2 := hl _ hk ⟨0, -1⟩ h0
  simp only at h1
  generalize rr (lexT s) ⟨0, -1, -1⟩ = q at h1 ⊢
  cases hp : rule (lexT s) ⟨0, -1⟩ with
  | err a =>
   rw [hp] at h1; simp only at h1
   have e : endR (lexT s) q.1 = q.1 := by unfold endR endB; rw [decide_eq_false (by omega)]; rfl
   have e1 : wrongE q.1 = 7 := by unfold wrongE; rw [if_pos (by omega)]
   have e2 : wrongA q.1 = a := by unfold wrongA; rw [if_pos (by omega)]; exact h1.1
   simp only [e, e1, e2]; rfl
  | ok s1 x =>
   rw [hp] at h1; simp only at h1
   have a1 := h2 _ _ hp
   subst h1
   simp only
   by_cases h5 : (nth (lexT s) s1.n).k = 5
   ·have e : endR (lexT s) ⟨s1.n, -1, s1.m⟩ = ⟨s1.n, -1, s1.m⟩ := by unfold endR endB; rw [show ((nth (lexT s) s1.n).k == 5) = true by simpa using h5]; simp
    rw [e, if_pos h5]
    unfold wrongE wrongA
    simp only
    by_cases h6 : 0 ≤ s1.m
    ·simp [h6]
    ·simp [h6]
   ·have e : endR (lexT s) ⟨s1.n, -1, s1.m⟩ = ⟨s1.n, (nth (lexT s) s1.n).a, s1.m⟩ := by unfold endR endB; rw [show ((nth (lexT s) s1.n).k == 5) = false by simpa using h5]; simp [RS.fail]
    have := (hk.a0 _ a1).1
    rw [e, if_neg h5]
    unfold wrongE wrongA
    simp [this]
 ·rw [if_neg h, if_neg h]
theorem readQ_eq (s : List UInt8) : readR qz queryR s = readV qz queryP s := read_eq (fun l hk s h => rel_query hk h) (fun l hk s h => query_adv hk h) s
theorem readX_eq (s : List UInt8) : readR xz wholeR s = readV xz wholeP s := read_eq (fun l hk s h => rel_whole hk h) (fun l hk s h => wholeN_adv hk h) s
end Go.Proofs.YtonchjamoblioaaGreatDoor
namespace Go.Proofs.YtonchjamoblioaaGreatDoor
open Go.Kin
set_option maxRecDepth 100000
set_option maxHeartbeats 0
theorem rend_ok (l : List Tk) (s : RS) (hk : TkOk l) (hn : s.n < l.length) : FnM Laid Tryz.prog 115 134 [tksD l, iv s.n, iv s.b, iv s.m] [.lp 900 0] (.ret (rfC l (endR l s)) (.tup [])) := by
 refine FnM_of Tryz.func115 Tryz.ntmps115 rfl (by as_aux_lemma => kernel_rfl) (Nat.le_of_ble_eq_true rfl) (fun R b0 hR => ?_)
 obtain ⟨_, b, cs, T, C⟩ := R
 obtain rfl : _ = Tryz.prog := hR.p
 refine sq ?_
 apply Exec.regionL te_ok
 ·intro o Q hQ
  simp only [go_sem]
  repeat refine ob2 ?_
  refine kcallMG 900 hR.inv te_ok rfl rfl rfl rfl rfl rfl rfl rfl rfl ob1 (fun hq => rnext_ok l s hk hn) ?_
  simp only [go_sem]
  repeat refine ob2 ?_
  exact hQ
 refine Exec.cond_split rfl (fun h0 => ?_) (fun h0 => ?_)
 ·have h2 : endB l s = true := by simpa [endB] using h0
  apply Exec.regionL te_ok
  ·intro o Q hQ
   simp only [go_sem]
   repeat refine ob2 ?_
   refine kcallM 900 hR.inv te_ok rfl rfl rfl rfl rfl rfl rfl rfl rfl (rfail_ok l s hk hn) ?_
   simp only [go_sem]
   repeat refine ob2 ?_
   exact hQ
  refine Exec.retsMu hR te_ok rfl .nil rfl rfl rfl ?_ (.inl rfl)
  refine ⟨_, _, rfl, ?_⟩
  simp only [go_sem, endR, if_pos h2]
 ·have h2 : ¬ (endB l s = true) := by intro h; rw [show endB l s = _ from rfl] at h; simp [endB] at h h0; omega
  refine sk ?_
  refine Exec.retsMu hR te_ok rfl .nil rfl rfl rfl ?_ (.inl rfl)
  refine ⟨_, _, rfl, ?_⟩
  simp only [go_sem, endR, if_neg h2]
theorem rwrong_ok (l : List Tk) (s : RS) : FnM Laid Tryz.prog 116 134 [tksD l, iv s.n, iv s.b, iv s.m] [.lp 900 0] (.ret (rfC l (s)) (.tup [iv (wrongA s), iv (wrongE s)])) := by
 refine FnM_of Tryz.func116 Tryz.ntmps116 rfl (by as_aux_lemma => kernel_rfl) (Nat.le_of_ble_eq_true rfl) (fun R b0 hR => ?_)
 obtain ⟨_, b, cs, T, C⟩ := R
 obtain rfl : _ = Tryz.prog := hR.p
 refine sreg te_ok ?_
 refine sq ?_
 refine Exec.block ?_
 refine sreg te_ok ?_
 refine Exec.cond_split rfl (fun h0 => ?_) (fun h0 => ?_)
 ·have h2 : 0 ≤ s.b := by simpa using h0
  refine sreg te_ok ?_
  refine Exec.retsMu hR te_ok rfl .nil rfl rfl rfl ?_ (.inr ⟨_, rfl⟩)
  refine ⟨_, _, rfl, ?_⟩
  simp only [go_sem, wrongA, wrongE, if_pos h2]
 ·have h2 : ¬ 0 ≤ s.b := by simpa using h0
  refine sreg te_ok ?_
  refine Exec.cond_split rfl (fun h1 => ?_) (fun h1 => ?_)
  ·have h3 : 0 ≤ s.m := by simpa using h1
   refine sreg te_ok ?_
   refine Exec.retsMu hR te_ok rfl .nil rfl rfl rfl ?_ (.inr ⟨_, rfl⟩)
   refine ⟨_, _, rfl, ?_⟩
   simp only [go_sem, wrongA, wrongE, if_neg h2, if_pos h3]
  ·have h3 : ¬ 0 ≤ s.m := by simpa using h1
   refine sk ?_
   refine Exec.inBlock ?_
   refine sreg te_ok ?_
   refine Exec.retsMu hR te_ok rfl .nil rfl rfl rfl ?_ (.inr ⟨_, rfl⟩)
   refine ⟨_, _, rfl, ?_⟩
   simp only [go_sem, wrongA, wrongE, if_neg h2, if_neg h3]
theorem rtoldR_ok (l : List Tk) (s : RS) (hk : TkOk l) (hn : s.n < l.length) : FnM Laid Tryz.prog 113 134 [tksD l, iv s.n, iv s.b, iv s.m] [.lp 900 0] (.ret (rfC l (toldR l s).1) (.ag (opC (toldR l s).2))) := rtold_ok l s hk hn
end Go.Proofs.YtonchjamoblioaaGreatDoor
namespace Go.Proofs.YtonchjamoblioaaGreatDoor
open Go.Kin
set_option maxRecDepth 100000
set_option maxHeartbeats 0
section
variable {α : Type} {z : α} {rule : List Tk → RS → RS × α} {s : List UInt8}
theorem readR_no (h : lexE s ≠ 0) : readR z rule s = (z, lexA s, lexE s) := if_neg h
theorem readR_bad (h : lexE s = 0) {q : RS} {x : α} (hr : rule (lexT s) ⟨0, -1, -1⟩ = (q, x)) (h1 : wrongE (endR (lexT s) q) ≠ 0) : readR z rule s = (z, wrongA (endR (lexT s) q), wrongE (endR (lexT s) q)) := by unfold readR; rw [if_pos h, hr, if_neg h1]
theorem readR_ok (h : lexE s = 0) {q : RS} {x : α} (hr : rule (lexT s) ⟨0, -1, -1⟩ = (q, x)) (h1 : wrongE (endR (lexT s) q) = 0) : readR z rule s = (x, 0, 0) := by
 unfold readR; rw [if_pos h, hr, if_pos h1]
 have : wrongA (endR (lexT s) q) = 0 := by
  unfold wrongE at h1; unfold wrongA
  split at h1
  ·cases h1
  ·rename_i h2; split at h1
   ·cases h1
   ·rename_i h3; rw [if_neg h2, if_neg h3]
 rw [this, h1]
end
theorem rExpr_ok (s : List UInt8) (hs : s.length ≤ 140737488351232) : FnOK LaidX Tryz.prog 58 [sv s] (.tup [exD (readR xz wholeR s).1, iv (readR xz wholeR s).2.1, iv (readR xz wholeR s).2.2]) := by
 refine FnOK_of laidX_stable Tryz.func58 Tryz.ntmps58 rfl (by as_aux_lemma => kernel_rfl) (Nat.le_of_ble_eq_true rfl) (fun R hR => ?_)
 obtain ⟨_, b, cs, T, C⟩ := R
 obtain rfl : _ = Tryz.prog := hR.p
 refine sreg te_ok ?_
 refine sq ?_
 apply Exec.regionL te_ok
 ·intro o Q hQ
  simp only [go_sem]
  repeat refine ob2 ?_
  refine kcall hR.inv te_ok rfl rfl rfl rfl rfl rfl (rlex_ok s (by omega)) ?_
  simp only [go_sem]
  repeat refine ob2 ?_
  exact hQ
 refine sq ?_
 refine sreg te_ok ?_
 refine Exec.cond_split rfl (fun h0 => ?_) (fun h0 => ?_)
 ·have hE : lexE s ≠ 0 := by simpa using h0
  refine sreg te_ok ?_
  refine Exec.rets hR te_ok rfl rfl rfl (LeX.le ?_) (.inr ⟨_, rfl⟩)
  rw [readR_no hE]
  simp only [go_sem]
  exact ⟨rfl, rfl, by rw [kd_eq]; exact ⟨rfl, rfl⟩⟩
 ·have hE : lexE s = 0 := by simpa using h0
  obtain ⟨hk, h0n, _, _⟩ := lex_tk hE
  have hq : (wholeR (lexT s) ({ n := 0, b := -1, m := -1 } : RS)).1.n < (lexT s).length := (wholeR_on 0 ({ n := 0, b := -1, m := -1 } : RS) (Nat.zero_le _) h0n).2
  refine sk ?_
  refine sreg te_ok ?_
  refine sq ?_
  apply Exec.regionL te_ok
  ·intro o Q hQ
   simp only [go_sem]
   repeat refine ob2 ?_
   refine kcallM 25 hR.inv te_ok rfl rfl rfl rfl rfl rfl rfl rfl rfl ((rwhole_ok (lexT s) ({ n := 0, b := -1, m := -1 } : RS) hk h0n).weak laidX_laid) ?_
   simp only [go_sem]
   repeat refine ob2 ?_
   exact hQ
  refine sq ?_
  apply Exec.regionL te_ok
  ·intro o Q hQ
   simp only [go_sem]
   repeat refine ob2 ?_
   refine kcallM 25 hR.inv te_ok rfl rfl rfl rfl rfl rfl rfl rfl rfl ((rend_ok (lexT s) (wholeR (lexT s) ({ n := 0, b := -1, m := -1 } : RS)).1 hk hq).weak laidX_laid) ?_
   simp only [go_sem]
   repeat refine ob2 ?_
   exact hQ
  refine sq ?_
  apply Exec.regionL te_ok
  ·intro o Q hQ
   simp only [go_sem]
   repeat refine ob2 ?_
   refine kcallM 25 hR.inv te_ok rfl rfl rfl rfl rfl rfl rfl rfl rfl ((rwrong_ok (lexT s) (endR (lexT s) (wholeR (lexT s) ({ n := 0, b := -1, m := -1 } : RS)).1)).weak laidX_laid) ?_
   simp only [go_sem]
   repeat refine ob2 ?_
   exact hQ
  refine sq ?_
  refine sreg te_ok ?_
  refine Exec.cond_split rfl (fun h1 => ?_) (fun h1 => ?_)
  ·have hw : wrongE (endR (lexT s) (wholeR (lexT s) ({ n := 0, b := -1, m := -1 } : RS)).1) ≠ 0 := by simpa using h1
   refine sreg te_ok ?_
   refine Exec.rets hR te_ok rfl rfl rfl (LeX.le ?_) (.inr ⟨_, rfl⟩)
   rw [readR_bad hE rfl hw]
   simp only [go_sem]
   exact ⟨rfl, rfl, by rw [kd_eq]; exact ⟨rfl, rfl⟩⟩
  ·have hw : wrongE (endR (lexT s) (wholeR (lexT s) ({ n := 0, b := -1, m := -1 } : RS)).1) = 0 := by simpa using h1
   refine sk ?_
   refine sreg te_ok ?_
   refine Exec.rets hR te_ok rfl rfl rfl (LeX.le ?_) (.inr ⟨_, rfl⟩)
   rw [readR_ok (q := (wholeR (lexT s) ({ n := 0, b := -1, m := -1 } : RS)).1) (x := (wholeR (lexT s) ({ n := 0, b := -1, m := -1 } : RS)).2) hE rfl hw]
   simp only [go_sem]
end Go.Proofs.YtonchjamoblioaaGreatDoor
