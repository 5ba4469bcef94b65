/- Steps of a function body on data, and contracts of the functions of the seat, walked. -/
import Derived.Test.YtonchjamoblioaaGreatDoorZ7
set_option linter.unusedSimpArgs false
set_option linter.unusedVariables false
set_option linter.unusedSectionVars false
namespace Go.Proofs.YtonchjamoblioaaGreatDoor
open Go.Kin
/-! ### the text of an expression -/
theorem nth_map {α β : Type} [Inhabited α] [Inhabited β] (f : α → β) {l : List α} {i : Nat} (h : i < l.length) : nth (l.map f) i = f (nth l i) := by
  simp [nth, List.getD_eq_getElem?_getD, List.getElem?_map, List.getElem?_eq_getElem h]
theorem join_snoc (l : List (List UInt8)) (x s : List UInt8) (h : l ≠ []) : Lib.join (l ++ [x]) s = Lib.join l s ++ s ++ x := by
  cases l with
  | nil => exact absurd rfl h
  | cons a r => rw [List.cons_append, Lib.join_cons, Lib.join_cons]; simp [Lib.joinTail]
def sumL (c : Nat) : List (List UInt8) → Nat
  | [] => 0
  | x :: r => x.length + c + sumL c r
theorem tail_len (s : List UInt8) : ∀ r : List (List UInt8), (Lib.joinTail s r).length = sumL s.length r
  | [] => by simp [Lib.joinTail, sumL]
  | x :: r => by have := tail_len s r; simp [Lib.joinTail, sumL] at this ⊢; omega
theorem join_len (l : List (List UInt8)) (s : List UInt8) : (Lib.join l s).length ≤ sumL s.length l := by
  cases l with
  | nil => simp [Lib.join_nil]
  | cons a r => rw [Lib.join_cons, List.length_append, tail_len]; simp only [sumL]; omega
/-- a part within an expression: in brackets where it binds less -/
def grp (pk k : Int) (t : List UInt8) : List UInt8 := if k = 3 ∨ (k = 2 ∧ ¬ pk = 3) then 40 :: (t ++ [41]) else t
theorem grp_len (pk k : Int) (t : List UInt8) : (grp pk k t).length ≤ t.length + 2 := by
  unfold grp; split <;> simp
def sgn (k : Int) : UInt8 := if k = 4 then 42 else if k = 5 then 43 else 63
mutual
def exT : Ex → List UInt8
  | .mk k s ks => if k = 1 then s else if k = 2 then Lib.join (exTs k ks) [46] else if k = 3 then Lib.join (exTs k ks) [124] else nth (exTs k ks) 0 ++ [sgn k]
def exTs (pk : Int) : List Ex → List (List UInt8)
  | [] => []
  | y :: r => grp pk y.k (exT y) :: exTs pk r
end
theorem exTs_map (pk : Int) : ∀ l : List Ex, exTs pk l = l.map fun y => grp pk y.k (exT y)
  | [] => by simp [exTs]
  | y :: r => by simp [exTs, exTs_map pk r]
theorem exT_eq (x : Ex) : exT x = if x.k = 1 then x.s else if x.k = 2 then Lib.join (exTs x.k x.kids) [46] else if x.k = 3 then Lib.join (exTs x.k x.kids) [124] else nth (exTs x.k x.kids) 0 ++ [sgn x.k] := by
  cases x; simp only [exT, Ex.k, Ex.s, Ex.kids]; rfl
theorem free_len {s : List UInt8} (h : freeB s = true) : s.length ≤ 20 := by
  unfold freeB vertexB at h; simp at h; omega
theorem exsOk_mem : ∀ {l : List Ex}, exsOk l = true → ∀ y ∈ l, exOk y = true
  | x :: r, h, y, hy => by
    simp only [exsOk, Bool.and_eq_true] at h
    rcases List.mem_cons.1 hy with rfl | hy
    · exact h.1
    · exact exsOk_mem h.2 y hy
theorem exOk_kids {x : Ex} (h : exOk x = true) : ∀ y ∈ x.kids, exOk y = true := by
  rw [exOk_eq, Bool.and_eq_true] at h; exact exsOk_mem h.2
theorem exTs_sum (pk : Int) : ∀ l : List Ex, (∀ y ∈ l, (exT y).length + 3 ≤ 24 * y.size) → sumL 1 (exTs pk l) ≤ 24 * Ex.sizes l
  | [], _ => by simp [exTs, sumL]
  | y :: r, h => by
    have h1 := exTs_sum pk r fun z hz => h z (List.mem_cons_of_mem _ hz)
    have h2 := h y List.mem_cons_self
    have h3 := grp_len pk y.k (exT y)
    simp only [exTs, sumL, Ex.sizes]; omega
theorem exT_len : ∀ x : Ex, exOk x = true → (exT x).length + 3 ≤ 24 * x.size := fun x => by
  refine Ex.ind (p := fun x => exOk x = true → (exT x).length + 3 ≤ 24 * x.size) (fun x ih h => ?_) x
  have hs := exTs_sum x.k x.kids fun y hy => ih y hy (exOk_kids h y hy)
  have he := x.size_eq
  rw [exT_eq]
  by_cases h1 : x.k = 1
  · rw [if_pos h1]
    rw [partR_1 h1, Bool.and_eq_true] at h
    have := free_len h.1; omega
  · rw [if_neg h1]
    have j1 := join_len (exTs x.k x.kids) [46]
    have j2 := join_len (exTs x.k x.kids) [124]
    simp only [List.length_singleton] at j1 j2
    by_cases h2 : x.k = 2
    · rw [if_pos h2]; omega
    · rw [if_neg h2]
      by_cases h3 : x.k = 3
      · rw [if_pos h3]; omega
      · rw [if_neg h3]
        have hle : (nth (exTs x.k x.kids) 0).length ≤ sumL 1 (exTs x.k x.kids) := by
          cases exTs x.k x.kids with
          | nil => simp [nth, sumL]; rfl
          | cons a r => show a.length ≤ _; simp only [sumL]; omega
        simp only [List.length_append, List.length_singleton]; omega
theorem join_take {l : List (List UInt8)} {i : Nat} {s : List UInt8} (h1 : 1 ≤ i) (h : i < l.length) : Lib.join (l.take (i + 1)) s = Lib.join (l.take i) s ++ s ++ nth l i := by
  rw [take_succ_nth h, join_snoc]
  intro e
  rw [List.take_eq_nil_iff] at e
  rcases e with e | e
  · omega
  · subst e; simp at h
end Go.Proofs.YtonchjamoblioaaGreatDoor
namespace Go.Proofs.YtonchjamoblioaaGreatDoor
open Go.Kin
set_option maxRecDepth 100000
set_option maxHeartbeats 0
theorem join_map {α : Type} [Inhabited α] (l : List α) (f : α → List UInt8) (s : List UInt8) (hl : l.length ≤ 140737488355328) (hj : (Lib.join (l.map f) s).length ≤ 140737488355328) :
  FnOK Laid Tryz.prog 147 [.sl 1 l.length l.length (fun j => [sv (nth (l.map f) j)]), sv s] (sv (Lib.join (l.map f) s)) := by
 have h := join_ok (l.map f) s (by simpa using hl) hj
 unfold strsD at h
 rwa [List.length_map] at h
theorem joinedX_ok (l : List Ex) (s : List UInt8) (g : Ex → List UInt8) (x : Ex) (hl : l.length ≤ 1000000) (hj : (Lib.join (l.map g) s).length ≤ 140737488355328) (ihx : ∀ y ∈ l, FnOK Laid Tryz.prog 94 [exD y, .ptr (exC x)] (sv (g y))) : FnOK Laid Tryz.prog 95 [exsD l, sv s, .fn 94 [.ptr (exC x)]] (sv (Lib.join (l.map g) s)) := by
 refine FnOK_of laid_stable Tryz.func95 Tryz.ntmps95 rfl (by as_aux_lemma => kernel_rfl) (Nat.le_of_ble_eq_true rfl) (fun R hR => ?_)
 obtain ⟨_, b, cs, T, C⟩ := R
 obtain rfl : _ = Tryz.prog := hR.p
 refine sreg te_ok ?_
 refine sreg te_ok ?_
 refine sq ?_
 refine sreg te_ok ?_
 refine Exec.block ?_
 refine Exec.ownNil 7 1500 9 1 rfl rfl ?_
 apply Exec.norm
 ·simp only [go_sem]
  rfl
 apply Exec.loopU [1, 2, 10, 11] (X := Nat) (fun i => [(12, .d (iv i)), (7, .own 1500)]) (fun i => []) (fun i => [(1500, ⟨9, 1, i, i, fun j => [sv (nth (l.map g) j)]⟩)]) (fun i => l.length - i) (fun i => i ≤ l.length) 0
 case h0 =>
  first | assumption | omega | (simp only [Bool.not_eq_true', Bool.or_eq_false_iff, Bool.or_eq_true, Bool.and_eq_true, decide_eq_true_eq, decide_eq_false_iff_not, beq_iff_eq, Bool.not_eq_false']; omega) | (simp; done) | (simp; omega) | (intros; omega) | (simp_all; done) | (simp_all; omega)
 case hw =>
  simp only [go_sem]; exact fun i hi => absurd hi (Nat.not_lt_zero i)
 case body =>
  rintro i hx ih0
  try simp only at hx
  apply Exec.norm
  ·simp only [go_sem]
   rfl
  refine sreg te_ok ?_
  refine sq ?_
  refine Exec.cond_split rfl (fun h0 => ?_) (fun h0 => ?_)
  ·have hi : i < l.length := by have := of_decide_eq_true h0; omega
   have hr : nth (l.map g) i = g (nth l i) := nth_map g hi
   have ha := kdR_at hi
   have w2 : IntKind.i64.wrap ((i : Int) + 1) = ((i + 1 : Nat) : Int) := by rw [wrap_id (by omega)]; omega
   refine sk ?_
   refine sq ?_
   refine Exec.block ?_
   refine sq ?_
   apply Exec.regionL te_ok
   ·intro u' Q hQ
    simp only [go_sem, ha, w2]
    repeat refine ob2 ?_
    exact hQ
   apply Exec.regionL te_ok
   ·intro u' Q hQ
    simp only [go_sem, ha, w2]
    repeat refine ob2 ?_
    refine kcall hR.inv te_ok rfl rfl rfl rfl rfl rfl (ihx _ (nth_mem hi)) ?_
    simp only [go_sem, ha, w2]
    repeat refine ob2 ?_
    exact hQ
   refine Exec.inBlock ?_
   apply Exec.regionL te_ok
   ·intro u' Q hQ
    simp only [go_sem, ha, w2]
    repeat refine ob2 ?_
    exact hQ
   refine Exec.back (ih0 (i + 1) ?_ ?_) ?_ ?_ ?_ ?_ ?_ ?_ ?_
   ·try simp only
    omega
   ·try simp only
    omega
   ·rfl
   ·rfl
   ·(simp only [go_sem, w2])
   ·(simp only [go_sem, w2])
   ·simp only [go_sem, w2]
    exact fun q hq => catR_row (row := fun j => [sv (nth (l.map g) j)]) (by simp only [hr]) q hq
   ·simp only [go_sem, ha, w2]
   ·rfl
  ·obtain rfl : i = l.length := by have := of_decide_eq_false h0; omega
   refine Exec.exit rfl ?_
   refine sq ?_
   refine Exec.freeze 1500 rfl ?_
   apply Exec.norm
   ·simp only [go_sem]
    rfl
   apply Exec.regionL te_ok
   ·intro u' Q hQ
    simp only [go_sem]
    repeat refine ob2 ?_
    refine kcall hR.inv te_ok rfl rfl rfl rfl rfl rfl (join_map l g s (by omega) hj) ?_
    simp only [go_sem]
    repeat refine ob2 ?_
    exact hQ
   refine Exec.rets hR te_ok rfl rfl rfl (LeX.le ?_) (.inr ⟨_, rfl⟩)
   simp only [go_sem]
theorem sh1_ok (x y : Ex) (hy : (exT y).length ≤ 1000000) (h48 : FnOK Laid Tryz.prog 48 [exD y] (sv (exT y))) : FnOK Laid Tryz.prog 94 [exD y, .ptr (exC x)] (sv (grp x.k y.k (exT y))) := by
 refine FnOK_of laid_stable Tryz.func94 Tryz.ntmps94 rfl (by as_aux_lemma => kernel_rfl) (Nat.le_of_ble_eq_true rfl) (fun R hR => ?_)
 obtain ⟨_, b, cs, T, C⟩ := R
 obtain rfl : _ = Tryz.prog := hR.p
 refine sreg te_ok ?_
 refine sq ?_
 apply Exec.regionL te_ok
 ·intro u' Q hQ
  simp only [go_sem]
  repeat refine ob2 ?_
  refine kcall hR.inv te_ok rfl rfl rfl rfl rfl rfl (h48) ?_
  simp only [go_sem]
  repeat refine ob2 ?_
  exact hQ
 refine sq ?_
 refine sreg te_ok ?_
 refine Exec.cond_split rfl (fun h0 => ?_) (fun h0 => ?_)
 ·refine sreg te_ok ?_
  refine Exec.rets hR te_ok rfl rfl rfl (LeX.le ?_) (.inr ⟨_, rfl⟩)
  simp only [go_sem, grp]
  rw [if_pos (by simpa using h0)]
 ·refine sk ?_
  refine sreg te_ok ?_
  refine Exec.rets hR te_ok rfl rfl rfl (LeX.le ?_) (.inr ⟨_, rfl⟩)
  simp only [go_sem, grp]
  rw [if_neg (by simpa using h0)]
theorem sgn_at {k : Int} (h : k = 4 ∨ k = 5 ∨ k = 6) : List.take (Int.toNat 1) (List.take (((3 : Nat) : Int) - (k - 4)).toNat (List.drop (k - 4).toNat ([42, 43, 63] : List UInt8))) = [sgn k] := by
 rcases h with rfl | rfl | rfl <;> rfl
theorem kids1 {x : Ex} (h : exOk x = true) (h1 : ¬ x.k = 1) (h2 : ¬ x.k = 2) (h3 : ¬ x.k = 3) : (x.k = 4 ∨ x.k = 5 ∨ x.k = 6) ∧ 0 < x.kids.length := by
 have h4 : x.k = 4 ∨ x.k = 5 ∨ x.k = 6 := by
  rcases Classical.em (x.k = 4 ∨ x.k = 5 ∨ x.k = 6) with h4 | h4
  ·exact h4
  ·rw [partR_0 h1 (by omega) h4] at h; cases h
 rw [partR_4 h4] at h; simp at h; exact ⟨h4, by omega⟩
theorem exT_1 {x : Ex} (h : x.k = 1) : exT x = x.s := by rw [exT_eq, if_pos h]
theorem exT_2 {x : Ex} (h : x.k = 2) : exT x = Lib.join (x.kids.map fun y => grp x.k y.k (exT y)) [46] := by rw [exT_eq, if_neg (by omega), if_pos h, exTs_map]
theorem exT_3 {x : Ex} (h : x.k = 3) : exT x = Lib.join (x.kids.map fun y => grp x.k y.k (exT y)) [124] := by rw [exT_eq, if_neg (by omega), if_neg (by omega), if_pos h, exTs_map]
theorem exT_4 {x : Ex} (h1 : ¬ x.k = 1) (h2 : ¬ x.k = 2) (h3 : ¬ x.k = 3) (hk : 0 < x.kids.length) : exT x = grp x.k (nth x.kids 0).k (exT (nth x.kids 0)) ++ [sgn x.k] := by
 rw [exT_eq, if_neg h1, if_neg h2, if_neg h3, exTs_map, nth_map _ hk]
theorem shown_step (x : Ex) (hok : exOk x = true) (hsz : x.size ≤ 1000) (ihx : ∀ y ∈ x.kids, FnOK Laid Tryz.prog 94 [exD y, .ptr (exC x)] (sv (grp x.k y.k (exT y)))) : FnOK Laid Tryz.prog 48 [exD x] (sv (exT x)) := by
 refine FnOK_of laid_stable Tryz.func48 Tryz.ntmps48 rfl (by as_aux_lemma => kernel_rfl) (Nat.le_of_ble_eq_true rfl) (fun R hR => ?_)
 obtain ⟨_, b, cs, T, C⟩ := R
 obtain rfl : _ = Tryz.prog := hR.p
 have hln := Ex.len_le x.kids
 have hse := x.size_eq
 have htl := exT_len x hok
 refine sreg te_ok ?_
 refine sreg te_ok ?_
 refine sq ?_
 refine sq ?_
 refine Exec.freezeB 1 rfl rfl rfl ?_
 apply Exec.norm
 ·simp only [go_sem]
  rfl
 have hk := kd_eq x
 apply Exec.regionL te_ok
 ·intro u' Q hQ
  simp only [go_sem, hk]
  repeat refine ob2 ?_
  exact hQ
 refine Exec.block ?_
 refine sreg te_ok ?_
 refine Exec.cond_split rfl (fun h0 => ?_) (fun h0 => ?_)
 ·refine sreg te_ok ?_
  refine Exec.rets hR te_ok rfl rfl rfl (LeX.le ?_) (.inr ⟨_, rfl⟩)
  simp only [go_sem]
  rw [exT_1 (by simpa using h0)]
 ·refine sreg te_ok ?_
  refine Exec.cond_split rfl (fun h1 => ?_) (fun h1 => ?_)
  ·have hk2 : x.k = 2 := by simpa using h1
   have htl2 := exT_2 hk2
   have hj2 := joinedX_ok x.kids [46] (fun y => grp x.k y.k (exT y)) x (by omega) (by rw [← htl2]; omega) ihx
   simp only [exC, hk] at hj2
   refine sq ?_
   apply Exec.regionL te_ok
   ·intro u' Q hQ
    simp only [go_sem]
    repeat refine ob2 ?_
    refine kcall hR.inv te_ok rfl rfl rfl rfl rfl rfl (hj2) ?_
    simp only [go_sem]
    repeat refine ob2 ?_
    exact hQ
   refine Exec.rets hR te_ok rfl rfl rfl (LeX.le ?_) (.inr ⟨_, rfl⟩)
   simp only [go_sem]
   rw [exT_2 (by simpa using h1)]
  ·refine sreg te_ok ?_
   refine Exec.cond_split rfl (fun h2 => ?_) (fun h2 => ?_)
   ·have hk3 : x.k = 3 := by simpa using h2
    have htl3 := exT_3 hk3
    have hj3 := joinedX_ok x.kids [124] (fun y => grp x.k y.k (exT y)) x (by omega) (by rw [← htl3]; omega) ihx
    simp only [exC, hk] at hj3
    refine sq ?_
    apply Exec.regionL te_ok
    ·intro u' Q hQ
     simp only [go_sem]
     repeat refine ob2 ?_
     refine kcall hR.inv te_ok rfl rfl rfl rfl rfl rfl (hj3) ?_
     simp only [go_sem]
     repeat refine ob2 ?_
     exact hQ
    refine Exec.rets hR te_ok rfl rfl rfl (LeX.le ?_) (.inr ⟨_, rfl⟩)
    simp only [go_sem]
    rw [exT_3 (by simpa using h2)]
   ·obtain ⟨hk4, hkl⟩ := kids1 hok (by simpa using h0) (by simpa using h1) (by simpa using h2)
    have ha := kdR_at hkl
    have hj4 := ihx _ (nth_mem hkl)
    simp only [exC, hk] at hj4
    have ht4 := exT_4 (by simpa using h0) (by simpa using h1) (by simpa using h2) hkl
    have w9 : IntKind.i64.wrap (x.k - 4) = x.k - 4 := wrap_id (by omega)
    refine sk ?_
    refine Exec.inBlock ?_
    refine sq ?_
    apply Exec.draw (st := _) 14 13 [] [] te_ok (by as_aux_lemma => kernel_rfl) (by as_aux_lemma => kernel_rfl) (by as_aux_lemma => kernel_rfl)
    ·intro u' Q hQ
     simp only [go_sem, ha, w9]
     repeat refine ob2 ?_
     refine kdcall hR.inv te_ok rfl rfl rfl rfl rfl rfl (hj4) ?_
     simp only [go_sem, ha, w9]
     repeat refine ob2 ?_
     exact hQ
    refine Exec.rets hR te_ok rfl rfl rfl (LeX.le ?_) (.inr ⟨_, rfl⟩)
    simp only [go_sem]
    rw [ht4, sgn_at hk4]
theorem shown_ok' (x : Ex) (hok : exOk x = true) (hsz : x.size ≤ 1000) : FnOK Laid Tryz.prog 48 [exD x] (sv (exT x)) := by
 refine Ex.ind (p := fun x => exOk x = true → x.size ≤ 1000 → FnOK Laid Tryz.prog 48 [exD x] (sv (exT x))) (fun x ih h1 h2 => shown_step x h1 h2 fun y hy => ?_) x hok hsz
 have := Ex.sizes_mem hy
 have := x.size_eq
 have := exT_len y (exOk_kids h1 y hy)
 exact sh1_ok x y (by omega) (ih y hy (exOk_kids h1 y hy) (by omega))
theorem kid_ok (x : Ex) (pk : Int) (hx : (exT x).length ≤ 1000000) (h50 : FnOK Laid Tryz.prog 50 [exD x] (sv (exT x))) : FnOK Laid Tryz.prog 98 [exD x, iv pk] (sv (grp pk x.k (exT x))) := by
 refine FnOK_of laid_stable Tryz.func98 Tryz.ntmps98 rfl (by as_aux_lemma => kernel_rfl) (Nat.le_of_ble_eq_true rfl) (fun R hR => ?_)
 obtain ⟨_, b, cs, T, C⟩ := R
 obtain rfl : _ = Tryz.prog := hR.p
 refine sreg te_ok ?_
 refine sq ?_
 refine sreg te_ok ?_
 refine Exec.cond_split rfl (fun h0 => ?_) (fun h0 => ?_)
 ·refine sq ?_
  apply Exec.regionL te_ok
  ·intro u' Q hQ
   simp only [go_sem]
   repeat refine ob2 ?_
   refine kcall hR.inv te_ok rfl rfl rfl rfl rfl rfl (h50) ?_
   simp only [go_sem]
   repeat refine ob2 ?_
   exact hQ
  refine Exec.rets hR te_ok rfl rfl rfl (LeX.le ?_) (.inr ⟨_, rfl⟩)
  simp only [go_sem, grp]
  rw [if_pos (by simpa using h0)]
 ·refine sk ?_
  refine sq ?_
  apply Exec.regionL te_ok
  ·intro u' Q hQ
   simp only [go_sem]
   repeat refine ob2 ?_
   refine kcall hR.inv te_ok rfl rfl rfl rfl rfl rfl (h50) ?_
   simp only [go_sem]
   repeat refine ob2 ?_
   exact hQ
  refine Exec.rets hR te_ok rfl rfl rfl (LeX.le ?_) (.inr ⟨_, rfl⟩)
  simp only [go_sem, grp]
  rw [if_neg (by simpa using h0)]
theorem kids2 {x : Ex} (h : exOk x = true) (h1 : ¬ x.k = 1) : 0 < x.kids.length := by
 rcases Classical.em (x.k = 2 ∨ x.k = 3) with h2 | h2
 ·rw [partR_2 h2] at h; simp at h; omega
 ·exact (kids1 h h1 (by omega) (by omega)).2
abbrev kt (x : Ex) : List (List UInt8) := x.kids.map fun y => grp x.k y.k (exT y)
theorem kt_nth {x : Ex} {i : Nat} (h : i < x.kids.length) : nth (kt x) i = grp x.k (nth x.kids i).k (exT (nth x.kids i)) := nth_map _ h
theorem join_le (l : List (List UInt8)) (s : List UInt8) (i : Nat) : (Lib.join (l.take i) s).length ≤ sumL s.length l := by
 refine Nat.le_trans (join_len _ s) ?_
 induction l generalizing i with
 | nil => simp [sumL]
 | cons a r ih => cases i with
  | zero => simp [sumL]
  | succ i => simp only [List.take_succ_cons, sumL]; have := ih i; omega
theorem kt_sum {x : Ex} (h : exOk x = true) : sumL 1 (kt x) ≤ 24 * Ex.sizes x.kids := by
 have := exTs_sum x.k x.kids fun y hy => exT_len y (exOk_kids h y hy)
 rwa [exTs_map] at this
theorem rexpr_step (x : Ex) (hok : exOk x = true) (hsz : x.size ≤ 1000) (ihx : ∀ y ∈ x.kids, FnOK Laid Tryz.prog 50 [exD y] (sv (exT y))) : FnOK Laid Tryz.prog 50 [exD x] (sv (exT x)) := by
 refine FnOK_of laid_stable Tryz.func50 Tryz.ntmps50 rfl (by as_aux_lemma => kernel_rfl) (Nat.le_of_ble_eq_true rfl) (fun R hR => ?_)
 obtain ⟨_, b, cs, T, C⟩ := R
 obtain rfl : _ = Tryz.prog := hR.p
 have hln := Ex.len_le x.kids
 have hse := x.size_eq
 have htl := exT_len x hok
 have hkt := kt_sum hok
 have hk := kd_eq x
 refine sq ?_
 apply Exec.regionL te_ok
 ·intro u' Q hQ
  simp only [go_sem, hk]
  repeat refine ob2 ?_
  exact hQ
 refine sq ?_
 apply Exec.regionL te_ok
 ·intro u' Q hQ
  simp only [go_sem, hk]
  repeat refine ob2 ?_
  exact hQ
 refine sq ?_
 refine sq ?_
 apply Exec.regionL te_ok
 ·intro u' Q hQ
  simp only [go_sem, hk]
  repeat refine ob2 ?_
  exact hQ
 refine Exec.block ?_
 refine sq ?_
 apply Exec.regionL te_ok
 ·intro u' Q hQ
  simp only [go_sem, hk]
  repeat refine ob2 ?_
  exact hQ
 refine Exec.cond_split rfl (fun h0 => ?_) (fun h0 => ?_)
 ·refine sq ?_
  apply Exec.regionL te_ok
  ·intro u' Q hQ
   simp only [go_sem, hk]
   repeat refine ob2 ?_
   exact hQ
  refine Exec.rets hR te_ok rfl rfl rfl (LeX.le ?_) (.inr ⟨_, rfl⟩)
  simp only [go_sem]
  rw [exT_1 (by simpa using h0)]
 ·have hkl := kids2 hok (by simpa using h0)
  have ha := kdR_at hkl
  have hb0 : (grp x.k (nth x.kids 0).k (exT (nth x.kids 0))).length ≤ 1000000 := by have := grp_len x.k (nth x.kids 0).k (exT (nth x.kids 0)); have := exT_len _ (exOk_kids hok _ (nth_mem hkl)); have := Ex.sizes_mem (nth_mem hkl); omega
  refine sq ?_
  apply Exec.regionL te_ok
  ·intro u' Q hQ
   simp only [go_sem, hk, ha]
   repeat refine ob2 ?_
   exact hQ
  refine Exec.cond_split rfl (fun h1 => ?_) (fun h1 => ?_)
  ·have hk4 : x.k = 4 := by simpa using h1
   have ht4 := exT_4 (x := x) (by omega) (by omega) (by omega) hkl
   refine sq ?_
   apply Exec.draw (st := _) 10 9 [] [] te_ok (by as_aux_lemma => kernel_rfl) (by as_aux_lemma => kernel_rfl) (by as_aux_lemma => kernel_rfl)
   ·intro u' Q hQ
    simp only [go_sem, hk, ha]
    repeat refine ob2 ?_
    refine kdcall hR.inv te_ok rfl rfl rfl rfl rfl rfl (kid_ok (nth x.kids 0) x.k (by have := exT_len _ (exOk_kids hok _ (nth_mem hkl)); have := Ex.sizes_mem (nth_mem hkl); omega) (ihx _ (nth_mem hkl))) ?_
    simp only [go_sem, hk, ha]
    repeat refine ob2 ?_
    exact hQ
   refine Exec.rets hR te_ok rfl rfl rfl (LeX.le ?_) (.inr ⟨_, rfl⟩)
   simp only [go_sem]
   rw [ht4, show sgn x.k = 42 from by rw [hk4]; rfl]
  ·refine sq ?_
   apply Exec.regionL te_ok
   ·intro u' Q hQ
    simp only [go_sem, hk, ha]
    repeat refine ob2 ?_
    exact hQ
   refine Exec.cond_split rfl (fun h2 => ?_) (fun h2 => ?_)
   ·have hk4 : x.k = 5 := by simpa using h2
    have ht4 := exT_4 (x := x) (by omega) (by omega) (by omega) hkl
    refine sq ?_
    apply Exec.draw (st := _) 10 9 [] [] te_ok (by as_aux_lemma => kernel_rfl) (by as_aux_lemma => kernel_rfl) (by as_aux_lemma => kernel_rfl)
    ·intro u' Q hQ
     simp only [go_sem, hk, ha]
     repeat refine ob2 ?_
     refine kdcall hR.inv te_ok rfl rfl rfl rfl rfl rfl (kid_ok (nth x.kids 0) x.k (by have := exT_len _ (exOk_kids hok _ (nth_mem hkl)); have := Ex.sizes_mem (nth_mem hkl); omega) (ihx _ (nth_mem hkl))) ?_
     simp only [go_sem, hk, ha]
     repeat refine ob2 ?_
     exact hQ
    refine Exec.rets hR te_ok rfl rfl rfl (LeX.le ?_) (.inr ⟨_, rfl⟩)
    simp only [go_sem]
    rw [ht4, show sgn x.k = 43 from by rw [hk4]; rfl]
   ·refine sq ?_
    apply Exec.regionL te_ok
    ·intro u' Q hQ
     simp only [go_sem, hk, ha]
     repeat refine ob2 ?_
     exact hQ
    refine Exec.cond_split rfl (fun h3 => ?_) (fun h3 => ?_)
    ·have hk4 : x.k = 6 := by simpa using h3
     have ht4 := exT_4 (x := x) (by omega) (by omega) (by omega) hkl
     refine sq ?_
     apply Exec.draw (st := _) 10 9 [] [] te_ok (by as_aux_lemma => kernel_rfl) (by as_aux_lemma => kernel_rfl) (by as_aux_lemma => kernel_rfl)
     ·intro u' Q hQ
      simp only [go_sem, hk, ha]
      repeat refine ob2 ?_
      refine kdcall hR.inv te_ok rfl rfl rfl rfl rfl rfl (kid_ok (nth x.kids 0) x.k (by have := exT_len _ (exOk_kids hok _ (nth_mem hkl)); have := Ex.sizes_mem (nth_mem hkl); omega) (ihx _ (nth_mem hkl))) ?_
      simp only [go_sem, hk, ha]
      repeat refine ob2 ?_
      exact hQ
     refine Exec.rets hR te_ok rfl rfl rfl (LeX.le ?_) (.inr ⟨_, rfl⟩)
     simp only [go_sem]
     rw [ht4, show sgn x.k = 63 from by rw [hk4]; rfl]
    ·refine sq ?_
     apply Exec.regionL te_ok
     ·intro u' Q hQ
      simp only [go_sem, hk, ha]
      repeat refine ob2 ?_
      exact hQ
     refine Exec.cond_split rfl (fun h4 => ?_) (fun h4 => ?_)
     ·have hk2 : x.k = 2 := by simpa using h4
      have hj46 : Lib.join ((kt x).take 1) [46] = grp x.k (nth x.kids 0).k (exT (nth x.kids 0)) := by rw [show (1 : Nat) = 0 + 1 from rfl, take_succ_nth (by simpa using hkl)]; rw [kt_nth hkl]; exact Lib.join_one _ _
      apply Exec.regionL te_ok
      ·intro u' Q hQ
       simp only [go_sem, hk, ha]
       repeat refine ob2 ?_
       exact hQ
      refine Exec.inBlock ?_
      refine sq ?_
      apply Exec.draw (st := _) 9 8 [] [] te_ok (by as_aux_lemma => kernel_rfl) (by as_aux_lemma => kernel_rfl) (by as_aux_lemma => kernel_rfl)
      ·intro u' Q hQ
       simp only [go_sem, hk, ha]
       repeat refine ob2 ?_
       refine kdcall hR.inv te_ok rfl rfl rfl rfl rfl rfl (kid_ok (nth x.kids 0) x.k (by have := exT_len _ (exOk_kids hok _ (nth_mem hkl)); have := Ex.sizes_mem (nth_mem hkl); omega) (ihx _ (nth_mem hkl))) ?_
       simp only [go_sem, hk, ha]
       repeat refine ob2 ?_
       exact hQ
      refine sq ?_
      refine sq ?_
      apply Exec.regionL te_ok
      ·intro u' Q hQ
       simp only [go_sem, hk, ha]
       repeat refine ob2 ?_
       exact hQ
      refine Exec.block ?_
      apply Exec.loopU [1, 3] (X := Nat) (fun i => [(5, .d (iv i)), (4, .d (sv (Lib.join ((kt x).take i) [46])))]) (fun i => []) (fun i => []) (fun i => x.kids.length - i) (fun i => 1 ≤ i ∧ i ≤ x.kids.length) 1
      case h0 =>
       omega
      case hw =>
       simp only [go_sem, hj46]; simp
      case body =>
       rintro i hx ih0
       try simp only at hx
       apply Exec.norm
       ·simp only [go_sem, hk, ha]
        rfl
       refine sq ?_
       refine sq ?_
       apply Exec.regionL te_ok
       ·intro u' Q hQ
        simp only [go_sem, hk, ha]
        repeat refine ob2 ?_
        exact hQ
       refine Exec.cond_split rfl (fun h5 => ?_) (fun h5 => ?_)
       ·have hi : i < x.kids.length := by have := of_decide_eq_true h5; omega
        have ha1 := kdR_at hi
        have hb := join_le (kt x) [46] i
        have hs := join_take (s := [46]) hx.1 (show i < (kt x).length by simpa using hi)
        rw [kt_nth hi] at hs
        simp only [List.length_singleton] at hb
        have hbi : (grp x.k (nth x.kids i).k (exT (nth x.kids i))).length ≤ 1000000 := by have := grp_len x.k (nth x.kids i).k (exT (nth x.kids i)); have := exT_len _ (exOk_kids hok _ (nth_mem hi)); have := Ex.sizes_mem (nth_mem hi); omega
        have w2 : IntKind.i64.wrap ((i : Int) + 1) = ((i + 1 : Nat) : Int) := by rw [wrap_id (by omega)]; omega
        refine sk ?_
        refine sq ?_
        refine Exec.block ?_
        apply Exec.draw (st := _) 14 12 [] [] te_ok (by as_aux_lemma => kernel_rfl) (by as_aux_lemma => kernel_rfl) (by as_aux_lemma => kernel_rfl)
        ·intro u' Q hQ
         simp only [go_sem, hk, ha, ha1, hs, w2]
         repeat refine ob2 ?_
         refine kdcall hR.inv te_ok rfl rfl rfl rfl rfl rfl (kid_ok (nth x.kids i) x.k (by have := exT_len _ (exOk_kids hok _ (nth_mem hi)); have := Ex.sizes_mem (nth_mem hi); omega) (ihx _ (nth_mem hi))) ?_
         simp only [go_sem, hk, ha, ha1, hs, w2]
         repeat refine ob2 ?_
         exact hQ
        refine Exec.inBlock ?_
        apply Exec.regionL te_ok
        ·intro u' Q hQ
         simp only [go_sem, hk, ha, ha1, hs, w2]
         repeat refine ob2 ?_
         exact hQ
        refine Exec.back (ih0 (i + 1) ?_ ?_) ?_ ?_ ?_ ?_ ?_ ?_ ?_
        ·try simp only
         omega
        ·try simp only
         omega
        ·rfl
        ·rfl
        ·(simp only [go_sem, hk, ha, ha1, hs, w2])
        ·(simp only [go_sem, hk, ha, ha1, hs, w2])
        ·(simp only [go_sem, hk, ha, ha1, hs, w2])
        ·simp only [go_sem, hk, ha, ha1, hs, w2]
        ·rfl
       ·refine Exec.exit rfl ?_
        refine sq ?_
        apply Exec.regionL te_ok
        ·intro u' Q hQ
         simp only [go_sem, hk, ha]
         repeat refine ob2 ?_
         exact hQ
        refine Exec.rets hR te_ok rfl rfl rfl (LeX.le ?_) (.inr ⟨_, rfl⟩)
        simp only [go_sem]
        rw [exT_2 hk2, List.take_of_length_le (by have := of_decide_eq_false h5; simp; omega)]
     ·refine sq ?_
      apply Exec.regionL te_ok
      ·intro u' Q hQ
       simp only [go_sem, hk, ha]
       repeat refine ob2 ?_
       exact hQ
      refine Exec.cond_split rfl (fun h6 => ?_) (fun h6 => ?_)
      rotate_left 1
      ·exfalso
       have hk2 : ¬ x.k = 2 := by simpa using h4
       have hk3 : ¬ x.k = 3 := by simpa using h6
       have := (kids1 hok (by simpa using h0) hk2 hk3).1
       simp at h1 h2 h3; omega
      have hk3 : x.k = 3 := by simpa using h6
      have hj124 : Lib.join ((kt x).take 1) [124] = grp x.k (nth x.kids 0).k (exT (nth x.kids 0)) := by rw [show (1 : Nat) = 0 + 1 from rfl, take_succ_nth (by simpa using hkl)]; rw [kt_nth hkl]; exact Lib.join_one _ _
      apply Exec.regionL te_ok
      ·intro u' Q hQ
       simp only [go_sem, hk, ha]
       repeat refine ob2 ?_
       exact hQ
      refine Exec.inBlock ?_
      refine sq ?_
      apply Exec.draw (st := _) 9 8 [] [] te_ok (by as_aux_lemma => kernel_rfl) (by as_aux_lemma => kernel_rfl) (by as_aux_lemma => kernel_rfl)
      ·intro u' Q hQ
       simp only [go_sem, hk, ha]
       repeat refine ob2 ?_
       refine kdcall hR.inv te_ok rfl rfl rfl rfl rfl rfl (kid_ok (nth x.kids 0) x.k (by have := exT_len _ (exOk_kids hok _ (nth_mem hkl)); have := Ex.sizes_mem (nth_mem hkl); omega) (ihx _ (nth_mem hkl))) ?_
       simp only [go_sem, hk, ha]
       repeat refine ob2 ?_
       exact hQ
      refine sq ?_
      refine sq ?_
      apply Exec.regionL te_ok
      ·intro u' Q hQ
       simp only [go_sem, hk, ha]
       repeat refine ob2 ?_
       exact hQ
      refine Exec.block ?_
      apply Exec.loopU [1, 3] (X := Nat) (fun i => [(5, .d (iv i)), (4, .d (sv (Lib.join ((kt x).take i) [124])))]) (fun i => []) (fun i => []) (fun i => x.kids.length - i) (fun i => 1 ≤ i ∧ i ≤ x.kids.length) 1
      case h0 =>
       omega
      case hw =>
       simp only [go_sem, hj124]; simp
      case body =>
       rintro i hx ih1
       try simp only at hx
       apply Exec.norm
       ·simp only [go_sem, hk, ha]
        rfl
       refine sq ?_
       refine sq ?_
       apply Exec.regionL te_ok
       ·intro u' Q hQ
        simp only [go_sem, hk, ha]
        repeat refine ob2 ?_
        exact hQ
       refine Exec.cond_split rfl (fun h7 => ?_) (fun h7 => ?_)
       ·have hi : i < x.kids.length := by have := of_decide_eq_true h7; omega
        have ha1 := kdR_at hi
        have hb := join_le (kt x) [124] i
        have hs := join_take (s := [124]) hx.1 (show i < (kt x).length by simpa using hi)
        rw [kt_nth hi] at hs
        simp only [List.length_singleton] at hb
        have hbi : (grp x.k (nth x.kids i).k (exT (nth x.kids i))).length ≤ 1000000 := by have := grp_len x.k (nth x.kids i).k (exT (nth x.kids i)); have := exT_len _ (exOk_kids hok _ (nth_mem hi)); have := Ex.sizes_mem (nth_mem hi); omega
        have w2 : IntKind.i64.wrap ((i : Int) + 1) = ((i + 1 : Nat) : Int) := by rw [wrap_id (by omega)]; omega
        refine sk ?_
        refine sq ?_
        refine Exec.block ?_
        apply Exec.draw (st := _) 14 12 [] [] te_ok (by as_aux_lemma => kernel_rfl) (by as_aux_lemma => kernel_rfl) (by as_aux_lemma => kernel_rfl)
        ·intro u' Q hQ
         simp only [go_sem, hk, ha, ha1, hs, w2]
         repeat refine ob2 ?_
         refine kdcall hR.inv te_ok rfl rfl rfl rfl rfl rfl (kid_ok (nth x.kids i) x.k (by have := exT_len _ (exOk_kids hok _ (nth_mem hi)); have := Ex.sizes_mem (nth_mem hi); omega) (ihx _ (nth_mem hi))) ?_
         simp only [go_sem, hk, ha, ha1, hs, w2]
         repeat refine ob2 ?_
         exact hQ
        refine Exec.inBlock ?_
        apply Exec.regionL te_ok
        ·intro u' Q hQ
         simp only [go_sem, hk, ha, ha1, hs, w2]
         repeat refine ob2 ?_
         exact hQ
        refine Exec.back (ih1 (i + 1) ?_ ?_) ?_ ?_ ?_ ?_ ?_ ?_ ?_
        ·try simp only
         omega
        ·try simp only
         omega
        ·rfl
        ·rfl
        ·(simp only [go_sem, hk, ha, ha1, hs, w2])
        ·(simp only [go_sem, hk, ha, ha1, hs, w2])
        ·(simp only [go_sem, hk, ha, ha1, hs, w2])
        ·simp only [go_sem, hk, ha, ha1, hs, w2]
        ·rfl
       ·refine Exec.exit rfl ?_
        refine sq ?_
        apply Exec.regionL te_ok
        ·intro u' Q hQ
         simp only [go_sem, hk, ha]
         repeat refine ob2 ?_
         exact hQ
        refine Exec.rets hR te_ok rfl rfl rfl (LeX.le ?_) (.inr ⟨_, rfl⟩)
        simp only [go_sem]
        rw [exT_3 hk3, List.take_of_length_le (by have := of_decide_eq_false h7; simp; omega)]
end Go.Proofs.YtonchjamoblioaaGreatDoor
namespace Go.Proofs.YtonchjamoblioaaGreatDoor
open Go.Kin
set_option maxRecDepth 100000
set_option maxHeartbeats 0
attribute [go_sem] te_124 te_165
theorem rexpr_ok' (x : Ex) (hok : exOk x = true) (hsz : x.size ≤ 1000) : FnOK Laid Tryz.prog 50 [exD x] (sv (exT x)) := by
 refine Ex.ind (p := fun x => exOk x = true → x.size ≤ 1000 → FnOK Laid Tryz.prog 50 [exD x] (sv (exT x))) (fun x ih h1 h2 => rexpr_step x h1 h2 fun y hy => ?_) x hok hsz
 have := Ex.sizes_mem hy
 have := x.size_eq
 exact ih y hy (exOk_kids h1 y hy) (by omega)
def opT (o : Opd) : List UInt8 := if o.k = 1 then o.n else if o.k = 2 then o.n ++ [46] ++ o.key else showT ⟨o.vk, o.vn, o.vs⟩
def opS (k : Int) : List UInt8 := if k = 1 then [61] else if k = 2 then [33, 61] else if k = 3 then [60] else if k = 4 then [60, 61] else if k = 5 then [62] else [62, 61]
def cdT (c : Cd) : List UInt8 := opT c.l ++ [32] ++ opS c.op ++ [32] ++ opT c.r
def ptT (p : Pt) : List UInt8 := [40] ++ p.a ++ [41] ++ (if p.path then [61, 91] ++ exT p.e ++ [93, 61, 62] else if p.name = [] then [45, 91] ++ p.lab ++ [93, 45, 62] else [45, 91] ++ p.lab ++ [32, 97, 115, 32] ++ p.name ++ [93, 45, 62]) ++ [40] ++ p.z ++ [41]
theorem xopT_ok (o : Opd) (hfo : FitO o) : FnOK Laid Tryz.prog 89 [opD o] (sv (opT o)) := by
 refine FnOK_of laid_stable Tryz.func89 Tryz.ntmps89 rfl (by as_aux_lemma => kernel_rfl) (Nat.le_of_ble_eq_true rfl) (fun R hR => ?_)
 obtain ⟨_, b, cs, T, C⟩ := R
 obtain rfl : _ = Tryz.prog := hR.p
 have hn := hfo.n
 have hkey := hfo.key
 have hvs := hfo.vs
 refine sreg te_ok ?_
 refine sq ?_
 apply Exec.regionL te_ok
 ·intro u' Q hQ
  simp only [go_sem]
  repeat refine ob2 ?_
  refine kcall hR.inv te_ok rfl rfl rfl rfl rfl rfl (show_ok o.vk o.vn o.vs (by omega)) ?_
  simp only [go_sem]
  repeat refine ob2 ?_
  exact hQ
 refine sq ?_
 refine sreg te_ok ?_
 refine Exec.block ?_
 refine sreg te_ok ?_
 refine Exec.cond_split rfl (fun h0 => ?_) (fun h0 => ?_)
 ·refine Exec.reg te_ok ?_
  refine Exec.inBlock ?_
  refine sreg te_ok ?_
  refine Exec.rets hR te_ok rfl rfl rfl (LeX.le ?_) (.inr ⟨_, rfl⟩)
  simp only [go_sem, opT]
  simp_all
 ·refine sreg te_ok ?_
  refine Exec.cond_split rfl (fun h1 => ?_) (fun h1 => ?_)
  ·refine Exec.reg te_ok ?_
   refine Exec.inBlock ?_
   refine sreg te_ok ?_
   refine Exec.rets hR te_ok rfl rfl rfl (LeX.le ?_) (.inr ⟨_, rfl⟩)
   simp only [go_sem, opT]
   simp_all
  ·refine sk ?_
   refine Exec.inBlock ?_
   refine sreg te_ok ?_
   refine Exec.rets hR te_ok rfl rfl rfl (LeX.le ?_) (.inr ⟨_, rfl⟩)
   simp only [go_sem, opT]
   simp_all
theorem ropT_ok (o : Opd) (hfo : FitO o) : FnOK Laid Tryz.prog 45 [opD o] (sv (opT o)) := by
 refine FnOK_of laid_stable Tryz.func45 Tryz.ntmps45 rfl (by as_aux_lemma => kernel_rfl) (Nat.le_of_ble_eq_true rfl) (fun R hR => ?_)
 obtain ⟨_, b, cs, T, C⟩ := R
 obtain rfl : _ = Tryz.prog := hR.p
 have hn := hfo.n
 have hkey := hfo.key
 have hvs := hfo.vs
 refine sreg te_ok ?_
 refine sq ?_
 refine sreg te_ok ?_
 refine Exec.block ?_
 refine sreg te_ok ?_
 refine Exec.cond_split rfl (fun h0 => ?_) (fun h0 => ?_)
 ·refine sreg te_ok ?_
  refine Exec.rets hR te_ok rfl rfl rfl (LeX.le ?_) (.inr ⟨_, rfl⟩)
  simp only [go_sem, opT]
  simp_all
 ·refine sreg te_ok ?_
  refine Exec.cond_split rfl (fun h1 => ?_) (fun h1 => ?_)
  ·refine sreg te_ok ?_
   refine Exec.rets hR te_ok rfl rfl rfl (LeX.le ?_) (.inr ⟨_, rfl⟩)
   simp only [go_sem, opT]
   simp_all
  ·refine sk ?_
   refine Exec.inBlock ?_
   refine sq ?_
   apply Exec.regionL te_ok
   ·intro u' Q hQ
    simp only [go_sem]
    repeat refine ob2 ?_
    refine kcall hR.inv te_ok rfl rfl rfl rfl rfl rfl (rshow_ok o.vk o.vn o.vs (by omega)) ?_
    simp only [go_sem]
    repeat refine ob2 ?_
    exact hQ
   refine sreg te_ok ?_
   refine Exec.rets hR te_ok rfl rfl rfl (LeX.le ?_) (.inr ⟨_, rfl⟩)
   simp only [go_sem, opT]
   simp_all
theorem op1_ok  : FnOK Laid Tryz.prog 46 [iv 1] (sv (opS 1)) := by
 refine FnOK_of laid_stable Tryz.func46 Tryz.ntmps46 rfl (by as_aux_lemma => kernel_rfl) (Nat.le_of_ble_eq_true rfl) (fun R hR => ?_)
 obtain ⟨_, b, cs, T, C⟩ := R
 obtain rfl : _ = Tryz.prog := hR.p
 refine sreg te_ok ?_
 refine sreg te_ok ?_
 refine sreg te_ok ?_
 refine Exec.rets hR te_ok rfl rfl rfl (LeX.le ?_) (.inr ⟨_, rfl⟩)
 simp only [go_sem, opS]
 rfl
theorem xcond1_ok (c : Cd) (hop : c.op = 1) (hl : FitO c.l) (hr : FitO c.r) (hl2 : (opT c.l).length ≤ 1000000) (hr2 : (opT c.r).length ≤ 1000000) : FnOK Laid Tryz.prog 85 [cdD c] (sv (cdT c)) := by
 refine FnOK_of laid_stable Tryz.func85 Tryz.ntmps85 rfl (by as_aux_lemma => kernel_rfl) (Nat.le_of_ble_eq_true rfl) (fun R hR => ?_)
 obtain ⟨_, b, cs, T, C⟩ := R
 obtain rfl : _ = Tryz.prog := hR.p
 have hz : Int.toNat 1 * 1 = 1 := rfl
 refine sq ?_
 apply Exec.regionL te_ok
 ·intro u' Q hQ
  simp only [go_sem, hop, hz]
  repeat refine ob2 ?_
  exact hQ
 refine sq ?_
 apply Exec.regionL te_ok
 ·intro u' Q hQ
  simp only [go_sem, hop, hz]
  repeat refine ob2 ?_
  exact hQ
 refine sq ?_
 apply Exec.draw (st := _) 16 15 [] [] te_ok (by as_aux_lemma => kernel_rfl) (by as_aux_lemma => kernel_rfl) (by as_aux_lemma => kernel_rfl)
 ·intro u' Q hQ
  simp only [go_sem, hop, hz]
  repeat refine ob2 ?_
  refine kdcall hR.inv te_ok rfl rfl rfl rfl rfl rfl (xopT_ok c.l hl) ?_
  simp only [go_sem, hop, hz]
  repeat refine ob2 ?_
  refine kdcall hR.inv te_ok rfl rfl rfl rfl rfl rfl (xopT_ok c.r hr) ?_
  simp only [go_sem, hop, hz]
  repeat refine ob2 ?_
  exact hQ
 refine Exec.rets hR te_ok rfl rfl rfl (LeX.le ?_) (.inr ⟨_, rfl⟩)
 simp only [go_sem, cdT, hop, opS]
theorem op2_ok  : FnOK Laid Tryz.prog 46 [iv 2] (sv (opS 2)) := by
 refine FnOK_of laid_stable Tryz.func46 Tryz.ntmps46 rfl (by as_aux_lemma => kernel_rfl) (Nat.le_of_ble_eq_true rfl) (fun R hR => ?_)
 obtain ⟨_, b, cs, T, C⟩ := R
 obtain rfl : _ = Tryz.prog := hR.p
 refine sreg te_ok ?_
 refine sreg te_ok ?_
 refine sreg te_ok ?_
 refine Exec.rets hR te_ok rfl rfl rfl (LeX.le ?_) (.inr ⟨_, rfl⟩)
 simp only [go_sem, opS]
 rfl
theorem xcond2_ok (c : Cd) (hop : c.op = 2) (hl : FitO c.l) (hr : FitO c.r) (hl2 : (opT c.l).length ≤ 1000000) (hr2 : (opT c.r).length ≤ 1000000) : FnOK Laid Tryz.prog 85 [cdD c] (sv (cdT c)) := by
 refine FnOK_of laid_stable Tryz.func85 Tryz.ntmps85 rfl (by as_aux_lemma => kernel_rfl) (Nat.le_of_ble_eq_true rfl) (fun R hR => ?_)
 obtain ⟨_, b, cs, T, C⟩ := R
 obtain rfl : _ = Tryz.prog := hR.p
 have hz : Int.toNat 2 * 1 = 2 := rfl
 refine sq ?_
 apply Exec.regionL te_ok
 ·intro u' Q hQ
  simp only [go_sem, hop, hz]
  repeat refine ob2 ?_
  exact hQ
 refine sq ?_
 apply Exec.regionL te_ok
 ·intro u' Q hQ
  simp only [go_sem, hop, hz]
  repeat refine ob2 ?_
  exact hQ
 refine sq ?_
 apply Exec.draw (st := _) 16 15 [] [] te_ok (by as_aux_lemma => kernel_rfl) (by as_aux_lemma => kernel_rfl) (by as_aux_lemma => kernel_rfl)
 ·intro u' Q hQ
  simp only [go_sem, hop, hz]
  repeat refine ob2 ?_
  refine kdcall hR.inv te_ok rfl rfl rfl rfl rfl rfl (xopT_ok c.l hl) ?_
  simp only [go_sem, hop, hz]
  repeat refine ob2 ?_
  refine kdcall hR.inv te_ok rfl rfl rfl rfl rfl rfl (xopT_ok c.r hr) ?_
  simp only [go_sem, hop, hz]
  repeat refine ob2 ?_
  exact hQ
 refine Exec.rets hR te_ok rfl rfl rfl (LeX.le ?_) (.inr ⟨_, rfl⟩)
 simp only [go_sem, cdT, hop, opS]
theorem op3_ok  : FnOK Laid Tryz.prog 46 [iv 3] (sv (opS 3)) := by
 refine FnOK_of laid_stable Tryz.func46 Tryz.ntmps46 rfl (by as_aux_lemma => kernel_rfl) (Nat.le_of_ble_eq_true rfl) (fun R hR => ?_)
 obtain ⟨_, b, cs, T, C⟩ := R
 obtain rfl : _ = Tryz.prog := hR.p
 refine sreg te_ok ?_
 refine sreg te_ok ?_
 refine sreg te_ok ?_
 refine Exec.rets hR te_ok rfl rfl rfl (LeX.le ?_) (.inr ⟨_, rfl⟩)
 simp only [go_sem, opS]
 rfl
theorem xcond3_ok (c : Cd) (hop : c.op = 3) (hl : FitO c.l) (hr : FitO c.r) (hl2 : (opT c.l).length ≤ 1000000) (hr2 : (opT c.r).length ≤ 1000000) : FnOK Laid Tryz.prog 85 [cdD c] (sv (cdT c)) := by
 refine FnOK_of laid_stable Tryz.func85 Tryz.ntmps85 rfl (by as_aux_lemma => kernel_rfl) (Nat.le_of_ble_eq_true rfl) (fun R hR => ?_)
 obtain ⟨_, b, cs, T, C⟩ := R
 obtain rfl : _ = Tryz.prog := hR.p
 have hz : Int.toNat 3 * 1 = 3 := rfl
 refine sq ?_
 apply Exec.regionL te_ok
 ·intro u' Q hQ
  simp only [go_sem, hop, hz]
  repeat refine ob2 ?_
  exact hQ
 refine sq ?_
 apply Exec.regionL te_ok
 ·intro u' Q hQ
  simp only [go_sem, hop, hz]
  repeat refine ob2 ?_
  exact hQ
 refine sq ?_
 apply Exec.draw (st := _) 16 15 [] [] te_ok (by as_aux_lemma => kernel_rfl) (by as_aux_lemma => kernel_rfl) (by as_aux_lemma => kernel_rfl)
 ·intro u' Q hQ
  simp only [go_sem, hop, hz]
  repeat refine ob2 ?_
  refine kdcall hR.inv te_ok rfl rfl rfl rfl rfl rfl (xopT_ok c.l hl) ?_
  simp only [go_sem, hop, hz]
  repeat refine ob2 ?_
  refine kdcall hR.inv te_ok rfl rfl rfl rfl rfl rfl (xopT_ok c.r hr) ?_
  simp only [go_sem, hop, hz]
  repeat refine ob2 ?_
  exact hQ
 refine Exec.rets hR te_ok rfl rfl rfl (LeX.le ?_) (.inr ⟨_, rfl⟩)
 simp only [go_sem, cdT, hop, opS]
theorem op4_ok  : FnOK Laid Tryz.prog 46 [iv 4] (sv (opS 4)) := by
 refine FnOK_of laid_stable Tryz.func46 Tryz.ntmps46 rfl (by as_aux_lemma => kernel_rfl) (Nat.le_of_ble_eq_true rfl) (fun R hR => ?_)
 obtain ⟨_, b, cs, T, C⟩ := R
 obtain rfl : _ = Tryz.prog := hR.p
 refine sreg te_ok ?_
 refine sreg te_ok ?_
 refine sreg te_ok ?_
 refine Exec.rets hR te_ok rfl rfl rfl (LeX.le ?_) (.inr ⟨_, rfl⟩)
 simp only [go_sem, opS]
 rfl
theorem xcond4_ok (c : Cd) (hop : c.op = 4) (hl : FitO c.l) (hr : FitO c.r) (hl2 : (opT c.l).length ≤ 1000000) (hr2 : (opT c.r).length ≤ 1000000) : FnOK Laid Tryz.prog 85 [cdD c] (sv (cdT c)) := by
 refine FnOK_of laid_stable Tryz.func85 Tryz.ntmps85 rfl (by as_aux_lemma => kernel_rfl) (Nat.le_of_ble_eq_true rfl) (fun R hR => ?_)
 obtain ⟨_, b, cs, T, C⟩ := R
 obtain rfl : _ = Tryz.prog := hR.p
 have hz : Int.toNat 4 * 1 = 4 := rfl
 refine sq ?_
 apply Exec.regionL te_ok
 ·intro u' Q hQ
  simp only [go_sem, hop, hz]
  repeat refine ob2 ?_
  exact hQ
 refine sq ?_
 apply Exec.regionL te_ok
 ·intro u' Q hQ
  simp only [go_sem, hop, hz]
  repeat refine ob2 ?_
  exact hQ
 refine sq ?_
 apply Exec.draw (st := _) 16 15 [] [] te_ok (by as_aux_lemma => kernel_rfl) (by as_aux_lemma => kernel_rfl) (by as_aux_lemma => kernel_rfl)
 ·intro u' Q hQ
  simp only [go_sem, hop, hz]
  repeat refine ob2 ?_
  refine kdcall hR.inv te_ok rfl rfl rfl rfl rfl rfl (xopT_ok c.l hl) ?_
  simp only [go_sem, hop, hz]
  repeat refine ob2 ?_
  refine kdcall hR.inv te_ok rfl rfl rfl rfl rfl rfl (xopT_ok c.r hr) ?_
  simp only [go_sem, hop, hz]
  repeat refine ob2 ?_
  exact hQ
 refine Exec.rets hR te_ok rfl rfl rfl (LeX.le ?_) (.inr ⟨_, rfl⟩)
 simp only [go_sem, cdT, hop, opS]
theorem op5_ok  : FnOK Laid Tryz.prog 46 [iv 5] (sv (opS 5)) := by
 refine FnOK_of laid_stable Tryz.func46 Tryz.ntmps46 rfl (by as_aux_lemma => kernel_rfl) (Nat.le_of_ble_eq_true rfl) (fun R hR => ?_)
 obtain ⟨_, b, cs, T, C⟩ := R
 obtain rfl : _ = Tryz.prog := hR.p
 refine sreg te_ok ?_
 refine sreg te_ok ?_
 refine sreg te_ok ?_
 refine Exec.rets hR te_ok rfl rfl rfl (LeX.le ?_) (.inr ⟨_, rfl⟩)
 simp only [go_sem, opS]
 rfl
theorem xcond5_ok (c : Cd) (hop : c.op = 5) (hl : FitO c.l) (hr : FitO c.r) (hl2 : (opT c.l).length ≤ 1000000) (hr2 : (opT c.r).length ≤ 1000000) : FnOK Laid Tryz.prog 85 [cdD c] (sv (cdT c)) := by
 refine FnOK_of laid_stable Tryz.func85 Tryz.ntmps85 rfl (by as_aux_lemma => kernel_rfl) (Nat.le_of_ble_eq_true rfl) (fun R hR => ?_)
 obtain ⟨_, b, cs, T, C⟩ := R
 obtain rfl : _ = Tryz.prog := hR.p
 have hz : Int.toNat 5 * 1 = 5 := rfl
 refine sq ?_
 apply Exec.regionL te_ok
 ·intro u' Q hQ
  simp only [go_sem, hop, hz]
  repeat refine ob2 ?_
  exact hQ
 refine sq ?_
 apply Exec.regionL te_ok
 ·intro u' Q hQ
  simp only [go_sem, hop, hz]
  repeat refine ob2 ?_
  exact hQ
 refine sq ?_
 apply Exec.draw (st := _) 16 15 [] [] te_ok (by as_aux_lemma => kernel_rfl) (by as_aux_lemma => kernel_rfl) (by as_aux_lemma => kernel_rfl)
 ·intro u' Q hQ
  simp only [go_sem, hop, hz]
  repeat refine ob2 ?_
  refine kdcall hR.inv te_ok rfl rfl rfl rfl rfl rfl (xopT_ok c.l hl) ?_
  simp only [go_sem, hop, hz]
  repeat refine ob2 ?_
  refine kdcall hR.inv te_ok rfl rfl rfl rfl rfl rfl (xopT_ok c.r hr) ?_
  simp only [go_sem, hop, hz]
  repeat refine ob2 ?_
  exact hQ
 refine Exec.rets hR te_ok rfl rfl rfl (LeX.le ?_) (.inr ⟨_, rfl⟩)
 simp only [go_sem, cdT, hop, opS]
theorem op6_ok  : FnOK Laid Tryz.prog 46 [iv 6] (sv (opS 6)) := by
 refine FnOK_of laid_stable Tryz.func46 Tryz.ntmps46 rfl (by as_aux_lemma => kernel_rfl) (Nat.le_of_ble_eq_true rfl) (fun R hR => ?_)
 obtain ⟨_, b, cs, T, C⟩ := R
 obtain rfl : _ = Tryz.prog := hR.p
 refine sreg te_ok ?_
 refine sreg te_ok ?_
 refine sreg te_ok ?_
 refine Exec.rets hR te_ok rfl rfl rfl (LeX.le ?_) (.inr ⟨_, rfl⟩)
 simp only [go_sem, opS]
 rfl
theorem xcond6_ok (c : Cd) (hop : c.op = 6) (hl : FitO c.l) (hr : FitO c.r) (hl2 : (opT c.l).length ≤ 1000000) (hr2 : (opT c.r).length ≤ 1000000) : FnOK Laid Tryz.prog 85 [cdD c] (sv (cdT c)) := by
 refine FnOK_of laid_stable Tryz.func85 Tryz.ntmps85 rfl (by as_aux_lemma => kernel_rfl) (Nat.le_of_ble_eq_true rfl) (fun R hR => ?_)
 obtain ⟨_, b, cs, T, C⟩ := R
 obtain rfl : _ = Tryz.prog := hR.p
 have hz : Int.toNat 6 * 1 = 6 := rfl
 refine sq ?_
 apply Exec.regionL te_ok
 ·intro u' Q hQ
  simp only [go_sem, hop, hz]
  repeat refine ob2 ?_
  exact hQ
 refine sq ?_
 apply Exec.regionL te_ok
 ·intro u' Q hQ
  simp only [go_sem, hop, hz]
  repeat refine ob2 ?_
  exact hQ
 refine sq ?_
 apply Exec.draw (st := _) 16 15 [] [] te_ok (by as_aux_lemma => kernel_rfl) (by as_aux_lemma => kernel_rfl) (by as_aux_lemma => kernel_rfl)
 ·intro u' Q hQ
  simp only [go_sem, hop, hz]
  repeat refine ob2 ?_
  refine kdcall hR.inv te_ok rfl rfl rfl rfl rfl rfl (xopT_ok c.l hl) ?_
  simp only [go_sem, hop, hz]
  repeat refine ob2 ?_
  refine kdcall hR.inv te_ok rfl rfl rfl rfl rfl rfl (xopT_ok c.r hr) ?_
  simp only [go_sem, hop, hz]
  repeat refine ob2 ?_
  exact hQ
 refine Exec.rets hR te_ok rfl rfl rfl (LeX.le ?_) (.inr ⟨_, rfl⟩)
 simp only [go_sem, cdT, hop, opS]
end Go.Proofs.YtonchjamoblioaaGreatDoor
