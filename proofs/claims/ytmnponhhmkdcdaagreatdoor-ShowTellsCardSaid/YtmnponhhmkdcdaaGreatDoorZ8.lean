/- Contracts of functions of the seat, walked. -/
import Derived.Test.YtmnponhhmkdcdaaGreatDoorShLaw
namespace Go.Proofs.YtmnponhhmkdcdaaGreatDoor
open Go.Kin
set_option linter.unusedSimpArgs false
set_option linter.unusedVariables false
set_option maxRecDepth 100000
set_option maxHeartbeats 0
theorem join_map {α : Type} [Inhabited α] (l : List α) (f : α → List UInt8) (s : List UInt8) (hl : l.length ≤ 140737488355328) (hj : (Lib.join (l.map f) s).length ≤ 140737488355328) :
    FnOK Laid Tryz.prog 147 [.sl 1 l.length l.length (fun j => [sv (nth (l.map f) j)]), sv s] (sv (Lib.join (l.map f) s)) := by
  have h := join_ok (l.map f) s (by simpa using hl) hj
  unfold strsD at h
  rwa [List.length_map] at h

theorem joinedX_ok (l : List Ex) (s : List UInt8) (g : Ex → List UInt8) (x : Ex) (hl : l.length ≤ 1000000) (hj : (Lib.join (l.map g) s).length ≤ 140737488355328) (ihx : ∀ y ∈ l, FnOK Laid Tryz.prog 94 [exD y, .ptr (exC x)] (sv (g y))) : FnOK Laid Tryz.prog 95 [exsD l, sv s, .fn 94 [.ptr (exC x)]] (sv (Lib.join (l.map g) s)) := by
  refine FnOK_of laid_stable Tryz.func95 Tryz.ntmps95 rfl (by as_aux_lemma => kernel_rfl) (Nat.le_of_ble_eq_true rfl) (fun R hR => ?_)
  obtain ⟨_, b, cs, T, C⟩ := R
  obtain rfl : _ = Tryz.prog := hR.p
  refine Exec.seq ?_
  apply Exec.regionL te_ok
  · intro ops' Q hQ
    simp only [go_sem]
    repeat (refine And.intro (by first | assumption | omega | (simp; done) | (simp; omega) | (intros; omega) | (simp_all; done) | (simp_all; omega)) ?_)
    exact hQ
  refine Exec.seq ?_
  apply Exec.regionL te_ok
  · intro ops' Q hQ
    simp only [go_sem]
    repeat (refine And.intro (by first | assumption | omega | (simp; done) | (simp; omega) | (intros; omega) | (simp_all; done) | (simp_all; omega)) ?_)
    exact hQ
  refine Exec.seq ?_
  refine Exec.seq ?_
  apply Exec.regionL te_ok
  · intro ops' Q hQ
    simp only [go_sem]
    repeat (refine And.intro (by first | assumption | omega | (simp; done) | (simp; omega) | (intros; omega) | (simp_all; done) | (simp_all; omega)) ?_)
    exact hQ
  refine Exec.block ?_
  refine Exec.ownNil 7 1500 9 1 rfl rfl ?_
  apply Exec.norm
  · simp only [go_sem]
    rfl
  apply Exec.loopU [1, 2, 10, 11] (X := Nat) (fun i => [(12, .d (iv i)), (7, .own 1500)]) (fun i => []) (fun i => [(1500, ⟨9, 1, i, i, fun j => [sv (nth (l.map g) j)]⟩)]) (fun i => l.length - i) (fun i => i ≤ l.length) 0
  case h0 =>
    first | assumption | omega | (simp; done) | (simp; omega) | (intros; omega) | (simp_all; done) | (simp_all; omega)
  case hw =>
    simp only [go_sem]; exact fun i hi => absurd hi (Nat.not_lt_zero i)
  case body =>
    rintro i hx ih0
    try simp only at hx
    apply Exec.norm
    · simp only [go_sem]
      rfl
    refine Exec.seq ?_
    apply Exec.regionL te_ok
    · intro ops' Q hQ
      simp only [go_sem]
      repeat (refine And.intro (by first | assumption | omega | (simp; done) | (simp; omega) | (intros; omega) | (simp_all; done) | (simp_all; omega)) ?_)
      exact hQ
    refine Exec.seq ?_
    refine Exec.cond_split rfl (fun h0 => ?_) (fun h0 => ?_)
    · skip
      have hi : i < l.length := by have := of_decide_eq_true h0; omega
      have hr : nth (l.map g) i = g (nth l i) := nth_map g hi
      have ha := kdR_at hi
      have w2 : IntKind.i64.wrap ((i : Int) + 1) = ((i + 1 : Nat) : Int) := by rw [wrap_id (by omega)]; omega
      refine Exec.skip ?_
      refine Exec.seq ?_
      refine Exec.block ?_
      refine Exec.seq ?_
      apply Exec.regionL te_ok
      · intro ops' Q hQ
        simp only [go_sem, ha, w2]
        repeat (refine And.intro (by first | assumption | omega | (simp; done) | (simp; omega) | (intros; omega) | (simp_all; done) | (simp_all; omega)) ?_)
        exact hQ
      apply Exec.regionL te_ok
      · intro ops' Q hQ
        simp only [go_sem, ha, w2]
        repeat (refine And.intro (by first | assumption | omega | (simp; done) | (simp; omega) | (intros; omega) | (simp_all; done) | (simp_all; omega)) ?_)
        refine kcall hR.inv te_ok rfl rfl rfl rfl rfl rfl (ihx _ (nth_mem hi)) ?_
        simp only [go_sem, ha, w2]
        repeat (refine And.intro (by first | assumption | omega | (simp; done) | (simp; omega) | (intros; omega) | (simp_all; done) | (simp_all; omega)) ?_)
        exact hQ
      refine Exec.inBlock ?_
      apply Exec.regionL te_ok
      · intro ops' Q hQ
        simp only [go_sem, ha, w2]
        repeat (refine And.intro (by first | assumption | omega | (simp; done) | (simp; omega) | (intros; omega) | (simp_all; done) | (simp_all; omega)) ?_)
        exact hQ
      refine Exec.back (ih0 (i + 1) ?_ ?_) ?_ ?_ ?_ ?_ ?_ ?_ ?_
      · try simp only
        omega
      · try simp only
        omega
      · rfl
      · rfl
      · (simp only [go_sem, w2])
      · (simp only [go_sem, w2])
      · simp only [go_sem, w2]
        exact fun q hq => catR_row (row := fun j => [sv (nth (l.map g) j)]) (by simp only [hr]) q hq
      · simp only [go_sem, ha, w2]
      · rfl
    · skip
      obtain rfl : i = l.length := by have := of_decide_eq_false h0; omega
      refine Exec.exit rfl ?_
      refine Exec.seq ?_
      refine Exec.freeze 1500 rfl ?_
      apply Exec.norm
      · simp only [go_sem]
        rfl
      apply Exec.regionL te_ok
      · intro ops' Q hQ
        simp only [go_sem]
        repeat (refine And.intro (by first | assumption | omega | (simp; done) | (simp; omega) | (intros; omega) | (simp_all; done) | (simp_all; omega)) ?_)
        refine kcall hR.inv te_ok rfl rfl rfl rfl rfl rfl (join_map l g s (by omega) hj) ?_
        simp only [go_sem]
        repeat (refine And.intro (by first | assumption | omega | (simp; done) | (simp; omega) | (intros; omega) | (simp_all; done) | (simp_all; omega)) ?_)
        exact hQ
      refine Exec.rets hR te_ok rfl rfl rfl (LeX.le ?_) (.inr ⟨_, rfl⟩)
      simp only [go_sem]
theorem sh1_ok (x y : Ex) (hy : (exT y).length ≤ 1000000) (h48 : FnOK Laid Tryz.prog 48 [exD y] (sv (exT y))) : FnOK Laid Tryz.prog 94 [exD y, .ptr (exC x)] (sv (grp x.k y.k (exT y))) := by
  refine FnOK_of laid_stable Tryz.func94 Tryz.ntmps94 rfl (by as_aux_lemma => kernel_rfl) (Nat.le_of_ble_eq_true rfl) (fun R hR => ?_)
  obtain ⟨_, b, cs, T, C⟩ := R
  obtain rfl : _ = Tryz.prog := hR.p
  refine Exec.seq ?_
  apply Exec.regionL te_ok
  · intro ops' Q hQ
    simp only [go_sem]
    repeat (refine And.intro (by first | assumption | omega | (simp; done) | (simp; omega) | (intros; omega) | (simp_all; done) | (simp_all; omega)) ?_)
    exact hQ
  refine Exec.seq ?_
  apply Exec.regionL te_ok
  · intro ops' Q hQ
    simp only [go_sem]
    repeat (refine And.intro (by first | assumption | omega | (simp; done) | (simp; omega) | (intros; omega) | (simp_all; done) | (simp_all; omega)) ?_)
    refine kcall hR.inv te_ok rfl rfl rfl rfl rfl rfl (h48) ?_
    simp only [go_sem]
    repeat (refine And.intro (by first | assumption | omega | (simp; done) | (simp; omega) | (intros; omega) | (simp_all; done) | (simp_all; omega)) ?_)
    exact hQ
  refine Exec.seq ?_
  refine Exec.seq ?_
  apply Exec.regionL te_ok
  · intro ops' Q hQ
    simp only [go_sem]
    repeat (refine And.intro (by first | assumption | omega | (simp; done) | (simp; omega) | (intros; omega) | (simp_all; done) | (simp_all; omega)) ?_)
    exact hQ
  refine Exec.cond_split rfl (fun h0 => ?_) (fun h0 => ?_)
  · skip
    refine Exec.seq ?_
    apply Exec.regionL te_ok
    · intro ops' Q hQ
      simp only [go_sem]
      repeat (refine And.intro (by first | assumption | omega | (simp; done) | (simp; omega) | (intros; omega) | (simp_all; done) | (simp_all; omega)) ?_)
      exact hQ
    refine Exec.rets hR te_ok rfl rfl rfl (LeX.le ?_) (.inr ⟨_, rfl⟩)
    simp only [go_sem, grp]
    rw [if_pos (by simpa using h0)]
  · skip
    refine Exec.skip ?_
    refine Exec.seq ?_
    apply Exec.regionL te_ok
    · intro ops' Q hQ
      simp only [go_sem]
      repeat (refine And.intro (by first | assumption | omega | (simp; done) | (simp; omega) | (intros; omega) | (simp_all; done) | (simp_all; omega)) ?_)
      exact hQ
    refine Exec.rets hR te_ok rfl rfl rfl (LeX.le ?_) (.inr ⟨_, rfl⟩)
    simp only [go_sem, grp]
    rw [if_neg (by simpa using h0)]
theorem sgn_at {k : Int} (h : k = 4 ∨ k = 5 ∨ k = 6) : List.take (Int.toNat 1) (List.take (((3 : Nat) : Int) - (k - 4)).toNat (List.drop (k - 4).toNat ([42, 43, 63] : List UInt8))) = [sgn k] := by
  rcases h with rfl | rfl | rfl <;> rfl
theorem kids1 {x : Ex} (h : exOk x = true) (h1 : ¬ x.k = 1) (h2 : ¬ x.k = 2) (h3 : ¬ x.k = 3) : (x.k = 4 ∨ x.k = 5 ∨ x.k = 6) ∧ 0 < x.kids.length := by
  have h4 : x.k = 4 ∨ x.k = 5 ∨ x.k = 6 := by
    rcases Classical.em (x.k = 4 ∨ x.k = 5 ∨ x.k = 6) with h4 | h4
    · exact h4
    · rw [partR_0 h1 (by omega) h4] at h; cases h
  rw [partR_4 h4] at h; simp at h; exact ⟨h4, by omega⟩
theorem exT_1 {x : Ex} (h : x.k = 1) : exT x = x.s := by rw [exT_eq, if_pos h]
theorem exT_2 {x : Ex} (h : x.k = 2) : exT x = Lib.join (x.kids.map fun y => grp x.k y.k (exT y)) [46] := by rw [exT_eq, if_neg (by omega), if_pos h, exTs_map]
theorem exT_3 {x : Ex} (h : x.k = 3) : exT x = Lib.join (x.kids.map fun y => grp x.k y.k (exT y)) [124] := by rw [exT_eq, if_neg (by omega), if_neg (by omega), if_pos h, exTs_map]
theorem exT_4 {x : Ex} (h1 : ¬ x.k = 1) (h2 : ¬ x.k = 2) (h3 : ¬ x.k = 3) (hk : 0 < x.kids.length) : exT x = grp x.k (nth x.kids 0).k (exT (nth x.kids 0)) ++ [sgn x.k] := by
  rw [exT_eq, if_neg h1, if_neg h2, if_neg h3, exTs_map, nth_map _ hk]

theorem shown_step (x : Ex) (hok : exOk x = true) (hsz : x.size ≤ 1000) (ihx : ∀ y ∈ x.kids, FnOK Laid Tryz.prog 94 [exD y, .ptr (exC x)] (sv (grp x.k y.k (exT y)))) : FnOK Laid Tryz.prog 48 [exD x] (sv (exT x)) := by
  refine FnOK_of laid_stable Tryz.func48 Tryz.ntmps48 rfl (by as_aux_lemma => kernel_rfl) (Nat.le_of_ble_eq_true rfl) (fun R hR => ?_)
  obtain ⟨_, b, cs, T, C⟩ := R
  obtain rfl : _ = Tryz.prog := hR.p
  have hln := Ex.len_le x.kids
  have hse := x.size_eq
  have htl := exT_len x hok
  refine Exec.seq ?_
  apply Exec.regionL te_ok
  · intro ops' Q hQ
    simp only [go_sem]
    repeat (refine And.intro (by first | assumption | omega | (simp; done) | (simp; omega) | (intros; omega) | (simp_all; done) | (simp_all; omega)) ?_)
    exact hQ
  refine Exec.seq ?_
  apply Exec.regionL te_ok
  · intro ops' Q hQ
    simp only [go_sem]
    repeat (refine And.intro (by first | assumption | omega | (simp; done) | (simp; omega) | (intros; omega) | (simp_all; done) | (simp_all; omega)) ?_)
    exact hQ
  refine Exec.seq ?_
  refine Exec.seq ?_
  refine Exec.freezeB 1 rfl rfl ?_
  apply Exec.norm
  · simp only [go_sem]
    rfl
  have hk := kd_eq x
  apply Exec.regionL te_ok
  · intro ops' Q hQ
    simp only [go_sem, hk]
    repeat (refine And.intro (by first | assumption | omega | (simp; done) | (simp; omega) | (intros; omega) | (simp_all; done) | (simp_all; omega)) ?_)
    exact hQ
  refine Exec.block ?_
  refine Exec.seq ?_
  apply Exec.regionL te_ok
  · intro ops' Q hQ
    simp only [go_sem]
    repeat (refine And.intro (by first | assumption | omega | (simp; done) | (simp; omega) | (intros; omega) | (simp_all; done) | (simp_all; omega)) ?_)
    exact hQ
  refine Exec.cond_split rfl (fun h0 => ?_) (fun h0 => ?_)
  · skip
    refine Exec.seq ?_
    apply Exec.regionL te_ok
    · intro ops' Q hQ
      simp only [go_sem]
      repeat (refine And.intro (by first | assumption | omega | (simp; done) | (simp; omega) | (intros; omega) | (simp_all; done) | (simp_all; omega)) ?_)
      exact hQ
    refine Exec.rets hR te_ok rfl rfl rfl (LeX.le ?_) (.inr ⟨_, rfl⟩)
    simp only [go_sem]
    rw [exT_1 (by simpa using h0)]
  · skip
    refine Exec.seq ?_
    apply Exec.regionL te_ok
    · intro ops' Q hQ
      simp only [go_sem]
      repeat (refine And.intro (by first | assumption | omega | (simp; done) | (simp; omega) | (intros; omega) | (simp_all; done) | (simp_all; omega)) ?_)
      exact hQ
    refine Exec.cond_split rfl (fun h1 => ?_) (fun h1 => ?_)
    · skip
      have hk2 : x.k = 2 := by simpa using h1
      have htl2 := exT_2 hk2
      have hj2 := joinedX_ok x.kids [46] (fun y => grp x.k y.k (exT y)) x (by omega) (by rw [← htl2]; omega) ihx
      simp only [exC, hk] at hj2
      refine Exec.seq ?_
      apply Exec.regionL te_ok
      · intro ops' Q hQ
        simp only [go_sem]
        repeat (refine And.intro (by first | assumption | omega | (simp; done) | (simp; omega) | (intros; omega) | (simp_all; done) | (simp_all; omega)) ?_)
        refine kcall hR.inv te_ok rfl rfl rfl rfl rfl rfl (hj2) ?_
        simp only [go_sem]
        repeat (refine And.intro (by first | assumption | omega | (simp; done) | (simp; omega) | (intros; omega) | (simp_all; done) | (simp_all; omega)) ?_)
        exact hQ
      refine Exec.rets hR te_ok rfl rfl rfl (LeX.le ?_) (.inr ⟨_, rfl⟩)
      simp only [go_sem]
      rw [exT_2 (by simpa using h1)]
    · skip
      refine Exec.seq ?_
      apply Exec.regionL te_ok
      · intro ops' Q hQ
        simp only [go_sem]
        repeat (refine And.intro (by first | assumption | omega | (simp; done) | (simp; omega) | (intros; omega) | (simp_all; done) | (simp_all; omega)) ?_)
        exact hQ
      refine Exec.cond_split rfl (fun h2 => ?_) (fun h2 => ?_)
      · skip
        have hk3 : x.k = 3 := by simpa using h2
        have htl3 := exT_3 hk3
        have hj3 := joinedX_ok x.kids [124] (fun y => grp x.k y.k (exT y)) x (by omega) (by rw [← htl3]; omega) ihx
        simp only [exC, hk] at hj3
        refine Exec.seq ?_
        apply Exec.regionL te_ok
        · intro ops' Q hQ
          simp only [go_sem]
          repeat (refine And.intro (by first | assumption | omega | (simp; done) | (simp; omega) | (intros; omega) | (simp_all; done) | (simp_all; omega)) ?_)
          refine kcall hR.inv te_ok rfl rfl rfl rfl rfl rfl (hj3) ?_
          simp only [go_sem]
          repeat (refine And.intro (by first | assumption | omega | (simp; done) | (simp; omega) | (intros; omega) | (simp_all; done) | (simp_all; omega)) ?_)
          exact hQ
        refine Exec.rets hR te_ok rfl rfl rfl (LeX.le ?_) (.inr ⟨_, rfl⟩)
        simp only [go_sem]
        rw [exT_3 (by simpa using h2)]
      · skip
        obtain ⟨hk4, hkl⟩ := kids1 hok (by simpa using h0) (by simpa using h1) (by simpa using h2)
        have ha := kdR_at hkl
        have hj4 := ihx _ (nth_mem hkl)
        simp only [exC, hk] at hj4
        have ht4 := exT_4 (by simpa using h0) (by simpa using h1) (by simpa using h2) hkl
        have w9 : IntKind.i64.wrap (x.k - 4) = x.k - 4 := wrap_id (by omega)
        refine Exec.skip ?_
        refine Exec.inBlock ?_
        refine Exec.seq ?_
        apply Exec.draw (st := _) 14 13 [] [] te_ok (by as_aux_lemma => kernel_rfl) (by as_aux_lemma => kernel_rfl) (by as_aux_lemma => kernel_rfl)
        · intro ops' Q hQ
          simp only [go_sem, ha, w9]
          repeat (refine And.intro (by first | assumption | omega | (simp; done) | (simp; omega) | (intros; omega) | (simp_all; done) | (simp_all; omega)) ?_)
          refine kdcall hR.inv te_ok rfl rfl rfl rfl rfl rfl (hj4) ?_
          simp only [go_sem, ha, w9]
          repeat (refine And.intro (by first | assumption | omega | (simp; done) | (simp; omega) | (intros; omega) | (simp_all; done) | (simp_all; omega)) ?_)
          exact hQ
        refine Exec.rets hR te_ok rfl rfl rfl (LeX.le ?_) (.inr ⟨_, rfl⟩)
        simp only [go_sem]
        rw [ht4, sgn_at hk4]
theorem shown_ok' (x : Ex) (hok : exOk x = true) (hsz : x.size ≤ 1000) : FnOK Laid Tryz.prog 48 [exD x] (sv (exT x)) := by
  refine Ex.ind (p := fun x => exOk x = true → x.size ≤ 1000 → FnOK Laid Tryz.prog 48 [exD x] (sv (exT x))) (fun x ih h1 h2 => shown_step x h1 h2 fun y hy => ?_) x hok hsz
  have := Ex.sizes_mem hy
  have := x.size_eq
  have := exT_len y (exOk_kids h1 y hy)
  exact sh1_ok x y (by omega) (ih y hy (exOk_kids h1 y hy) (by omega))

theorem kid_ok (x : Ex) (pk : Int) (hx : (exT x).length ≤ 1000000) (h50 : FnOK Laid Tryz.prog 50 [exD x] (sv (exT x))) : FnOK Laid Tryz.prog 98 [exD x, iv pk] (sv (grp pk x.k (exT x))) := by
  refine FnOK_of laid_stable Tryz.func98 Tryz.ntmps98 rfl (by as_aux_lemma => kernel_rfl) (Nat.le_of_ble_eq_true rfl) (fun R hR => ?_)
  obtain ⟨_, b, cs, T, C⟩ := R
  obtain rfl : _ = Tryz.prog := hR.p
  refine Exec.seq ?_
  apply Exec.regionL te_ok
  · intro ops' Q hQ
    simp only [go_sem]
    repeat (refine And.intro (by first | assumption | omega | (simp; done) | (simp; omega) | (intros; omega) | (simp_all; done) | (simp_all; omega)) ?_)
    exact hQ
  refine Exec.seq ?_
  refine Exec.seq ?_
  apply Exec.regionL te_ok
  · intro ops' Q hQ
    simp only [go_sem]
    repeat (refine And.intro (by first | assumption | omega | (simp; done) | (simp; omega) | (intros; omega) | (simp_all; done) | (simp_all; omega)) ?_)
    exact hQ
  refine Exec.cond_split rfl (fun h0 => ?_) (fun h0 => ?_)
  · skip
    refine Exec.seq ?_
    apply Exec.regionL te_ok
    · intro ops' Q hQ
      simp only [go_sem]
      repeat (refine And.intro (by first | assumption | omega | (simp; done) | (simp; omega) | (intros; omega) | (simp_all; done) | (simp_all; omega)) ?_)
      refine kcall hR.inv te_ok rfl rfl rfl rfl rfl rfl (h50) ?_
      simp only [go_sem]
      repeat (refine And.intro (by first | assumption | omega | (simp; done) | (simp; omega) | (intros; omega) | (simp_all; done) | (simp_all; omega)) ?_)
      exact hQ
    refine Exec.rets hR te_ok rfl rfl rfl (LeX.le ?_) (.inr ⟨_, rfl⟩)
    simp only [go_sem, grp]
    rw [if_pos (by simpa using h0)]
  · skip
    refine Exec.skip ?_
    refine Exec.seq ?_
    apply Exec.regionL te_ok
    · intro ops' Q hQ
      simp only [go_sem]
      repeat (refine And.intro (by first | assumption | omega | (simp; done) | (simp; omega) | (intros; omega) | (simp_all; done) | (simp_all; omega)) ?_)
      refine kcall hR.inv te_ok rfl rfl rfl rfl rfl rfl (h50) ?_
      simp only [go_sem]
      repeat (refine And.intro (by first | assumption | omega | (simp; done) | (simp; omega) | (intros; omega) | (simp_all; done) | (simp_all; omega)) ?_)
      exact hQ
    refine Exec.rets hR te_ok rfl rfl rfl (LeX.le ?_) (.inr ⟨_, rfl⟩)
    simp only [go_sem, grp]
    rw [if_neg (by simpa using h0)]
theorem kids2 {x : Ex} (h : exOk x = true) (h1 : ¬ x.k = 1) : 0 < x.kids.length := by
  rcases Classical.em (x.k = 2 ∨ x.k = 3) with h2 | h2
  · rw [partR_2 h2] at h; simp at h; omega
  · exact (kids1 h h1 (by omega) (by omega)).2
abbrev kt (x : Ex) : List (List UInt8) := x.kids.map fun y => grp x.k y.k (exT y)
theorem kt_nth {x : Ex} {i : Nat} (h : i < x.kids.length) : nth (kt x) i = grp x.k (nth x.kids i).k (exT (nth x.kids i)) := nth_map _ h
theorem join_le (l : List (List UInt8)) (s : List UInt8) (i : Nat) : (Lib.join (l.take i) s).length ≤ sumL s.length l := by
  refine Nat.le_trans (join_len _ s) ?_
  induction l generalizing i with
  | nil => simp [sumL]
  | cons a r ih => cases i with
    | zero => simp [sumL]
    | succ i => simp only [List.take_succ_cons, sumL]; have := ih i; omega
theorem kt_sum {x : Ex} (h : exOk x = true) : sumL 1 (kt x) ≤ 24 * Ex.sizes x.kids := by
  have := exTs_sum x.k x.kids fun y hy => exT_len y (exOk_kids h y hy)
  rwa [exTs_map] at this

theorem rexpr_step (x : Ex) (hok : exOk x = true) (hsz : x.size ≤ 1000) (ihx : ∀ y ∈ x.kids, FnOK Laid Tryz.prog 50 [exD y] (sv (exT y))) : FnOK Laid Tryz.prog 50 [exD x] (sv (exT x)) := by
  refine FnOK_of laid_stable Tryz.func50 Tryz.ntmps50 rfl (by as_aux_lemma => kernel_rfl) (Nat.le_of_ble_eq_true rfl) (fun R hR => ?_)
  obtain ⟨_, b, cs, T, C⟩ := R
  obtain rfl : _ = Tryz.prog := hR.p
  have hln := Ex.len_le x.kids
  have hse := x.size_eq
  have htl := exT_len x hok
  have hkt := kt_sum hok
  have hk := kd_eq x
  refine Exec.seq ?_
  apply Exec.regionL te_ok
  · intro ops' Q hQ
    simp only [go_sem, hk]
    repeat (refine And.intro (by first | assumption | omega | (simp; done) | (simp; omega) | (intros; omega) | (simp_all; done) | (simp_all; omega)) ?_)
    exact hQ
  refine Exec.seq ?_
  apply Exec.regionL te_ok
  · intro ops' Q hQ
    simp only [go_sem, hk]
    repeat (refine And.intro (by first | assumption | omega | (simp; done) | (simp; omega) | (intros; omega) | (simp_all; done) | (simp_all; omega)) ?_)
    exact hQ
  refine Exec.seq ?_
  refine Exec.seq ?_
  apply Exec.regionL te_ok
  · intro ops' Q hQ
    simp only [go_sem, hk]
    repeat (refine And.intro (by first | assumption | omega | (simp; done) | (simp; omega) | (intros; omega) | (simp_all; done) | (simp_all; omega)) ?_)
    exact hQ
  refine Exec.block ?_
  refine Exec.seq ?_
  apply Exec.regionL te_ok
  · intro ops' Q hQ
    simp only [go_sem, hk]
    repeat (refine And.intro (by first | assumption | omega | (simp; done) | (simp; omega) | (intros; omega) | (simp_all; done) | (simp_all; omega)) ?_)
    exact hQ
  refine Exec.cond_split rfl (fun h0 => ?_) (fun h0 => ?_)
  · skip
    refine Exec.seq ?_
    apply Exec.regionL te_ok
    · intro ops' Q hQ
      simp only [go_sem, hk]
      repeat (refine And.intro (by first | assumption | omega | (simp; done) | (simp; omega) | (intros; omega) | (simp_all; done) | (simp_all; omega)) ?_)
      exact hQ
    refine Exec.rets hR te_ok rfl rfl rfl (LeX.le ?_) (.inr ⟨_, rfl⟩)
    simp only [go_sem]
    rw [exT_1 (by simpa using h0)]
  · skip
    have hkl := kids2 hok (by simpa using h0)
    have ha := kdR_at hkl
    have hb0 : (grp x.k (nth x.kids 0).k (exT (nth x.kids 0))).length ≤ 1000000 := by have := grp_len x.k (nth x.kids 0).k (exT (nth x.kids 0)); have := exT_len _ (exOk_kids hok _ (nth_mem hkl)); have := Ex.sizes_mem (nth_mem hkl); omega
    refine Exec.seq ?_
    apply Exec.regionL te_ok
    · intro ops' Q hQ
      simp only [go_sem, hk, ha]
      repeat (refine And.intro (by first | assumption | omega | (simp; done) | (simp; omega) | (intros; omega) | (simp_all; done) | (simp_all; omega)) ?_)
      exact hQ
    refine Exec.cond_split rfl (fun h1 => ?_) (fun h1 => ?_)
    · skip
      have hk4 : x.k = 4 := by simpa using h1
      have ht4 := exT_4 (x := x) (by omega) (by omega) (by omega) hkl
      refine Exec.seq ?_
      apply Exec.draw (st := _) 10 9 [] [] te_ok (by as_aux_lemma => kernel_rfl) (by as_aux_lemma => kernel_rfl) (by as_aux_lemma => kernel_rfl)
      · intro ops' Q hQ
        simp only [go_sem, hk, ha]
        repeat (refine And.intro (by first | assumption | omega | (simp; done) | (simp; omega) | (intros; omega) | (simp_all; done) | (simp_all; omega)) ?_)
        refine kdcall hR.inv te_ok rfl rfl rfl rfl rfl rfl (kid_ok (nth x.kids 0) x.k (by have := exT_len _ (exOk_kids hok _ (nth_mem hkl)); have := Ex.sizes_mem (nth_mem hkl); omega) (ihx _ (nth_mem hkl))) ?_
        simp only [go_sem, hk, ha]
        repeat (refine And.intro (by first | assumption | omega | (simp; done) | (simp; omega) | (intros; omega) | (simp_all; done) | (simp_all; omega)) ?_)
        exact hQ
      refine Exec.rets hR te_ok rfl rfl rfl (LeX.le ?_) (.inr ⟨_, rfl⟩)
      simp only [go_sem]
      rw [ht4, show sgn x.k = 42 from by rw [hk4]; rfl]
    · skip
      refine Exec.seq ?_
      apply Exec.regionL te_ok
      · intro ops' Q hQ
        simp only [go_sem, hk, ha]
        repeat (refine And.intro (by first | assumption | omega | (simp; done) | (simp; omega) | (intros; omega) | (simp_all; done) | (simp_all; omega)) ?_)
        exact hQ
      refine Exec.cond_split rfl (fun h2 => ?_) (fun h2 => ?_)
      · skip
        have hk4 : x.k = 5 := by simpa using h2
        have ht4 := exT_4 (x := x) (by omega) (by omega) (by omega) hkl
        refine Exec.seq ?_
        apply Exec.draw (st := _) 10 9 [] [] te_ok (by as_aux_lemma => kernel_rfl) (by as_aux_lemma => kernel_rfl) (by as_aux_lemma => kernel_rfl)
        · intro ops' Q hQ
          simp only [go_sem, hk, ha]
          repeat (refine And.intro (by first | assumption | omega | (simp; done) | (simp; omega) | (intros; omega) | (simp_all; done) | (simp_all; omega)) ?_)
          refine kdcall hR.inv te_ok rfl rfl rfl rfl rfl rfl (kid_ok (nth x.kids 0) x.k (by have := exT_len _ (exOk_kids hok _ (nth_mem hkl)); have := Ex.sizes_mem (nth_mem hkl); omega) (ihx _ (nth_mem hkl))) ?_
          simp only [go_sem, hk, ha]
          repeat (refine And.intro (by first | assumption | omega | (simp; done) | (simp; omega) | (intros; omega) | (simp_all; done) | (simp_all; omega)) ?_)
          exact hQ
        refine Exec.rets hR te_ok rfl rfl rfl (LeX.le ?_) (.inr ⟨_, rfl⟩)
        simp only [go_sem]
        rw [ht4, show sgn x.k = 43 from by rw [hk4]; rfl]
      · skip
        refine Exec.seq ?_
        apply Exec.regionL te_ok
        · intro ops' Q hQ
          simp only [go_sem, hk, ha]
          repeat (refine And.intro (by first | assumption | omega | (simp; done) | (simp; omega) | (intros; omega) | (simp_all; done) | (simp_all; omega)) ?_)
          exact hQ
        refine Exec.cond_split rfl (fun h3 => ?_) (fun h3 => ?_)
        · skip
          have hk4 : x.k = 6 := by simpa using h3
          have ht4 := exT_4 (x := x) (by omega) (by omega) (by omega) hkl
          refine Exec.seq ?_
          apply Exec.draw (st := _) 10 9 [] [] te_ok (by as_aux_lemma => kernel_rfl) (by as_aux_lemma => kernel_rfl) (by as_aux_lemma => kernel_rfl)
          · intro ops' Q hQ
            simp only [go_sem, hk, ha]
            repeat (refine And.intro (by first | assumption | omega | (simp; done) | (simp; omega) | (intros; omega) | (simp_all; done) | (simp_all; omega)) ?_)
            refine kdcall hR.inv te_ok rfl rfl rfl rfl rfl rfl (kid_ok (nth x.kids 0) x.k (by have := exT_len _ (exOk_kids hok _ (nth_mem hkl)); have := Ex.sizes_mem (nth_mem hkl); omega) (ihx _ (nth_mem hkl))) ?_
            simp only [go_sem, hk, ha]
            repeat (refine And.intro (by first | assumption | omega | (simp; done) | (simp; omega) | (intros; omega) | (simp_all; done) | (simp_all; omega)) ?_)
            exact hQ
          refine Exec.rets hR te_ok rfl rfl rfl (LeX.le ?_) (.inr ⟨_, rfl⟩)
          simp only [go_sem]
          rw [ht4, show sgn x.k = 63 from by rw [hk4]; rfl]
        · skip
          refine Exec.seq ?_
          apply Exec.regionL te_ok
          · intro ops' Q hQ
            simp only [go_sem, hk, ha]
            repeat (refine And.intro (by first | assumption | omega | (simp; done) | (simp; omega) | (intros; omega) | (simp_all; done) | (simp_all; omega)) ?_)
            exact hQ
          refine Exec.cond_split rfl (fun h4 => ?_) (fun h4 => ?_)
          · skip
            have hk2 : x.k = 2 := by simpa using h4
            have hj46 : Lib.join ((kt x).take 1) [46] = grp x.k (nth x.kids 0).k (exT (nth x.kids 0)) := by rw [show (1 : Nat) = 0 + 1 from rfl, take_succ_nth (by simpa using hkl)]; rw [kt_nth hkl]; exact Lib.join_one _ _
            apply Exec.regionL te_ok
            · intro ops' Q hQ
              simp only [go_sem, hk, ha]
              repeat (refine And.intro (by first | assumption | omega | (simp; done) | (simp; omega) | (intros; omega) | (simp_all; done) | (simp_all; omega)) ?_)
              exact hQ
            refine Exec.inBlock ?_
            refine Exec.seq ?_
            apply Exec.draw (st := _) 9 8 [] [] te_ok (by as_aux_lemma => kernel_rfl) (by as_aux_lemma => kernel_rfl) (by as_aux_lemma => kernel_rfl)
            · intro ops' Q hQ
              simp only [go_sem, hk, ha]
              repeat (refine And.intro (by first | assumption | omega | (simp; done) | (simp; omega) | (intros; omega) | (simp_all; done) | (simp_all; omega)) ?_)
              refine kdcall hR.inv te_ok rfl rfl rfl rfl rfl rfl (kid_ok (nth x.kids 0) x.k (by have := exT_len _ (exOk_kids hok _ (nth_mem hkl)); have := Ex.sizes_mem (nth_mem hkl); omega) (ihx _ (nth_mem hkl))) ?_
              simp only [go_sem, hk, ha]
              repeat (refine And.intro (by first | assumption | omega | (simp; done) | (simp; omega) | (intros; omega) | (simp_all; done) | (simp_all; omega)) ?_)
              exact hQ
            refine Exec.seq ?_
            refine Exec.seq ?_
            apply Exec.regionL te_ok
            · intro ops' Q hQ
              simp only [go_sem, hk, ha]
              repeat (refine And.intro (by first | assumption | omega | (simp; done) | (simp; omega) | (intros; omega) | (simp_all; done) | (simp_all; omega)) ?_)
              exact hQ
            refine Exec.block ?_
            apply Exec.loopU [1, 3] (X := Nat) (fun i => [(5, .d (iv i)), (4, .d (sv (Lib.join ((kt x).take i) [46])))]) (fun i => []) (fun i => []) (fun i => x.kids.length - i) (fun i => 1 ≤ i ∧ i ≤ x.kids.length) 1
            case h0 =>
              omega
            case hw =>
              simp only [go_sem, hj46]; simp
            case body =>
              rintro i hx ih0
              try simp only at hx
              apply Exec.norm
              · simp only [go_sem, hk, ha]
                rfl
              refine Exec.seq ?_
              refine Exec.seq ?_
              apply Exec.regionL te_ok
              · intro ops' Q hQ
                simp only [go_sem, hk, ha]
                repeat (refine And.intro (by first | assumption | omega | (simp; done) | (simp; omega) | (intros; omega) | (simp_all; done) | (simp_all; omega)) ?_)
                exact hQ
              refine Exec.cond_split rfl (fun h5 => ?_) (fun h5 => ?_)
              · skip
                have hi : i < x.kids.length := by have := of_decide_eq_true h5; omega
                have ha1 := kdR_at hi
                have hb := join_le (kt x) [46] i
                have hs := join_take (s := [46]) hx.1 (show i < (kt x).length by simpa using hi)
                rw [kt_nth hi] at hs
                simp only [List.length_singleton] at hb
                have hbi : (grp x.k (nth x.kids i).k (exT (nth x.kids i))).length ≤ 1000000 := by have := grp_len x.k (nth x.kids i).k (exT (nth x.kids i)); have := exT_len _ (exOk_kids hok _ (nth_mem hi)); have := Ex.sizes_mem (nth_mem hi); omega
                have w2 : IntKind.i64.wrap ((i : Int) + 1) = ((i + 1 : Nat) : Int) := by rw [wrap_id (by omega)]; omega
                refine Exec.skip ?_
                refine Exec.seq ?_
                refine Exec.block ?_
                apply Exec.draw (st := _) 14 12 [] [] te_ok (by as_aux_lemma => kernel_rfl) (by as_aux_lemma => kernel_rfl) (by as_aux_lemma => kernel_rfl)
                · intro ops' Q hQ
                  simp only [go_sem, hk, ha, ha1, hs, w2]
                  repeat (refine And.intro (by first | assumption | omega | (simp; done) | (simp; omega) | (intros; omega) | (simp_all; done) | (simp_all; omega)) ?_)
                  refine kdcall hR.inv te_ok rfl rfl rfl rfl rfl rfl (kid_ok (nth x.kids i) x.k (by have := exT_len _ (exOk_kids hok _ (nth_mem hi)); have := Ex.sizes_mem (nth_mem hi); omega) (ihx _ (nth_mem hi))) ?_
                  simp only [go_sem, hk, ha, ha1, hs, w2]
                  repeat (refine And.intro (by first | assumption | omega | (simp; done) | (simp; omega) | (intros; omega) | (simp_all; done) | (simp_all; omega)) ?_)
                  exact hQ
                refine Exec.inBlock ?_
                apply Exec.regionL te_ok
                · intro ops' Q hQ
                  simp only [go_sem, hk, ha, ha1, hs, w2]
                  repeat (refine And.intro (by first | assumption | omega | (simp; done) | (simp; omega) | (intros; omega) | (simp_all; done) | (simp_all; omega)) ?_)
                  exact hQ
                refine Exec.back (ih0 (i + 1) ?_ ?_) ?_ ?_ ?_ ?_ ?_ ?_ ?_
                · try simp only
                  omega
                · try simp only
                  omega
                · rfl
                · rfl
                · (simp only [go_sem, hk, ha, ha1, hs, w2])
                · (simp only [go_sem, hk, ha, ha1, hs, w2])
                · (simp only [go_sem, hk, ha, ha1, hs, w2])
                · simp only [go_sem, hk, ha, ha1, hs, w2]
                · rfl
              · skip
                refine Exec.exit rfl ?_
                refine Exec.seq ?_
                apply Exec.regionL te_ok
                · intro ops' Q hQ
                  simp only [go_sem, hk, ha]
                  repeat (refine And.intro (by first | assumption | omega | (simp; done) | (simp; omega) | (intros; omega) | (simp_all; done) | (simp_all; omega)) ?_)
                  exact hQ
                refine Exec.rets hR te_ok rfl rfl rfl (LeX.le ?_) (.inr ⟨_, rfl⟩)
                simp only [go_sem]
                rw [exT_2 hk2, List.take_of_length_le (by have := of_decide_eq_false h5; simp; omega)]
          · skip
            refine Exec.seq ?_
            apply Exec.regionL te_ok
            · intro ops' Q hQ
              simp only [go_sem, hk, ha]
              repeat (refine And.intro (by first | assumption | omega | (simp; done) | (simp; omega) | (intros; omega) | (simp_all; done) | (simp_all; omega)) ?_)
              exact hQ
            refine Exec.cond_split rfl (fun h6 => ?_) (fun h6 => ?_)
            rotate_left 1
            · exfalso
              have hk2 : ¬ x.k = 2 := by simpa using h4
              have hk3 : ¬ x.k = 3 := by simpa using h6
              have := (kids1 hok (by simpa using h0) hk2 hk3).1
              simp at h1 h2 h3; omega
            have hk3 : x.k = 3 := by simpa using h6
            have hj124 : Lib.join ((kt x).take 1) [124] = grp x.k (nth x.kids 0).k (exT (nth x.kids 0)) := by rw [show (1 : Nat) = 0 + 1 from rfl, take_succ_nth (by simpa using hkl)]; rw [kt_nth hkl]; exact Lib.join_one _ _
            apply Exec.regionL te_ok
            · intro ops' Q hQ
              simp only [go_sem, hk, ha]
              repeat (refine And.intro (by first | assumption | omega | (simp; done) | (simp; omega) | (intros; omega) | (simp_all; done) | (simp_all; omega)) ?_)
              exact hQ
            refine Exec.inBlock ?_
            refine Exec.seq ?_
            apply Exec.draw (st := _) 9 8 [] [] te_ok (by as_aux_lemma => kernel_rfl) (by as_aux_lemma => kernel_rfl) (by as_aux_lemma => kernel_rfl)
            · intro ops' Q hQ
              simp only [go_sem, hk, ha]
              repeat (refine And.intro (by first | assumption | omega | (simp; done) | (simp; omega) | (intros; omega) | (simp_all; done) | (simp_all; omega)) ?_)
              refine kdcall hR.inv te_ok rfl rfl rfl rfl rfl rfl (kid_ok (nth x.kids 0) x.k (by have := exT_len _ (exOk_kids hok _ (nth_mem hkl)); have := Ex.sizes_mem (nth_mem hkl); omega) (ihx _ (nth_mem hkl))) ?_
              simp only [go_sem, hk, ha]
              repeat (refine And.intro (by first | assumption | omega | (simp; done) | (simp; omega) | (intros; omega) | (simp_all; done) | (simp_all; omega)) ?_)
              exact hQ
            refine Exec.seq ?_
            refine Exec.seq ?_
            apply Exec.regionL te_ok
            · intro ops' Q hQ
              simp only [go_sem, hk, ha]
              repeat (refine And.intro (by first | assumption | omega | (simp; done) | (simp; omega) | (intros; omega) | (simp_all; done) | (simp_all; omega)) ?_)
              exact hQ
            refine Exec.block ?_
            apply Exec.loopU [1, 3] (X := Nat) (fun i => [(5, .d (iv i)), (4, .d (sv (Lib.join ((kt x).take i) [124])))]) (fun i => []) (fun i => []) (fun i => x.kids.length - i) (fun i => 1 ≤ i ∧ i ≤ x.kids.length) 1
            case h0 =>
              omega
            case hw =>
              simp only [go_sem, hj124]; simp
            case body =>
              rintro i hx ih1
              try simp only at hx
              apply Exec.norm
              · simp only [go_sem, hk, ha]
                rfl
              refine Exec.seq ?_
              refine Exec.seq ?_
              apply Exec.regionL te_ok
              · intro ops' Q hQ
                simp only [go_sem, hk, ha]
                repeat (refine And.intro (by first | assumption | omega | (simp; done) | (simp; omega) | (intros; omega) | (simp_all; done) | (simp_all; omega)) ?_)
                exact hQ
              refine Exec.cond_split rfl (fun h7 => ?_) (fun h7 => ?_)
              · skip
                have hi : i < x.kids.length := by have := of_decide_eq_true h7; omega
                have ha1 := kdR_at hi
                have hb := join_le (kt x) [124] i
                have hs := join_take (s := [124]) hx.1 (show i < (kt x).length by simpa using hi)
                rw [kt_nth hi] at hs
                simp only [List.length_singleton] at hb
                have hbi : (grp x.k (nth x.kids i).k (exT (nth x.kids i))).length ≤ 1000000 := by have := grp_len x.k (nth x.kids i).k (exT (nth x.kids i)); have := exT_len _ (exOk_kids hok _ (nth_mem hi)); have := Ex.sizes_mem (nth_mem hi); omega
                have w2 : IntKind.i64.wrap ((i : Int) + 1) = ((i + 1 : Nat) : Int) := by rw [wrap_id (by omega)]; omega
                refine Exec.skip ?_
                refine Exec.seq ?_
                refine Exec.block ?_
                apply Exec.draw (st := _) 14 12 [] [] te_ok (by as_aux_lemma => kernel_rfl) (by as_aux_lemma => kernel_rfl) (by as_aux_lemma => kernel_rfl)
                · intro ops' Q hQ
                  simp only [go_sem, hk, ha, ha1, hs, w2]
                  repeat (refine And.intro (by first | assumption | omega | (simp; done) | (simp; omega) | (intros; omega) | (simp_all; done) | (simp_all; omega)) ?_)
                  refine kdcall hR.inv te_ok rfl rfl rfl rfl rfl rfl (kid_ok (nth x.kids i) x.k (by have := exT_len _ (exOk_kids hok _ (nth_mem hi)); have := Ex.sizes_mem (nth_mem hi); omega) (ihx _ (nth_mem hi))) ?_
                  simp only [go_sem, hk, ha, ha1, hs, w2]
                  repeat (refine And.intro (by first | assumption | omega | (simp; done) | (simp; omega) | (intros; omega) | (simp_all; done) | (simp_all; omega)) ?_)
                  exact hQ
                refine Exec.inBlock ?_
                apply Exec.regionL te_ok
                · intro ops' Q hQ
                  simp only [go_sem, hk, ha, ha1, hs, w2]
                  repeat (refine And.intro (by first | assumption | omega | (simp; done) | (simp; omega) | (intros; omega) | (simp_all; done) | (simp_all; omega)) ?_)
                  exact hQ
                refine Exec.back (ih1 (i + 1) ?_ ?_) ?_ ?_ ?_ ?_ ?_ ?_ ?_
                · try simp only
                  omega
                · try simp only
                  omega
                · rfl
                · rfl
                · (simp only [go_sem, hk, ha, ha1, hs, w2])
                · (simp only [go_sem, hk, ha, ha1, hs, w2])
                · (simp only [go_sem, hk, ha, ha1, hs, w2])
                · simp only [go_sem, hk, ha, ha1, hs, w2]
                · rfl
              · skip
                refine Exec.exit rfl ?_
                refine Exec.seq ?_
                apply Exec.regionL te_ok
                · intro ops' Q hQ
                  simp only [go_sem, hk, ha]
                  repeat (refine And.intro (by first | assumption | omega | (simp; done) | (simp; omega) | (intros; omega) | (simp_all; done) | (simp_all; omega)) ?_)
                  exact hQ
                refine Exec.rets hR te_ok rfl rfl rfl (LeX.le ?_) (.inr ⟨_, rfl⟩)
                simp only [go_sem]
                rw [exT_3 hk3, List.take_of_length_le (by have := of_decide_eq_false h7; simp; omega)]
end Go.Proofs.YtmnponhhmkdcdaaGreatDoor
