/- Steps of a function body on data, and contracts of the functions of the seat, walked. -/
import Derived.Test.YtonchjamoblioaaGreatDoorZ5
import Derived.Test.YtonchjamoblioaaGreatDoorKPan
set_option linter.unusedSimpArgs false
set_option linter.unusedVariables false
set_option linter.unusedSectionVars false
namespace Go.Proofs.YtonchjamoblioaaGreatDoor
open Go.Kin
set_option maxRecDepth 100000
set_option maxHeartbeats 0
theorem parts_ok (x : Ex) : FnOK Laid Tryz.prog 75 [exD x] (.fn 144 [.ptr (exC x)]) := by
 refine FnOK_of laid_stable Tryz.func75 Tryz.ntmps75 rfl (by as_aux_lemma => kernel_rfl) (Nat.le_of_ble_eq_true rfl) (fun R hR => ?_)
 obtain ⟨_, b, cs, T, C⟩ := R
 obtain rfl : _ = Tryz.prog := hR.p
 have hk := kd_eq x
 refine sq ?_
 apply Exec.regionL te_ok
 ·intro u' Q hQ
  simp only [go_sem, hk]
  repeat refine ob2 ?_
  exact hQ
 refine sq ?_
 refine Exec.freezeB 1 rfl rfl rfl ?_
 apply Exec.norm
 ·simp only [go_sem, hk]
  rfl
 apply Exec.regionL te_ok
 ·intro u' Q hQ
  simp only [go_sem, hk]
  repeat refine ob2 ?_
  exact hQ
 refine Exec.rets hR te_ok rfl rfl rfl (LeX.le ?_) (.inr ⟨_, rfl⟩)
 simp only [go_sem, hk]
mutual
/-- the count along a walk that asks each part and stops at 24 -/
def wlk : Ex → Nat → Option Nat
 | .mk k s ks, n => if n + 1 ≤ 24 ∧ partR (.mk k s ks) = true then wlks ks (n + 1) else none
def wlks : List Ex → Nat → Option Nat
 | [], n => some n
 | x :: r, n => match wlk x n with
  | some m => wlks r m
  | none => none
end
theorem wlk_eq (x : Ex) (n : Nat) : wlk x n = if n + 1 ≤ 24 ∧ partR x = true then wlks x.kids (n + 1) else none := by cases x; simp [wlk, Ex.kids]
theorem wlks_app : ∀ (l m : List Ex) (n : Nat), wlks (l ++ m) n = (match wlks l n with | some q => wlks m q | none => none)
 | [], m, n => by simp [wlks]
 | x :: l, m, n => by
  simp only [List.cons_append, wlks]
  cases wlk x n with
  | none => rfl
  | some q => simp only; exact wlks_app l m q
theorem wlks_take {l : List Ex} {i n0 n : Nat} (h : i < l.length) (hw : wlks (l.take i) n0 = some n) : wlks (l.take (i + 1)) n0 = wlk (nth l i) n := by
 rw [take_succ_nth h, wlks_app, hw]; simp only [wlks]; cases wlk (nth l i) n <;> rfl
theorem wlks_bad {l : List Ex} {i n0 n : Nat} (h : i < l.length) (hw : wlks (l.take i) n0 = some n) (hb : wlk (nth l i) n = none) : wlks l n0 = none := by
 have h1 := wlks_take h hw
 rw [hb] at h1
 have := wlks_app (l.take (i + 1)) (l.drop (i + 1)) n0
 rw [List.take_append_drop, h1] at this; exact this
theorem wlks_is : ∀ (l : List Ex) (n : Nat), (∀ x ∈ l, ∀ n, n ≤ 24 → wlk x n = if n + x.size ≤ 24 ∧ exOk x = true then some (n + x.size) else none) → n ≤ 24 → wlks l n = if n + Ex.sizes l ≤ 24 ∧ exsOk l = true then some (n + Ex.sizes l) else none
 | [], n, _, hn => by simp [wlks, Ex.sizes, exsOk, hn]
 | x :: r, n, h, hn => by
  have e1 : Ex.sizes (x :: r) = x.size + Ex.sizes r := by simp [Ex.sizes]
  have e2 : exsOk (x :: r) = (exOk x && exsOk r) := by simp [exsOk]
  have e3 : wlks (x :: r) n = (match wlk x n with | some m => wlks r m | none => none) := by simp [wlks]
  rw [e3, h x List.mem_cons_self n hn]
  by_cases h1 : n + x.size ≤ 24 ∧ exOk x = true
  ·rw [if_pos h1]
   show wlks r (n + x.size) = _
   rw [wlks_is r _ (fun y hy => h y (List.mem_cons_of_mem _ hy)) h1.1, e1, e2, h1.2, Bool.true_and, Nat.add_assoc]
  ·rw [if_neg h1]
   show none = _
   rw [if_neg]
   intro h2
   rw [e1, e2, Bool.and_eq_true] at h2
   exact h1 ⟨by omega, h2.2.1⟩
theorem wlk_is : ∀ (x : Ex) (n : Nat), n ≤ 24 → wlk x n = if n + x.size ≤ 24 ∧ exOk x = true then some (n + x.size) else none := fun x => by
 refine Ex.ind (p := fun x => ∀ n, n ≤ 24 → wlk x n = if n + x.size ≤ 24 ∧ exOk x = true then some (n + x.size) else none) (fun x ih n hn => ?_) x
 rw [wlk_eq, x.size_eq, exOk_eq]
 by_cases h1 : n + 1 ≤ 24 ∧ partR x = true
 ·rw [if_pos h1, wlks_is x.kids (n + 1) ih h1.1]
  simp only [h1.2, Bool.true_and]
  simp only [Nat.add_assoc]
 ·rw [if_neg h1, if_neg]
  intro h2
  simp only [Bool.and_eq_true] at h2
  exact h1 ⟨by omega, h2.2.1⟩
theorem wlk_right (x : Ex) : exRight x = (wlk x 0).isSome := by
 rw [wlk_is x 0 (by omega)]; unfold exRight
 simp only [Nat.zero_add]
 by_cases h : x.size ≤ 24 ∧ exOk x = true
 ·rw [if_pos h, decide_eq_true h.1, h.2]; rfl
 ·rw [if_neg h]
  by_cases h1 : x.size ≤ 24
  ·have : exOk x = false := by cases h2 : exOk x; rfl; exact absurd ⟨h1, h2⟩ h
   rw [this]; simp
  ·rw [decide_eq_false h1]; rfl
structure Cl (fz : List (Act × List (Nat × SV))) : Prop where
 m4 : mapF [] [4] (renF ⟨swp 1, swp_swp 1, swp_lent 1⟩ fz) = renF ⟨swp 1, swp_swp 1, swp_lent 1⟩ fz
 m2 : mapF [] [2] fz = fz
 m6 : mapF [] [6] fz = fz
 f2 : ∀ ds, frbF 2 ds fz = fz
 f6 : ∀ ds, frbF 6 ds fz = fz
 le : LeF fz fz
structure ClS (S : List (Nat × SV)) : Prop where
 m4 : mapS [] [4] (renS ⟨swp 1, swp_swp 1, swp_lent 1⟩ S) = renS ⟨swp 1, swp_swp 1, swp_lent 1⟩ S
 m2 : mapS [] [2] S = S
 m6 : mapS [] [6] S = S
 f2 : ∀ ds, frbS 2 ds S = S
 f6 : ∀ ds, frbS 6 ds S = S
 le : LeS S S
theorem Cl.cons {S : List (Nat × SV)} {fz : List (Act × List (Nat × SV))} {a : Act} (h : ClS S) (hf : Cl fz) : Cl ((a, S) :: fz) :=
 ⟨by simp only [renF, mapF, h.m4, hf.m4], by simp only [mapF, h.m2, hf.m2], by simp only [mapF, h.m6, hf.m6], fun ds => by simp only [frbF, h.f2, hf.f2], fun ds => by simp only [frbF, h.f6, hf.f6], ⟨rfl, h.le, hf.le⟩⟩
/-- the boxes of the function that walks, as its iterator sees them -/
abbrev W36 (x : Ex) (n : Nat) : List (Nat × TypeId × List SV) := [(1003, 3, [.d (iv n)]), (1002, 4, [.d (bv false)]), (1001, 30, [.d (iv x.k), .d (sv x.s), .d (kdX x)])]
abbrev So36 (x : Ex) : List (Nat × SV) := [(6, .d (.fn 144 [.ptr (exC x)])), (5, .d (exD x)), (3, .lp 1003 0), (2, .lp 1002 0), (1, .lp 1001 0), (0, .d (exD x))]
attribute [go_sem] W36 So36
theorem xright_ok (x : Ex) (hfx : FitX x) : FnOK Laid Tryz.prog 36 [exD x] (bv (exRight x)) := by
 refine FnOK_of laid_stable Tryz.func36 Tryz.ntmps36 rfl (by as_aux_lemma => kernel_rfl) (Nat.le_of_ble_eq_true rfl) (fun R hR => ?_)
 obtain ⟨_, b, cs, T, C⟩ := R
 obtain rfl : _ = Tryz.prog := hR.p
 refine sreg te_ok ?_
 refine sreg te_ok ?_
 refine sq ?_
 refine sq ?_
 apply Exec.regionL te_ok
 ·intro u' Q hQ
  simp only [go_sem]
  repeat refine ob2 ?_
  refine kcall hR.inv te_ok rfl rfl rfl rfl rfl rfl (parts_ok x) ?_
  simp only [go_sem]
  repeat refine ob2 ?_
  exact hQ
 refine Exec.block ?_
 refine Exec.range 1 hR.round hR.bfn rfl rfl Tryz.func144 Tryz.ntmps144 rfl (by as_aux_lemma => kernel_rfl) (Nat.le_of_ble_eq_true rfl) (fun a0 l0 r0 lo0 hlo0 hN0 hD0 hfr0 hfl0 => ?_)
 have yl : ∀ (y : Ex), FitX y → ∀ (n : Nat), n ≤ 24 → ∀ {b' : Frame} {cs' : List Frame} {k : List Item} {ops : Array Oper} {i m : Nat} {o : Oper} {f : Operand} {args : Array Operand} {ts : Array TypeId} {N d : Nat} {S : List (Nat × SV)} {fz : List (Act × List (Nat × SV))},
   ops[i]? = some o → o.op = .call { callee := .value f, args := args, argTypes := ts } → o.guard = none → evalL S f = some (.d (.v (.func (.yield l0) #[] #[]))) → argsV S args.toList = some [.d (exD y)] → args.size = 1 → (ops[i]?).bind (·.dst) = some d → dstLt (some d) N = true → (a0, So36 x) ∈ fz → ClS S → Cl fz →
   (n + 1 ≤ 24 → partR y = true → Exec ⟨Tryz.prog, b', cs', T, C⟩ (.inRegion ops (List.range' (i + 1) m) :: k) (Stt.mk N [] ((d, .d (bv true)) :: S) (W36 x (n + 1)) [] fz [(l0, lo0 .ready none), (r0, .deferred (some []))]).sy) →
   (¬ (n + 1 ≤ 24 ∧ partR y = true) → ∀ z : Nat, Exec ⟨Tryz.prog, b', cs', T, C⟩ (.inRegion ops (List.range' (i + 1) m) :: k) (Stt.mk N [] ((d, .d (bv false)) :: S) (W36 x z) [] fz [(l0, lo0 .done (some .ret)), (r0, .deferred (some []))]).sy) →
   Exec ⟨Tryz.prog, b', cs', T, C⟩ (.inRegion ops (List.range' i (m + 1)) :: k) (Stt.mk N [] S (W36 x n) [] fz [(l0, lo0 .ready none), (r0, .deferred (some []))]).sy := by
  intro y hfy n hn b' cs' k ops i m o f args ts N d S fz ho hop hgd hf hargs hsz hd hdN hmem hS hF hk1 hk2
  refine Exec.yieldD 1 ho hop hgd hf hargs rfl hlo0 hmem hN0 (by simp [hsz]) (fun ag hag hdg => ?_)
  have wn : IntKind.i64.wrap ((n : Int) + 1) = ((n + 1 : Nat) : Int) := by rw [wrap_id (by omega)]; omega
  apply Exec.norm
  ·simp only [go_sem, renS_renS, renF_renF, wn, hS.m4, hF.m4]
   rfl
  apply Exec.regionL te_ok
  ·intro u' Q hQ
   simp only [go_sem, renS_renS, renF_renF, wn, hS.m4, hF.m4]
   repeat refine ob2 ?_
   exact hQ
  refine Exec.begin rfl hlo0 hfl0 ?_
  apply Exec.norm
  ·simp only [go_sem, renS_renS, renF_renF, wn, hS.m4, hF.m4]
   rfl
  refine Exec.block ?_
  refine sq ?_
  apply Exec.regionL te_ok
  ·intro u' Q hQ
   simp only [go_sem, renS_renS, renF_renF, wn, hS.m4, hF.m4]
   repeat refine ob2 ?_
   exact hQ
  refine sq ?_
  apply Exec.regionL te_ok
  ·intro u' Q hQ
   simp only [go_sem, renS_renS, renF_renF, wn, hS.m4, hF.m4]
   repeat refine ob2 ?_
   refine kcallG hR.inv te_ok rfl rfl rfl rfl rfl rfl ob1 (fun hq => part_ok y hfy.s hfy.k) ?_
   simp only [go_sem, renS_renS, renF_renF, wn, hS.m4, hF.m4]
   repeat refine ob2 ?_
   exact hQ
  refine Exec.cond_split rfl (fun h0 => ?_) (fun h0 => ?_)
  ·refine sq ?_
   apply Exec.regionL te_ok
   ·intro u' Q hQ
    simp only [go_sem, renS_renS, renF_renF, wn, hS.m4, hF.m4]
    repeat refine ob2 ?_
    exact hQ
   refine Exec.roundEnd 1 .ret rfl hlo0 hfl0 rfl hag hdg hd hdN rfl ?_
   apply Exec.norm
   ·simp only [go_sem, renS_renS, renF_renF, wn, hS.m4, hF.m4]
    rfl
   refine Exec.weakL (W36 x (n + 1)) (by simp only [go_sem]) (hk2 ?_ _)
   intro h; rcases (by simpa using h0 : (24 : Int) < (n : Int) + 1 ∨ partR y = false) with h2 | h2
   ·omega
   ·rw [h2] at h; exact absurd h.2 (by simp)
  ·refine sk ?_
   refine Exec.inBlock ?_
   refine Exec.roundEnd 1 .fall rfl hlo0 hfl0 rfl hag hdg hd hdN rfl ?_
   apply Exec.norm
   ·simp only [go_sem, renS_renS, renF_renF, wn, hS.m4, hF.m4]
    rfl
   have h2 : n + 1 ≤ 24 ∧ partR y = true := (fun h3 => ⟨by omega, h3.2⟩) (by simpa using h0 : (n : Int) + 1 ≤ 24 ∧ partR y = true)
   exact Exec.weakL (W36 x (n + 1)) (by simp only [go_sem]) (hk1 h2.1 h2.2)
 have wk : ∀ (y : Ex), FitX y → ∀ (n : Nat), n ≤ 24 → ∀ {b' : Frame} {cs' : List Frame} {k : List Item} {ops : Array Oper} {i m : Nat} {o : Oper} {f : Operand} {args : Array Operand} {ts : Array TypeId} {N d : Nat} {S : List (Nat × SV)} {fz : List (Act × List (Nat × SV))},
   ops[i]? = some o → o.op = .call { callee := .value f, args := args, argTypes := ts } → o.guard = none → evalL S f = some (.d (.fn 145 [])) → argsV S args.toList = some [.d (exD y), .d (.v (.func (.yield l0) #[] #[]))] → args.size = 2 → (ops[i]?).bind (·.dst) = some d → dstLt (some d) N = true → (a0, So36 x) ∈ fz → ClS S → Cl fz →
   (∀ n2 : Nat, (wlk y n = some n2 ∧ n2 ≤ 24) → Exec ⟨Tryz.prog, b', cs', T, C⟩ (.inRegion ops (List.range' (i + 1) m) :: k) (Stt.mk N [] ((d, .d (bv true)) :: S) (W36 x n2) [] fz [(l0, lo0 .ready none), (r0, .deferred (some []))]).sy) →
   (wlk y n = none → ∀ z : Nat, Exec ⟨Tryz.prog, b', cs', T, C⟩ (.inRegion ops (List.range' (i + 1) m) :: k) (Stt.mk N [] ((d, .d (bv false)) :: S) (W36 x z) [] fz [(l0, lo0 .done (some .ret)), (r0, .deferred (some []))]).sy) →
   Exec ⟨Tryz.prog, b', cs', T, C⟩ (.inRegion ops (List.range' i (m + 1)) :: k) (Stt.mk N [] S (W36 x n) [] fz [(l0, lo0 .ready none), (r0, .deferred (some []))]).sy := by
  intro y
  refine Ex.ind (p := fun y => FitX y → ∀ (n : Nat), n ≤ 24 → ∀ {b' : Frame} {cs' : List Frame} {k : List Item} {ops : Array Oper} {i m : Nat} {o : Oper} {f : Operand} {args : Array Operand} {ts : Array TypeId} {N d : Nat} {S : List (Nat × SV)} {fz : List (Act × List (Nat × SV))},
   ops[i]? = some o → o.op = .call { callee := .value f, args := args, argTypes := ts } → o.guard = none → evalL S f = some (.d (.fn 145 [])) → argsV S args.toList = some [.d (exD y), .d (.v (.func (.yield l0) #[] #[]))] → args.size = 2 → (ops[i]?).bind (·.dst) = some d → dstLt (some d) N = true → (a0, So36 x) ∈ fz → ClS S → Cl fz →
   (∀ n2 : Nat, (wlk y n = some n2 ∧ n2 ≤ 24) → Exec ⟨Tryz.prog, b', cs', T, C⟩ (.inRegion ops (List.range' (i + 1) m) :: k) (Stt.mk N [] ((d, .d (bv true)) :: S) (W36 x n2) [] fz [(l0, lo0 .ready none), (r0, .deferred (some []))]).sy) →
   (wlk y n = none → ∀ z : Nat, Exec ⟨Tryz.prog, b', cs', T, C⟩ (.inRegion ops (List.range' (i + 1) m) :: k) (Stt.mk N [] ((d, .d (bv false)) :: S) (W36 x z) [] fz [(l0, lo0 .done (some .ret)), (r0, .deferred (some []))]).sy) →
   Exec ⟨Tryz.prog, b', cs', T, C⟩ (.inRegion ops (List.range' i (m + 1)) :: k) (Stt.mk N [] S (W36 x n) [] fz [(l0, lo0 .ready none), (r0, .deferred (some []))]).sy) (fun y ih => ?_) y
  intro hfy n0 hn b' cs' k ops i m o f args ts N d S fz ho hop hgd hf hargs hsz hd hdN hmem hS hF hK1 hK2
  refine Exec.enter ho hop hgd hf rfl hargs Tryz.func145 Tryz.ntmps145 rfl (by as_aux_lemma => kernel_rfl) (Nat.le_of_ble_eq_true rfl) (fun ag hag hdg => ?_)
  apply Exec.norm
  ·simp only [go_sem, hS.m2, hS.m6, hS.f2, hS.f6, hS.le, hF.m2, hF.m6, hF.f2, hF.f6, hF.le]
   rfl
  refine sq ?_
  apply Exec.regionL te_ok
  ·intro u' Q hQ
   simp only [go_sem, hS.m2, hS.m6, hS.f2, hS.f6, hS.le, hF.m2, hF.m6, hF.f2, hF.f6, hF.le]
   repeat refine ob2 ?_
   exact hQ
  refine sq ?_
  refine sq ?_
  refine Exec.freezeB 2 rfl rfl rfl ?_
  apply Exec.norm
  ·simp only [go_sem, hS.f2, hF.f2]
   rfl
  refine Exec.regStart 4 rfl ?_
  apply Exec.regPart 0 2 2 te_ok rfl
  ·intro u' Q hQ
   simp only [go_sem, hS.m2, hS.m6, hS.f2, hS.f6, hS.le, hF.m2, hF.m6, hF.f2, hF.f6, hF.le]
   repeat refine ob2 ?_
   exact hQ
  refine yl y hfy n0 hn (m := 1) rfl rfl rfl rfl rfl rfl rfl rfl (List.mem_cons_of_mem _ hmem) (by constructor <;> (intros; first | rfl | simp only [go_sem, hS.m2, hS.m6, hS.f2, hS.f6, hS.le, hF.m2, hF.m6, hF.f2, hF.f6, hF.le])) (Cl.cons hS hF) (fun hka0 hkb0 => ?_) (fun hk0 z0 => ?_)
  ·apply Exec.norm
   ·simp only [go_sem, hS.m2, hS.m6, hS.f2, hS.f6, hS.le, hF.m2, hF.m6, hF.f2, hF.f6, hF.le]
    rfl
   apply Exec.regPart 3 1 0 te_ok rfl
   ·intro u' Q hQ
    simp only [go_sem, hS.m2, hS.m6, hS.f2, hS.f6, hS.le, hF.m2, hF.m6, hF.f2, hF.f6, hF.le]
    repeat refine ob2 ?_
    exact hQ
   refine Exec.regEnd ?_
   refine Exec.cond (t := false) rfl ?_
   simp only [reduceIte, Bool.false_eq_true]
   refine sk ?_
   refine sq ?_
   refine sq ?_
   have hk := kd_eq y
   have hyk := hfy.k
   apply Exec.regionL te_ok
   ·intro u' Q hQ
    simp only [go_sem, hS.m2, hS.m6, hS.f2, hS.f6, hS.le, hF.m2, hF.m6, hF.f2, hF.f6, hF.le, hk]
    repeat refine ob2 ?_
    exact hQ
   refine Exec.block ?_
   apply Exec.loopU [1, 12, 13] (X := Nat × Nat) (fun ⟨i, n⟩ => [(14, .d (iv i))]) (fun ⟨i, n⟩ => [(1003, 3, [.d (iv n)])]) (fun ⟨i, n⟩ => []) (fun ⟨i, n⟩ => y.kids.length - i) (fun ⟨i, n⟩ => i ≤ y.kids.length ∧ n ≤ 24 ∧ wlks (y.kids.take i) (n0 + 1) = some n) (0, n0 + 1)
   case h0 =>
    exact ⟨Nat.zero_le _, hka0, rfl⟩
   case hw =>
    simp only [go_sem, hS.m2, hS.m6, hS.f2, hS.f6, hS.le, hF.m2, hF.m6, hF.f2, hF.f6, hF.le]
   case body =>
    rintro ⟨i, n⟩ hx ih0
    try simp only at hx
    apply Exec.norm
    ·simp only [go_sem, hS.m2, hS.m6, hS.f2, hS.f6, hS.le, hF.m2, hF.m6, hF.f2, hF.f6, hF.le]
     rfl
    refine sq ?_
    apply Exec.regionL te_ok
    ·intro u' Q hQ
     simp only [go_sem, hS.m2, hS.m6, hS.f2, hS.f6, hS.le, hF.m2, hF.m6, hF.f2, hF.f6, hF.le]
     repeat refine ob2 ?_
     exact hQ
    refine sq ?_
    refine Exec.cond_split rfl (fun h1 => ?_) (fun h1 => ?_)
    ·have hi : i < y.kids.length := by have := of_decide_eq_true h1; omega
     have ha := kdR_at hi
     have w2 : IntKind.i64.wrap ((i : Int) + 1) = ((i + 1 : Nat) : Int) := by rw [wrap_id (by omega)]; omega
     refine sk ?_
     refine sq ?_
     refine Exec.block ?_
     refine sq ?_
     apply Exec.regionL te_ok
     ·intro u' Q hQ
      simp only [go_sem, hS.m2, hS.m6, hS.f2, hS.f6, hS.le, hF.m2, hF.m6, hF.f2, hF.f6, hF.le, ha, w2]
      repeat refine ob2 ?_
      exact hQ
     refine sq ?_
     refine Exec.freezeB 6 rfl rfl rfl ?_
     apply Exec.norm
     ·simp only [go_sem, hS.f6, hF.f6]
      rfl
     refine Exec.regStart 4 rfl ?_
     apply Exec.regPart 0 2 2 te_ok rfl
     ·intro u' Q hQ
      simp only [go_sem, hS.m2, hS.m6, hS.f2, hS.f6, hS.le, hF.m2, hF.m6, hF.f2, hF.f6, hF.le, ha, w2]
      repeat refine ob2 ?_
      exact hQ
     refine ih _ (nth_mem hi) (hfy.y (nth_mem hi)) n hx.2.1 (m := 1) rfl rfl rfl rfl rfl rfl rfl rfl (List.mem_cons_of_mem _ hmem) (by constructor <;> (intros; first | rfl | simp only [go_sem, hS.m2, hS.m6, hS.f2, hS.f6, hS.le, hF.m2, hF.m6, hF.f2, hF.f6, hF.le, ha, w2])) (Cl.cons hS hF) (fun n1 hk1 => ?_) (fun hk1 z1 => ?_)
     ·apply Exec.norm
      ·simp only [go_sem, hS.m2, hS.m6, hS.f2, hS.f6, hS.le, hF.m2, hF.m6, hF.f2, hF.f6, hF.le, ha, w2]
       rfl
      apply Exec.regPart 3 1 0 te_ok rfl
      ·intro u' Q hQ
       simp only [go_sem, hS.m2, hS.m6, hS.f2, hS.f6, hS.le, hF.m2, hF.m6, hF.f2, hF.f6, hF.le, ha, w2]
       repeat refine ob2 ?_
       exact hQ
      refine Exec.regEnd ?_
      refine Exec.cond (t := false) rfl ?_
      simp only [reduceIte, Bool.false_eq_true]
      refine sk ?_
      refine Exec.inBlock ?_
      apply Exec.regionL te_ok
      ·intro u' Q hQ
       simp only [go_sem, hS.m2, hS.m6, hS.f2, hS.f6, hS.le, hF.m2, hF.m6, hF.f2, hF.f6, hF.le, ha, w2]
       repeat refine ob2 ?_
       exact hQ
      refine Exec.back (ih0 (i + 1, n1) ?_ ?_) ?_ ?_ ?_ ?_ ?_ ?_ ?_
      ·try simp only
       exact ⟨by omega, hk1.2, by rw [wlks_take hi hx.2.2]; exact hk1.1⟩
      ·try simp only
       omega
      ·rfl
      ·rfl
      ·(simp only [go_sem, hS.m2, hS.m6, hS.f2, hS.f6, hS.le, hF.m2, hF.m6, hF.f2, hF.f6, hF.le, ha, w2])
      ·(simp only [go_sem, hS.m2, hS.m6, hS.f2, hS.f6, hS.le, hF.m2, hF.m6, hF.f2, hF.f6, hF.le, ha, w2])
      ·(simp only [go_sem, hS.m2, hS.m6, hS.f2, hS.f6, hS.le, hF.m2, hF.m6, hF.f2, hF.f6, hF.le, ha, w2])
      ·simp only [go_sem, hS.m2, hS.m6, hS.f2, hS.f6, hS.le, hF.m2, hF.m6, hF.f2, hF.f6, hF.le, ha, w2]
      ·rfl
     ·apply Exec.norm
      ·simp only [go_sem, hS.m2, hS.m6, hS.f2, hS.f6, hS.le, hF.m2, hF.m6, hF.f2, hF.f6, hF.le, ha, w2]
       rfl
      apply Exec.regPart 3 1 0 te_ok rfl
      ·intro u' Q hQ
       simp only [go_sem, hS.m2, hS.m6, hS.f2, hS.f6, hS.le, hF.m2, hF.m6, hF.f2, hF.f6, hF.le, ha, w2]
       repeat refine ob2 ?_
       exact hQ
      refine Exec.regEnd ?_
      refine Exec.cond (t := true) rfl ?_
      simp only [reduceIte, Bool.false_eq_true]
      refine sq ?_
      apply Exec.regionL te_ok
      ·intro u' Q hQ
       simp only [go_sem, hS.m2, hS.m6, hS.f2, hS.f6, hS.le, hF.m2, hF.m6, hF.f2, hF.f6, hF.le, ha, w2]
       repeat refine ob2 ?_
       exact hQ
      refine Exec.leave te_ok Tryz.func145 rfl rfl rfl (.inr ⟨_, rfl⟩) rfl rfl hag hdg hd hdN ?_
      apply Exec.norm
      ·simp only [go_sem, hS.m2, hS.m6, hS.f2, hS.f6, hS.le, hF.m2, hF.m6, hF.f2, hF.f6, hF.le, ha, w2]
       rfl
      exact hK2 (by rw [wlk_eq, if_pos ⟨hka0, hkb0⟩]; exact wlks_bad hi hx.2.2 hk1) _
    ·refine Exec.exit rfl ?_
     refine sq ?_
     apply Exec.regionL te_ok
     ·intro u' Q hQ
      simp only [go_sem, hS.m2, hS.m6, hS.f2, hS.f6, hS.le, hF.m2, hF.m6, hF.f2, hF.f6, hF.le]
      repeat refine ob2 ?_
      exact hQ
     refine Exec.leave te_ok Tryz.func145 rfl rfl rfl (.inr ⟨_, rfl⟩) rfl rfl hag hdg hd hdN ?_
     apply Exec.norm
     ·simp only [go_sem, hS.m2, hS.m6, hS.f2, hS.f6, hS.le, hF.m2, hF.m6, hF.f2, hF.f6, hF.le]
      rfl
     exact hK1 n ⟨by rw [wlk_eq, if_pos ⟨hka0, hkb0⟩]; have := hx.2.2; rwa [List.take_of_length_le (by have := of_decide_eq_false h1; omega)] at this, hx.2.1⟩
  ·apply Exec.norm
   ·simp only [go_sem, hS.m2, hS.m6, hS.f2, hS.f6, hS.le, hF.m2, hF.m6, hF.f2, hF.f6, hF.le]
    rfl
   apply Exec.regPart 3 1 0 te_ok rfl
   ·intro u' Q hQ
    simp only [go_sem, hS.m2, hS.m6, hS.f2, hS.f6, hS.le, hF.m2, hF.m6, hF.f2, hF.f6, hF.le]
    repeat refine ob2 ?_
    exact hQ
   refine Exec.regEnd ?_
   refine Exec.cond (t := true) rfl ?_
   simp only [reduceIte, Bool.false_eq_true]
   refine sq ?_
   apply Exec.regionL te_ok
   ·intro u' Q hQ
    simp only [go_sem, hS.m2, hS.m6, hS.f2, hS.f6, hS.le, hF.m2, hF.m6, hF.f2, hF.f6, hF.le]
    repeat refine ob2 ?_
    exact hQ
   refine Exec.leave te_ok Tryz.func145 rfl rfl rfl (.inr ⟨_, rfl⟩) rfl rfl hag hdg hd hdN ?_
   apply Exec.norm
   ·simp only [go_sem, hS.m2, hS.m6, hS.f2, hS.f6, hS.le, hF.m2, hF.m6, hF.f2, hF.f6, hF.le]
    rfl
   exact hK2 (by rw [wlk_eq, if_neg hk0]) _
 apply Exec.norm
 ·simp only [go_sem]
  rfl
 refine Exec.regStart 3 rfl ?_
 apply Exec.regPart 0 2 1 te_ok rfl
 ·intro u' Q hQ
  simp only [go_sem]
  repeat refine ob2 ?_
  exact hQ
 refine wk x hfx 0 (by omega) (m := 0) rfl rfl rfl rfl rfl rfl rfl rfl List.mem_cons_self (by constructor <;> (intros; first | rfl | simp only [go_sem])) (by constructor <;> (intros; first | rfl | simp only [go_sem])) (fun n0 hk0 => ?_) (fun hk0 z0 => ?_)
 ·apply Exec.norm
  ·simp only [go_sem]
   rfl
  refine Exec.regEnd ?_
  refine Exec.rangeEnd 1 (pd := none) Tryz.func144 rfl (.inl rfl) rfl rfl hlo0 hfl0 rfl rfl hN0 hD0 ?_
  apply Exec.norm
  ·simp only [go_sem]
   rfl
  refine Exec.inBlock ?_
  refine sreg te_ok ?_
  refine Exec.retsM hR te_ok rfl (.cons hfr0 .nil) rfl (LeX.le ?_) (.inr ⟨_, rfl⟩)
  simp only [go_sem]
  rw [wlk_right, hk0.1]; rfl
 ·apply Exec.norm
  ·simp only [go_sem]
   rfl
  refine Exec.regEnd ?_
  refine Exec.rangeEnd 1 (pd := (some .ret)) Tryz.func144 rfl (.inl rfl) rfl rfl hlo0 hfl0 rfl rfl hN0 hD0 ?_
  apply Exec.norm
  ·simp only [go_sem]
   rfl
  refine Exec.retsM hR te_ok rfl (.cons hfr0 .nil) rfl (LeX.le ?_) (.inr ⟨_, rfl⟩)
  simp only [go_sem]
  rw [wlk_right, hk0]; rfl
end Go.Proofs.YtonchjamoblioaaGreatDoor
