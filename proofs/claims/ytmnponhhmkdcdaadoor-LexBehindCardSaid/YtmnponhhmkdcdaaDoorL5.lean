/- Contracts of functions of the seat, walked. -/
import Derived.Test.YtmnponhhmkdcdaaDoorL4
namespace Go.Proofs.YtmnponhhmkdcdaaDoor
open Go.Kin
set_option linter.unusedSimpArgs false
set_option linter.unusedVariables false
set_option maxRecDepth 100000
set_option maxHeartbeats 0
theorem Exec.prune {R : Rn} {k : List Item} {s : Stt} (ts : List Nat) (hw : LeS s.S (restS s.S ts) ∧ LeL s.L s.L ∧ LeO s.O s.O ∧ LeF s.fz s.fz) (hk : Exec R k (famSt s ts [] [] []).sy) : Exec R k s.sy :=
  Exec.weak (famSt s ts [] [] []) rfl rfl hw.1 (by have := hw.2.1; simpa only [famSt, List.nil_append, keysOf, delKs] using this) (by have := hw.2.2.1; simpa only [famSt, List.nil_append, keysOf, delKs] using this) hw.2.2.2 rfl hk
def cutS (s : List UInt8) : List UInt8 := if 2100 < s.length then s.take 2100 else s
theorem cut_len (s : List UInt8) : (cutS s).length ≤ 2100 := by
  unfold cutS; split
  · rw [List.length_take]; omega
  · omega
theorem cut_bif (s : List UInt8) : (bif decide (2100 < (s.length : Int)) then List.take (Int.toNat 2100) s else s) = cutS s := by
  unfold cutS
  by_cases h : 2100 < s.length
  · rw [if_pos h, decide_eq_true (by omega)]; rfl
  · rw [if_neg h, decide_eq_false (by omega)]; rfl
theorem sameT_refl (x : List Tk) (hx : x.length ≤ 140737488355328) : FnOK LaidX Tryd.prog 29 [tokD x, tokD x] (bv true) := by
  have h := sameT_ok x x hx hx
  rwa [decide_eq_true (rfl : x = x)] at h
theorem at_head {u : List UInt8} {a : Nat} (h : a ≤ u.length) (hb : firstB (u.drop (nextA u a)) = true) : ∃ r o, lexAt u a = (tokA u a :: r, o) := by
  by_cases hk : (firstT (u.drop (nextA u a))).k = 5
  · exact ⟨_, _, lexAt_end h hb hk⟩
  · exact ⟨_, _, lexAt_on h hb hk⟩
theorem tells_tok {u : List UInt8} {a : Nat} {l : List Tk} (hu : u.length ≤ 2000) (hb : firstB (u.drop (nextA u a)) = true) (h : a ≤ u.length) (e : lexAll u = (l ++ (lexAt u a).1, (lexAt u a).2)) :
    (lexE u == 0 && (decide (((lexT u).length : Int) ≤ (l.length : Int)) || !((firstT (u.drop (nextA u a))).k == (nth (lexT u) l.length).k && ((firstT (u.drop (nextA u a))).t == (nth (lexT u) l.length).t && (((nextA u a : Nat) : Int) == (nth (lexT u) l.length).a && ((firstT (u.drop (nextA u a))).v.k == (nth (lexT u) l.length).v.k && ((firstT (u.drop (nextA u a))).v.n == (nth (lexT u) l.length).v.n && (firstT (u.drop (nextA u a))).v.s == (nth (lexT u) l.length).v.s))))))) = false := by
  obtain ⟨r, o, hr⟩ := at_head h hb
  rw [hr] at e
  have h2 : ¬ 2000 < (u.length : Int) := by omega
  cases o with
  | some q =>
    have e3 : lexE u = 7 := by unfold lexE; rw [if_neg h2, e]
    rw [e3]; rfl
  | none =>
    obtain ⟨e1, -, e3⟩ := lex_some (l := l ++ tokA u a :: r) (by simp; omega) e
    have e4 : nth (lexT u) l.length = tokA u a := by rw [e1]; exact nth_of (by simp)
    have e5 : decide (((lexT u).length : Int) ≤ (l.length : Int)) = false := by rw [e1]; apply decide_eq_false; simp only [List.length_append, List.length_cons]; omega
    rw [e3, e4, e5]
    simp [tokA, Tk.at']
theorem lexT_len (s : List UInt8) : (lexT s).length ≤ s.length + 1 := by
  have : ∀ (f a : Nat) (r : List UInt8), (lexR f a r).1.length ≤ r.length + 1 := by
    intro f
    induction f with
    | zero => intro a r; simp [lexR]
    | succ f ih =>
      intro a r
      simp only [lexR]
      split
      · simp
      · split
        · simp
        · rename_i h1 h2
          have hl := first_len (by simpa using h1) h2
          have := ih (a + spanN blankI r + (firstT (r.drop (spanN blankI r))).t.length) ((r.drop (spanN blankI r)).drop (firstT (r.drop (spanN blankI r))).t.length)
          simp at this hl ⊢
          omega
  have h2 := this (s.length + 1) 0 s
  unfold lexT
  split
  · simp
  · split
    · have e : lexAll s = lexR (s.length + 1) 0 s := rfl
      rw [e]; exact h2
    · simp

theorem tells_ok (s : List UInt8) (hs : s.length ≤ 140737488355328) : FnOK LaidX Tryd.prog 7 [sv s] (bv true) := by
  refine FnOK_of laidX_stable Tryd.func7 Tryd.ntmps7 rfl (by as_aux_lemma => kernel_rfl) (Nat.le_of_ble_eq_true rfl) (fun R hR => ?_)
  obtain ⟨_, b, cs, T, C⟩ := R
  obtain rfl : _ = Tryd.prog := hR.p
  have ub := cut_len s
  have ul := lexT_len (cutS s)
  have cb := cut_bif s
  have w0 : IntKind.i64.wrap (((cutS s).length : Int) + 1) = ((cutS s).length : Int) + 1 := wrap_id (by omega)
  refine Exec.seq ?_
  apply Exec.regionL te_ok
  · intro ops' Q hQ
    simp only [go_sem, cb, w0]
    repeat (refine And.intro (by first | assumption | omega | (simp only [Bool.not_eq_true', Bool.or_eq_false_iff, Bool.or_eq_true, Bool.and_eq_true, decide_eq_true_eq, decide_eq_false_iff_not, beq_iff_eq, Bool.not_eq_false']; omega) | (simp; done) | (simp; omega) | (intros; omega) | (simp_all; done) | (simp_all; omega)) ?_)
    exact hQ
  refine Exec.seq ?_
  refine Exec.seq ?_
  apply Exec.regionL te_ok
  · intro ops' Q hQ
    simp only [go_sem, cb, w0]
    repeat (refine And.intro (by first | assumption | omega | (simp only [Bool.not_eq_true', Bool.or_eq_false_iff, Bool.or_eq_true, Bool.and_eq_true, decide_eq_true_eq, decide_eq_false_iff_not, beq_iff_eq, Bool.not_eq_false']; omega) | (simp; done) | (simp; omega) | (intros; omega) | (simp_all; done) | (simp_all; omega)) ?_)
    exact hQ
  apply Exec.join [1, 2, 11, 12, 46, 47] rfl
  case hx =>
    intro h0 hK
    apply Exec.regionL te_ok
    · intro ops' Q hQ
      simp only [go_sem, cb, w0]
      repeat (refine And.intro (by first | assumption | omega | (simp only [Bool.not_eq_true', Bool.or_eq_false_iff, Bool.or_eq_true, Bool.and_eq_true, decide_eq_true_eq, decide_eq_false_iff_not, beq_iff_eq, Bool.not_eq_false']; omega) | (simp; done) | (simp; omega) | (intros; omega) | (simp_all; done) | (simp_all; omega)) ?_)
      exact hQ
    exact hK
  case hy =>
    intro h0 hK
    refine Exec.skip ?_
    exact hK
  case hN => rfl
  case hdf => rfl
  case hF => simp only [go_sem]
  case hP => rfl
  apply Exec.norm
  · simp only [go_sem, cb, w0]
    rfl
  refine Exec.seq ?_
  apply Exec.regionL te_ok
  · intro ops' Q hQ
    simp only [go_sem, cb, w0]
    repeat (refine And.intro (by first | assumption | omega | (simp only [Bool.not_eq_true', Bool.or_eq_false_iff, Bool.or_eq_true, Bool.and_eq_true, decide_eq_true_eq, decide_eq_false_iff_not, beq_iff_eq, Bool.not_eq_false']; omega) | (simp; done) | (simp; omega) | (intros; omega) | (simp_all; done) | (simp_all; omega)) ?_)
    refine kcall hR.inv te_ok rfl rfl rfl rfl rfl rfl (lex_ok _ (by omega)) ?_
    simp only [go_sem, cb, w0]
    repeat (refine And.intro (by first | assumption | omega | (simp only [Bool.not_eq_true', Bool.or_eq_false_iff, Bool.or_eq_true, Bool.and_eq_true, decide_eq_true_eq, decide_eq_false_iff_not, beq_iff_eq, Bool.not_eq_false']; omega) | (simp; done) | (simp; omega) | (intros; omega) | (simp_all; done) | (simp_all; omega)) ?_)
    exact hQ
  refine Exec.seq ?_
  apply Exec.regionL te_ok
  · intro ops' Q hQ
    simp only [go_sem, cb, w0]
    repeat (refine And.intro (by first | assumption | omega | (simp only [Bool.not_eq_true', Bool.or_eq_false_iff, Bool.or_eq_true, Bool.and_eq_true, decide_eq_true_eq, decide_eq_false_iff_not, beq_iff_eq, Bool.not_eq_false']; omega) | (simp; done) | (simp; omega) | (intros; omega) | (simp_all; done) | (simp_all; omega)) ?_)
    refine kcall hR.inv te_ok rfl rfl rfl rfl rfl rfl (rlex_ok _ (by omega)) ?_
    simp only [go_sem, cb, w0]
    repeat (refine And.intro (by first | assumption | omega | (simp only [Bool.not_eq_true', Bool.or_eq_false_iff, Bool.or_eq_true, Bool.and_eq_true, decide_eq_true_eq, decide_eq_false_iff_not, beq_iff_eq, Bool.not_eq_false']; omega) | (simp; done) | (simp; omega) | (intros; omega) | (simp_all; done) | (simp_all; omega)) ?_)
    exact hQ
  refine Exec.seq ?_
  refine Exec.seq ?_
  apply Exec.regionL te_ok
  · intro ops' Q hQ
    simp only [go_sem, cb, w0]
    repeat (refine And.intro (by first | assumption | omega | (simp only [Bool.not_eq_true', Bool.or_eq_false_iff, Bool.or_eq_true, Bool.and_eq_true, decide_eq_true_eq, decide_eq_false_iff_not, beq_iff_eq, Bool.not_eq_false']; omega) | (simp; done) | (simp; omega) | (intros; omega) | (simp_all; done) | (simp_all; omega)) ?_)
    refine kcall hR.inv te_ok rfl rfl rfl rfl rfl rfl (sameT_refl _ (by omega)) ?_
    simp only [go_sem, cb, w0]
    repeat (refine And.intro (by first | assumption | omega | (simp only [Bool.not_eq_true', Bool.or_eq_false_iff, Bool.or_eq_true, Bool.and_eq_true, decide_eq_true_eq, decide_eq_false_iff_not, beq_iff_eq, Bool.not_eq_false']; omega) | (simp; done) | (simp; omega) | (intros; omega) | (simp_all; done) | (simp_all; omega)) ?_)
    exact hQ
  refine Exec.cond (t := false) rfl ?_
  simp only [reduceIte, Bool.false_eq_true]
  refine Exec.skip ?_
  refine Exec.seq ?_
  apply Exec.regionL te_ok
  · intro ops' Q hQ
    simp only [go_sem, cb, w0]
    repeat (refine And.intro (by first | assumption | omega | (simp only [Bool.not_eq_true', Bool.or_eq_false_iff, Bool.or_eq_true, Bool.and_eq_true, decide_eq_true_eq, decide_eq_false_iff_not, beq_iff_eq, Bool.not_eq_false']; omega) | (simp; done) | (simp; omega) | (intros; omega) | (simp_all; done) | (simp_all; omega)) ?_)
    exact hQ
  refine Exec.seq ?_
  apply Exec.regionL te_ok
  · intro ops' Q hQ
    simp only [go_sem, cb, w0]
    repeat (refine And.intro (by first | assumption | omega | (simp only [Bool.not_eq_true', Bool.or_eq_false_iff, Bool.or_eq_true, Bool.and_eq_true, decide_eq_true_eq, decide_eq_false_iff_not, beq_iff_eq, Bool.not_eq_false']; omega) | (simp; done) | (simp; omega) | (intros; omega) | (simp_all; done) | (simp_all; omega)) ?_)
    exact hQ
  refine Exec.seq ?_
  refine Exec.seq ?_
  apply Exec.regionL te_ok
  · intro ops' Q hQ
    simp only [go_sem, cb, w0]
    repeat (refine And.intro (by first | assumption | omega | (simp only [Bool.not_eq_true', Bool.or_eq_false_iff, Bool.or_eq_true, Bool.and_eq_true, decide_eq_true_eq, decide_eq_false_iff_not, beq_iff_eq, Bool.not_eq_false']; omega) | (simp; done) | (simp; omega) | (intros; omega) | (simp_all; done) | (simp_all; omega)) ?_)
    refine kcall hR.inv te_ok rfl rfl rfl rfl rfl rfl (lall_ok _) ?_
    simp only [go_sem, cb, w0]
    repeat (refine And.intro (by first | assumption | omega | (simp only [Bool.not_eq_true', Bool.or_eq_false_iff, Bool.or_eq_true, Bool.and_eq_true, decide_eq_true_eq, decide_eq_false_iff_not, beq_iff_eq, Bool.not_eq_false']; omega) | (simp; done) | (simp; omega) | (intros; omega) | (simp_all; done) | (simp_all; omega)) ?_)
    exact hQ
  refine Exec.block ?_
  apply Exec.prune [1, 2, 3, 4, 5, 9, 10, 11, 12, 45, 46, 47]
  case hw => simp only [go_sem, cb, w0]
  apply Exec.norm
  · simp only [go_sem, cb, w0]
    rfl
  refine Exec.range 1 hR.round hR.bfn rfl rfl Tryd.func52 Tryd.ntmps52 rfl (by as_aux_lemma => kernel_rfl) (Nat.le_of_ble_eq_true rfl) (fun a0 l0 r0 lo0 hlo0 hN0 hD0 hfr0 hfl0 => ?_)
  apply Exec.norm
  · simp only [go_sem, cb, w0]
    rfl
  refine Exec.scope ?_
  refine Exec.seq ?_
  refine Exec.seq ?_
  apply Exec.regionL te_ok
  · intro ops' Q hQ
    simp only [go_sem, cb, w0]
    repeat (refine And.intro (by first | assumption | omega | (simp only [Bool.not_eq_true', Bool.or_eq_false_iff, Bool.or_eq_true, Bool.and_eq_true, decide_eq_true_eq, decide_eq_false_iff_not, beq_iff_eq, Bool.not_eq_false']; omega) | (simp; done) | (simp; omega) | (intros; omega) | (simp_all; done) | (simp_all; omega)) ?_)
    exact hQ
  refine Exec.cond_split rfl (fun h2 => ?_) (fun h2 => ?_)
  · skip
    obtain ⟨e1, e2, e3⟩ := lex_long h2
    refine Exec.seq ?_
    refine Exec.regStart 3 rfl ?_
    apply Exec.regPart 0 2 1 te_ok rfl
    · intro ops' Q hQ
      simp only [go_sem, cb, w0, e1, e2, e3]
      repeat (refine And.intro (by first | assumption | omega | (simp only [Bool.not_eq_true', Bool.or_eq_false_iff, Bool.or_eq_true, Bool.and_eq_true, decide_eq_true_eq, decide_eq_false_iff_not, beq_iff_eq, Bool.not_eq_false']; omega) | (simp; done) | (simp; omega) | (intros; omega) | (simp_all; done) | (simp_all; omega)) ?_)
      exact hQ
    refine Exec.yield 1 (m := 0) rfl rfl rfl rfl rfl rfl hlo0 rfl hN0 rfl (fun ag0 hag0 hdg0 => ?_)
    apply Exec.norm
    · simp only [go_sem, cb, w0, e1, e2, e3]
      rfl
    refine Exec.seq ?_
    apply Exec.regionL te_ok
    · intro ops' Q hQ
      simp only [go_sem, cb, w0, e1, e2, e3]
      repeat (refine And.intro (by first | assumption | omega | (simp only [Bool.not_eq_true', Bool.or_eq_false_iff, Bool.or_eq_true, Bool.and_eq_true, decide_eq_true_eq, decide_eq_false_iff_not, beq_iff_eq, Bool.not_eq_false']; omega) | (simp; done) | (simp; omega) | (intros; omega) | (simp_all; done) | (simp_all; omega)) ?_)
      exact hQ
    apply Exec.regionL te_ok
    · intro ops' Q hQ
      simp only [go_sem, cb, w0, e1, e2, e3]
      repeat (refine And.intro (by first | assumption | omega | (simp only [Bool.not_eq_true', Bool.or_eq_false_iff, Bool.or_eq_true, Bool.and_eq_true, decide_eq_true_eq, decide_eq_false_iff_not, beq_iff_eq, Bool.not_eq_false']; omega) | (simp; done) | (simp; omega) | (intros; omega) | (simp_all; done) | (simp_all; omega)) ?_)
      exact hQ
    refine Exec.begin rfl hlo0 hfl0 ?_
    apply Exec.norm
    · simp only [go_sem, cb, w0, e1, e2, e3]
      rfl
    refine Exec.block ?_
    refine Exec.seq ?_
    refine Exec.seq ?_
    apply Exec.regionL te_ok
    · intro ops' Q hQ
      simp only [go_sem, cb, w0, e1, e2, e3]
      repeat (refine And.intro (by first | assumption | omega | (simp only [Bool.not_eq_true', Bool.or_eq_false_iff, Bool.or_eq_true, Bool.and_eq_true, decide_eq_true_eq, decide_eq_false_iff_not, beq_iff_eq, Bool.not_eq_false']; omega) | (simp; done) | (simp; omega) | (intros; omega) | (simp_all; done) | (simp_all; omega)) ?_)
      exact hQ
    refine Exec.cond (t := false) rfl ?_
    simp only [reduceIte, Bool.false_eq_true]
    refine Exec.skip ?_
    refine Exec.seq ?_
    refine Exec.seq ?_
    apply Exec.draw (st := _) 31 30 [] [] te_ok (by as_aux_lemma => kernel_rfl) (by as_aux_lemma => kernel_rfl) (by as_aux_lemma => kernel_rfl)
    · intro ops' Q hQ
      simp only [go_sem, cb, w0, e1, e2, e3]
      repeat (refine And.intro (by first | assumption | omega | (simp only [Bool.not_eq_true', Bool.or_eq_false_iff, Bool.or_eq_true, Bool.and_eq_true, decide_eq_true_eq, decide_eq_false_iff_not, beq_iff_eq, Bool.not_eq_false']; omega) | (simp; done) | (simp; omega) | (intros; omega) | (simp_all; done) | (simp_all; omega)) ?_)
      exact hQ
    refine Exec.cond (t := false) rfl ?_
    simp only [reduceIte, Bool.false_eq_true]
    refine Exec.skip ?_
    refine Exec.seq ?_
    apply Exec.regionL te_ok
    · intro ops' Q hQ
      simp only [go_sem, cb, w0, e1, e2, e3]
      repeat (refine And.intro (by first | assumption | omega | (simp only [Bool.not_eq_true', Bool.or_eq_false_iff, Bool.or_eq_true, Bool.and_eq_true, decide_eq_true_eq, decide_eq_false_iff_not, beq_iff_eq, Bool.not_eq_false']; omega) | (simp; done) | (simp; omega) | (intros; omega) | (simp_all; done) | (simp_all; omega)) ?_)
      exact hQ
    apply Exec.regionL te_ok
    · intro ops' Q hQ
      simp only [go_sem, cb, w0, e1, e2, e3]
      repeat (refine And.intro (by first | assumption | omega | (simp only [Bool.not_eq_true', Bool.or_eq_false_iff, Bool.or_eq_true, Bool.and_eq_true, decide_eq_true_eq, decide_eq_false_iff_not, beq_iff_eq, Bool.not_eq_false']; omega) | (simp; done) | (simp; omega) | (intros; omega) | (simp_all; done) | (simp_all; omega)) ?_)
      exact hQ
    refine Exec.inBlock ?_
    refine Exec.roundEnd 1 .fall rfl hlo0 hfl0 rfl hag0 hdg0 rfl rfl rfl ?_
    apply Exec.norm
    · simp only [go_sem, cb, w0, e1, e2, e3]
      rfl
    refine Exec.regEnd ?_
    refine Exec.rangeEnd 1 (pd := none) Tryd.func52 rfl (.inr ⟨_, rfl⟩) rfl rfl hlo0 hfl0 rfl rfl hN0 hD0 ?_
    apply Exec.norm
    · simp only [go_sem, cb, w0, e1, e2, e3]
      rfl
    refine Exec.inBlock ?_
    refine Exec.seq ?_
    apply Exec.regionL te_ok
    · intro ops' Q hQ
      simp only [go_sem, cb, w0, e1, e2, e3]
      repeat (refine And.intro (by first | assumption | omega | (simp only [Bool.not_eq_true', Bool.or_eq_false_iff, Bool.or_eq_true, Bool.and_eq_true, decide_eq_true_eq, decide_eq_false_iff_not, beq_iff_eq, Bool.not_eq_false']; omega) | (simp; done) | (simp; omega) | (intros; omega) | (simp_all; done) | (simp_all; omega)) ?_)
      refine kcallG hR.inv te_ok rfl rfl rfl rfl rfl rfl (by simp only [go_sem] <;> (first | assumption | omega | (simp only [Bool.not_eq_true', Bool.or_eq_false_iff, Bool.or_eq_true, Bool.and_eq_true, decide_eq_true_eq, decide_eq_false_iff_not, beq_iff_eq, Bool.not_eq_false']; omega) | (simp; done) | (simp; omega) | (intros; omega) | (simp_all; done) | (simp_all; omega))) (fun hq => lawake_ok) ?_
      simp only [go_sem, cb, w0, e1, e2, e3]
      repeat (refine And.intro (by first | assumption | omega | (simp only [Bool.not_eq_true', Bool.or_eq_false_iff, Bool.or_eq_true, Bool.and_eq_true, decide_eq_true_eq, decide_eq_false_iff_not, beq_iff_eq, Bool.not_eq_false']; omega) | (simp; done) | (simp; omega) | (intros; omega) | (simp_all; done) | (simp_all; omega)) ?_)
      exact hQ
    refine Exec.retsM hR te_ok rfl (.cons hfr0 .nil) rfl (LeX.le ?_) (.inr ⟨_, rfl⟩)
    simp only [go_sem, cb, w0, e1, e2, e3]
  · skip
    refine Exec.skip ?_
    refine Exec.seq ?_
    refine Exec.label ?_
    refine Exec.seq ?_
    apply Exec.regionL te_ok
    · intro ops' Q hQ
      simp only [go_sem, cb, w0]
      repeat (refine And.intro (by first | assumption | omega | (simp only [Bool.not_eq_true', Bool.or_eq_false_iff, Bool.or_eq_true, Bool.and_eq_true, decide_eq_true_eq, decide_eq_false_iff_not, beq_iff_eq, Bool.not_eq_false']; omega) | (simp; done) | (simp; omega) | (intros; omega) | (simp_all; done) | (simp_all; omega)) ?_)
      exact hQ
    refine Exec.block ?_
    apply Exec.loopU [0, 1] (X := Nat × List Tk) (fun ⟨a, l⟩ => [(3, .d (iv a))]) (fun ⟨a, l⟩ => [(1009, 3, [.d (iv l.length)])]) (fun ⟨a, l⟩ => []) (fun ⟨a, l⟩ => (cutS s).length - a) (fun ⟨a, l⟩ => a ≤ (cutS s).length ∧ l.length ≤ a ∧ lexAll (cutS s) = (l ++ (lexAt (cutS s) a).1, (lexAt (cutS s) a).2)) (0, [])
    case h0 =>
      exact ⟨by omega, by simp, rfl⟩
    case hw =>
      simp [go_sem, cb, w0]
    case body =>
      rintro ⟨a, l⟩ hx ih0
      try simp only at hx
      have h2000 : (cutS s).length ≤ 2000 := by have := of_decide_eq_false h2; omega
      have dt := drop_take (cutS s)
      have hn := nextA_le hx.1
      have sp := spanN_le blankI ((cutS s).drop a)
      have spl : ((cutS s).drop a).length = (cutS s).length - a := by simp
      have w1 := add_wrap (m := a) (n := spanN blankI ((cutS s).drop a)) (by omega)
      have w3 : IntKind.i64.wrap ((l.length : Int) + 1) = (l.length : Int) + 1 := wrap_id (by omega)
      have c2 : ((l ++ [tokA (cutS s) a]).length : Int) = (l.length : Int) + 1 := by simp
      have c1 : decide (((cutS s).length : Int) + 1 < (l.length : Int)) = false := decide_eq_false (by omega)
      apply Exec.norm
      · simp only [go_sem, cb, w0, dt, w1, nextA_eq, c1, w3, c2, beq_self_eq_true]
        rfl
      refine Exec.block ?_
      refine Exec.seq ?_
      apply Exec.regionL te_ok
      · intro ops' Q hQ
        simp only [go_sem, cb, w0, dt, w1, nextA_eq, c1, w3, c2, beq_self_eq_true]
        repeat (refine And.intro (by first | assumption | omega | (simp only [Bool.not_eq_true', Bool.or_eq_false_iff, Bool.or_eq_true, Bool.and_eq_true, decide_eq_true_eq, decide_eq_false_iff_not, beq_iff_eq, Bool.not_eq_false']; omega) | (simp; done) | (simp; omega) | (intros; omega) | (simp_all; done) | (simp_all; omega)) ?_)
        exact hQ
      refine Exec.seq ?_
      apply Exec.regionL te_ok
      · intro ops' Q hQ
        simp only [go_sem, cb, w0, dt, w1, nextA_eq, c1, w3, c2, beq_self_eq_true]
        repeat (refine And.intro (by first | assumption | omega | (simp only [Bool.not_eq_true', Bool.or_eq_false_iff, Bool.or_eq_true, Bool.and_eq_true, decide_eq_true_eq, decide_eq_false_iff_not, beq_iff_eq, Bool.not_eq_false']; omega) | (simp; done) | (simp; omega) | (intros; omega) | (simp_all; done) | (simp_all; omega)) ?_)
        refine kcall hR.inv te_ok rfl rfl rfl rfl rfl rfl (span_ok _ (by simp; omega) _ _ (fun _ => blank_ok _)) ?_
        simp only [go_sem, cb, w0, dt, w1, nextA_eq, c1, w3, c2, beq_self_eq_true]
        repeat (refine And.intro (by first | assumption | omega | (simp only [Bool.not_eq_true', Bool.or_eq_false_iff, Bool.or_eq_true, Bool.and_eq_true, decide_eq_true_eq, decide_eq_false_iff_not, beq_iff_eq, Bool.not_eq_false']; omega) | (simp; done) | (simp; omega) | (intros; omega) | (simp_all; done) | (simp_all; omega)) ?_)
        exact hQ
      refine Exec.seq ?_
      apply Exec.regionL te_ok
      · intro ops' Q hQ
        simp only [go_sem, cb, w0, dt, w1, nextA_eq, c1, w3, c2, beq_self_eq_true]
        repeat (refine And.intro (by first | assumption | omega | (simp only [Bool.not_eq_true', Bool.or_eq_false_iff, Bool.or_eq_true, Bool.and_eq_true, decide_eq_true_eq, decide_eq_false_iff_not, beq_iff_eq, Bool.not_eq_false']; omega) | (simp; done) | (simp; omega) | (intros; omega) | (simp_all; done) | (simp_all; omega)) ?_)
        refine kcall hR.inv te_ok rfl rfl rfl rfl rfl rfl (first_ok _ (by simp; omega)) ?_
        simp only [go_sem, cb, w0, dt, w1, nextA_eq, c1, w3, c2, beq_self_eq_true]
        repeat (refine And.intro (by first | assumption | omega | (simp only [Bool.not_eq_true', Bool.or_eq_false_iff, Bool.or_eq_true, Bool.and_eq_true, decide_eq_true_eq, decide_eq_false_iff_not, beq_iff_eq, Bool.not_eq_false']; omega) | (simp; done) | (simp; omega) | (intros; omega) | (simp_all; done) | (simp_all; omega)) ?_)
        exact hQ
      refine Exec.seq ?_
      refine Exec.seq ?_
      apply Exec.regionL te_ok
      · intro ops' Q hQ
        simp only [go_sem, cb, w0, dt, w1, nextA_eq, c1, w3, c2, beq_self_eq_true]
        repeat (refine And.intro (by first | assumption | omega | (simp only [Bool.not_eq_true', Bool.or_eq_false_iff, Bool.or_eq_true, Bool.and_eq_true, decide_eq_true_eq, decide_eq_false_iff_not, beq_iff_eq, Bool.not_eq_false']; omega) | (simp; done) | (simp; omega) | (intros; omega) | (simp_all; done) | (simp_all; omega)) ?_)
        exact hQ
      refine Exec.cond_split rfl (fun h5 => ?_) (fun h5 => ?_)
      · skip
        have hb : firstB ((cutS s).drop (nextA (cutS s) a)) = false := by simpa using h5
        obtain ⟨e1, e2, e3⟩ := lex_none (a := nextA (cutS s) a) h2 (by rw [hx.2.2, lexAt_no hx.1 hb])
        refine Exec.seq ?_
        refine Exec.regStart 4 rfl ?_
        apply Exec.regPart 0 3 1 te_ok rfl
        · intro ops' Q hQ
          simp only [go_sem, cb, w0, dt, w1, nextA_eq, c1, w3, c2, beq_self_eq_true, e1, e2, e3]
          repeat (refine And.intro (by first | assumption | omega | (simp only [Bool.not_eq_true', Bool.or_eq_false_iff, Bool.or_eq_true, Bool.and_eq_true, decide_eq_true_eq, decide_eq_false_iff_not, beq_iff_eq, Bool.not_eq_false']; omega) | (simp; done) | (simp; omega) | (intros; omega) | (simp_all; done) | (simp_all; omega)) ?_)
          exact hQ
        refine Exec.yield 1 (m := 0) rfl rfl rfl rfl rfl rfl hlo0 rfl hN0 rfl (fun ag1 hag1 hdg1 => ?_)
        apply Exec.norm
        · simp only [go_sem, cb, w0, dt, w1, nextA_eq, c1, w3, c2, beq_self_eq_true, e1, e2, e3]
          rfl
        refine Exec.seq ?_
        apply Exec.regionL te_ok
        · intro ops' Q hQ
          simp only [go_sem, cb, w0, dt, w1, nextA_eq, c1, w3, c2, beq_self_eq_true, e1, e2, e3]
          repeat (refine And.intro (by first | assumption | omega | (simp only [Bool.not_eq_true', Bool.or_eq_false_iff, Bool.or_eq_true, Bool.and_eq_true, decide_eq_true_eq, decide_eq_false_iff_not, beq_iff_eq, Bool.not_eq_false']; omega) | (simp; done) | (simp; omega) | (intros; omega) | (simp_all; done) | (simp_all; omega)) ?_)
          exact hQ
        apply Exec.regionL te_ok
        · intro ops' Q hQ
          simp only [go_sem, cb, w0, dt, w1, nextA_eq, c1, w3, c2, beq_self_eq_true, e1, e2, e3]
          repeat (refine And.intro (by first | assumption | omega | (simp only [Bool.not_eq_true', Bool.or_eq_false_iff, Bool.or_eq_true, Bool.and_eq_true, decide_eq_true_eq, decide_eq_false_iff_not, beq_iff_eq, Bool.not_eq_false']; omega) | (simp; done) | (simp; omega) | (intros; omega) | (simp_all; done) | (simp_all; omega)) ?_)
          exact hQ
        refine Exec.begin rfl hlo0 hfl0 ?_
        apply Exec.norm
        · simp only [go_sem, cb, w0, dt, w1, nextA_eq, c1, w3, c2, beq_self_eq_true, e1, e2, e3]
          rfl
        refine Exec.block ?_
        refine Exec.seq ?_
        refine Exec.seq ?_
        apply Exec.regionL te_ok
        · intro ops' Q hQ
          simp only [go_sem, cb, w0, dt, w1, nextA_eq, c1, w3, c2, beq_self_eq_true, e1, e2, e3]
          repeat (refine And.intro (by first | assumption | omega | (simp only [Bool.not_eq_true', Bool.or_eq_false_iff, Bool.or_eq_true, Bool.and_eq_true, decide_eq_true_eq, decide_eq_false_iff_not, beq_iff_eq, Bool.not_eq_false']; omega) | (simp; done) | (simp; omega) | (intros; omega) | (simp_all; done) | (simp_all; omega)) ?_)
          exact hQ
        refine Exec.cond (t := false) rfl ?_
        simp only [reduceIte, Bool.false_eq_true]
        refine Exec.skip ?_
        refine Exec.seq ?_
        refine Exec.seq ?_
        apply Exec.draw (st := _) 31 30 [] [] te_ok (by as_aux_lemma => kernel_rfl) (by as_aux_lemma => kernel_rfl) (by as_aux_lemma => kernel_rfl)
        · intro ops' Q hQ
          simp only [go_sem, cb, w0, dt, w1, nextA_eq, c1, w3, c2, beq_self_eq_true, e1, e2, e3]
          repeat (refine And.intro (by first | assumption | omega | (simp only [Bool.not_eq_true', Bool.or_eq_false_iff, Bool.or_eq_true, Bool.and_eq_true, decide_eq_true_eq, decide_eq_false_iff_not, beq_iff_eq, Bool.not_eq_false']; omega) | (simp; done) | (simp; omega) | (intros; omega) | (simp_all; done) | (simp_all; omega)) ?_)
          exact hQ
        refine Exec.cond (t := false) rfl ?_
        simp only [reduceIte, Bool.false_eq_true]
        refine Exec.skip ?_
        refine Exec.seq ?_
        apply Exec.regionL te_ok
        · intro ops' Q hQ
          simp only [go_sem, cb, w0, dt, w1, nextA_eq, c1, w3, c2, beq_self_eq_true, e1, e2, e3]
          repeat (refine And.intro (by first | assumption | omega | (simp only [Bool.not_eq_true', Bool.or_eq_false_iff, Bool.or_eq_true, Bool.and_eq_true, decide_eq_true_eq, decide_eq_false_iff_not, beq_iff_eq, Bool.not_eq_false']; omega) | (simp; done) | (simp; omega) | (intros; omega) | (simp_all; done) | (simp_all; omega)) ?_)
          exact hQ
        apply Exec.regionL te_ok
        · intro ops' Q hQ
          simp only [go_sem, cb, w0, dt, w1, nextA_eq, c1, w3, c2, beq_self_eq_true, e1, e2, e3]
          repeat (refine And.intro (by first | assumption | omega | (simp only [Bool.not_eq_true', Bool.or_eq_false_iff, Bool.or_eq_true, Bool.and_eq_true, decide_eq_true_eq, decide_eq_false_iff_not, beq_iff_eq, Bool.not_eq_false']; omega) | (simp; done) | (simp; omega) | (intros; omega) | (simp_all; done) | (simp_all; omega)) ?_)
          exact hQ
        refine Exec.inBlock ?_
        refine Exec.roundEnd 1 .fall rfl hlo0 hfl0 rfl hag1 hdg1 rfl rfl rfl ?_
        apply Exec.norm
        · simp only [go_sem, cb, w0, dt, w1, nextA_eq, c1, w3, c2, beq_self_eq_true, e1, e2, e3]
          rfl
        refine Exec.regEnd ?_
        refine Exec.rangeEnd 1 (pd := none) Tryd.func52 rfl (.inr ⟨_, rfl⟩) rfl rfl hlo0 hfl0 rfl rfl hN0 hD0 ?_
        apply Exec.norm
        · simp only [go_sem, cb, w0, dt, w1, nextA_eq, c1, w3, c2, beq_self_eq_true, e1, e2, e3]
          rfl
        refine Exec.inBlock ?_
        refine Exec.seq ?_
        apply Exec.regionL te_ok
        · intro ops' Q hQ
          simp only [go_sem, cb, w0, dt, w1, nextA_eq, c1, w3, c2, beq_self_eq_true, e1, e2, e3]
          repeat (refine And.intro (by first | assumption | omega | (simp only [Bool.not_eq_true', Bool.or_eq_false_iff, Bool.or_eq_true, Bool.and_eq_true, decide_eq_true_eq, decide_eq_false_iff_not, beq_iff_eq, Bool.not_eq_false']; omega) | (simp; done) | (simp; omega) | (intros; omega) | (simp_all; done) | (simp_all; omega)) ?_)
          refine kcallG hR.inv te_ok rfl rfl rfl rfl rfl rfl (by simp only [go_sem] <;> (first | assumption | omega | (simp only [Bool.not_eq_true', Bool.or_eq_false_iff, Bool.or_eq_true, Bool.and_eq_true, decide_eq_true_eq, decide_eq_false_iff_not, beq_iff_eq, Bool.not_eq_false']; omega) | (simp; done) | (simp; omega) | (intros; omega) | (simp_all; done) | (simp_all; omega))) (fun hq => lawake_ok) ?_
          simp only [go_sem, cb, w0, dt, w1, nextA_eq, c1, w3, c2, beq_self_eq_true, e1, e2, e3]
          repeat (refine And.intro (by first | assumption | omega | (simp only [Bool.not_eq_true', Bool.or_eq_false_iff, Bool.or_eq_true, Bool.and_eq_true, decide_eq_true_eq, decide_eq_false_iff_not, beq_iff_eq, Bool.not_eq_false']; omega) | (simp; done) | (simp; omega) | (intros; omega) | (simp_all; done) | (simp_all; omega)) ?_)
          exact hQ
        refine Exec.retsM hR te_ok rfl (.cons hfr0 .nil) rfl (LeX.le ?_) (.inr ⟨_, rfl⟩)
        simp only [go_sem, cb, w0, dt, w1, nextA_eq, c1, w3, c2, beq_self_eq_true, e1, e2, e3]
      · skip
        have hb : firstB ((cutS s).drop (nextA (cutS s) a)) = true := by simpa using h5
        obtain ⟨t1, t2⟩ := thenA_le hx.1 hb
        have w2 := add_wrap (m := nextA (cutS s) a) (n := (firstT ((cutS s).drop (nextA (cutS s) a))).t.length) (by show thenA (cutS s) a ≤ _; omega)
        refine Exec.skip ?_
        refine Exec.seq ?_
        apply Exec.regionL te_ok
        · intro ops' Q hQ
          simp only [go_sem, cb, w0, dt, w1, nextA_eq, c1, w3, c2, beq_self_eq_true, w2, thenA_eq]
          repeat (refine And.intro (by first | assumption | omega | (simp only [Bool.not_eq_true', Bool.or_eq_false_iff, Bool.or_eq_true, Bool.and_eq_true, decide_eq_true_eq, decide_eq_false_iff_not, beq_iff_eq, Bool.not_eq_false']; omega) | (simp; done) | (simp; omega) | (intros; omega) | (simp_all; done) | (simp_all; omega)) ?_)
          exact hQ
        refine Exec.seq ?_
        apply Exec.regionL te_ok
        · intro ops' Q hQ
          simp only [go_sem, cb, w0, dt, w1, nextA_eq, c1, w3, c2, beq_self_eq_true, w2, thenA_eq]
          repeat (refine And.intro (by first | assumption | omega | (simp only [Bool.not_eq_true', Bool.or_eq_false_iff, Bool.or_eq_true, Bool.and_eq_true, decide_eq_true_eq, decide_eq_false_iff_not, beq_iff_eq, Bool.not_eq_false']; omega) | (simp; done) | (simp; omega) | (intros; omega) | (simp_all; done) | (simp_all; omega)) ?_)
          exact hQ
        refine Exec.seq ?_
        refine Exec.regStart 9 rfl ?_
        apply Exec.regPart 0 2 7 te_ok rfl
        · intro ops' Q hQ
          simp only [go_sem, cb, w0, dt, w1, nextA_eq, c1, w3, c2, beq_self_eq_true, w2, thenA_eq]
          repeat (refine And.intro (by first | assumption | omega | (simp only [Bool.not_eq_true', Bool.or_eq_false_iff, Bool.or_eq_true, Bool.and_eq_true, decide_eq_true_eq, decide_eq_false_iff_not, beq_iff_eq, Bool.not_eq_false']; omega) | (simp; done) | (simp; omega) | (intros; omega) | (simp_all; done) | (simp_all; omega)) ?_)
          exact hQ
        refine Exec.yield 1 (m := 6) rfl rfl rfl rfl rfl rfl hlo0 rfl hN0 rfl (fun ag2 hag2 hdg2 => ?_)
        apply Exec.norm
        · simp only [go_sem, cb, w0, dt, w1, nextA_eq, c1, w3, c2, beq_self_eq_true, w2, thenA_eq]
          rfl
        refine Exec.seq ?_
        apply Exec.regionL te_ok
        · intro ops' Q hQ
          simp only [go_sem, cb, w0, dt, w1, nextA_eq, c1, w3, c2, beq_self_eq_true, w2, thenA_eq]
          repeat (refine And.intro (by first | assumption | omega | (simp only [Bool.not_eq_true', Bool.or_eq_false_iff, Bool.or_eq_true, Bool.and_eq_true, decide_eq_true_eq, decide_eq_false_iff_not, beq_iff_eq, Bool.not_eq_false']; omega) | (simp; done) | (simp; omega) | (intros; omega) | (simp_all; done) | (simp_all; omega)) ?_)
          exact hQ
        apply Exec.regionL te_ok
        · intro ops' Q hQ
          simp only [go_sem, cb, w0, dt, w1, nextA_eq, c1, w3, c2, beq_self_eq_true, w2, thenA_eq]
          repeat (refine And.intro (by first | assumption | omega | (simp only [Bool.not_eq_true', Bool.or_eq_false_iff, Bool.or_eq_true, Bool.and_eq_true, decide_eq_true_eq, decide_eq_false_iff_not, beq_iff_eq, Bool.not_eq_false']; omega) | (simp; done) | (simp; omega) | (intros; omega) | (simp_all; done) | (simp_all; omega)) ?_)
          exact hQ
        refine Exec.begin rfl hlo0 hfl0 ?_
        apply Exec.norm
        · simp only [go_sem, cb, w0, dt, w1, nextA_eq, c1, w3, c2, beq_self_eq_true, w2, thenA_eq]
          rfl
        refine Exec.block ?_
        refine Exec.seq ?_
        refine Exec.seq ?_
        apply Exec.regionL te_ok
        · intro ops' Q hQ
          simp only [go_sem, cb, w0, dt, w1, nextA_eq, c1, w3, c2, beq_self_eq_true, w2, thenA_eq]
          repeat (refine And.intro (by first | assumption | omega | (simp only [Bool.not_eq_true', Bool.or_eq_false_iff, Bool.or_eq_true, Bool.and_eq_true, decide_eq_true_eq, decide_eq_false_iff_not, beq_iff_eq, Bool.not_eq_false']; omega) | (simp; done) | (simp; omega) | (intros; omega) | (simp_all; done) | (simp_all; omega)) ?_)
          exact hQ
        refine Exec.cond (t := false) rfl ?_
        simp only [reduceIte, Bool.false_eq_true]
        refine Exec.skip ?_
        refine Exec.seq ?_
        refine Exec.seq ?_
        apply Exec.draw (st := _) 31 30 [] [] te_ok (by as_aux_lemma => kernel_rfl) (by as_aux_lemma => kernel_rfl) (by as_aux_lemma => kernel_rfl)
        · intro ops' Q hQ
          simp only [go_sem, cb, w0, dt, w1, nextA_eq, c1, w3, c2, beq_self_eq_true, w2, thenA_eq]
          repeat (refine And.intro (by first | assumption | omega | (simp only [Bool.not_eq_true', Bool.or_eq_false_iff, Bool.or_eq_true, Bool.and_eq_true, decide_eq_true_eq, decide_eq_false_iff_not, beq_iff_eq, Bool.not_eq_false']; omega) | (simp; done) | (simp; omega) | (intros; omega) | (simp_all; done) | (simp_all; omega)) ?_)
          exact hQ
        refine Exec.cond_split rfl (fun h9 => ?_) (fun h9 => ?_)
        · exfalso
          exact Bool.noConfusion (h9.symm.trans (tells_tok h2000 hb hx.1 hx.2.2))
        refine Exec.skip ?_
        refine Exec.seq ?_
        apply Exec.regionL te_ok
        · intro ops' Q hQ
          simp only [go_sem, cb, w0, dt, w1, nextA_eq, c1, w3, c2, beq_self_eq_true, w2, thenA_eq]
          repeat (refine And.intro (by first | assumption | omega | (simp only [Bool.not_eq_true', Bool.or_eq_false_iff, Bool.or_eq_true, Bool.and_eq_true, decide_eq_true_eq, decide_eq_false_iff_not, beq_iff_eq, Bool.not_eq_false']; omega) | (simp; done) | (simp; omega) | (intros; omega) | (simp_all; done) | (simp_all; omega)) ?_)
          exact hQ
        apply Exec.regionL te_ok
        · intro ops' Q hQ
          simp only [go_sem, cb, w0, dt, w1, nextA_eq, c1, w3, c2, beq_self_eq_true, w2, thenA_eq]
          repeat (refine And.intro (by first | assumption | omega | (simp only [Bool.not_eq_true', Bool.or_eq_false_iff, Bool.or_eq_true, Bool.and_eq_true, decide_eq_true_eq, decide_eq_false_iff_not, beq_iff_eq, Bool.not_eq_false']; omega) | (simp; done) | (simp; omega) | (intros; omega) | (simp_all; done) | (simp_all; omega)) ?_)
          exact hQ
        refine Exec.inBlock ?_
        refine Exec.roundEnd 1 .fall rfl hlo0 hfl0 rfl hag2 hdg2 rfl rfl rfl ?_
        apply Exec.norm
        · simp only [go_sem, cb, w0, dt, w1, nextA_eq, c1, w3, c2, beq_self_eq_true, w2, thenA_eq]
          rfl
        apply Exec.regPart 3 6 0 te_ok rfl
        · intro ops' Q hQ
          simp only [go_sem, cb, w0, dt, w1, nextA_eq, c1, w3, c2, beq_self_eq_true, w2, thenA_eq]
          repeat (refine And.intro (by first | assumption | omega | (simp only [Bool.not_eq_true', Bool.or_eq_false_iff, Bool.or_eq_true, Bool.and_eq_true, decide_eq_true_eq, decide_eq_false_iff_not, beq_iff_eq, Bool.not_eq_false']; omega) | (simp; done) | (simp; omega) | (intros; omega) | (simp_all; done) | (simp_all; omega)) ?_)
          exact hQ
        refine Exec.regEnd ?_
        refine Exec.cond_split rfl (fun h10 => ?_) (fun h10 => ?_)
        · skip
          have hk : (firstT ((cutS s).drop (nextA (cutS s) a))).k = 5 := by simpa using h10
          obtain ⟨e1, e2, e3⟩ := lex_some (l := l ++ [tokA (cutS s) a]) h2 (by rw [hx.2.2, lexAt_end hx.1 hb hk])
          refine Exec.exit rfl ?_
          refine Exec.inScope ?_
          refine Exec.rangeEnd 1 (pd := none) Tryd.func52 rfl (.inl rfl) rfl rfl hlo0 hfl0 rfl rfl hN0 hD0 ?_
          apply Exec.norm
          · simp only [go_sem, cb, w0, dt, w1, nextA_eq, c1, w3, c2, beq_self_eq_true, w2, thenA_eq, e1, e2, e3]
            rfl
          refine Exec.inBlock ?_
          refine Exec.seq ?_
          apply Exec.regionL te_ok
          · intro ops' Q hQ
            simp only [go_sem, cb, w0, dt, w1, nextA_eq, c1, w3, c2, beq_self_eq_true, w2, thenA_eq, e1, e2, e3]
            repeat (refine And.intro (by first | assumption | omega | (simp only [Bool.not_eq_true', Bool.or_eq_false_iff, Bool.or_eq_true, Bool.and_eq_true, decide_eq_true_eq, decide_eq_false_iff_not, beq_iff_eq, Bool.not_eq_false']; omega) | (simp; done) | (simp; omega) | (intros; omega) | (simp_all; done) | (simp_all; omega)) ?_)
            refine kcallG hR.inv te_ok rfl rfl rfl rfl rfl rfl (by simp only [go_sem] <;> (first | assumption | omega | (simp only [Bool.not_eq_true', Bool.or_eq_false_iff, Bool.or_eq_true, Bool.and_eq_true, decide_eq_true_eq, decide_eq_false_iff_not, beq_iff_eq, Bool.not_eq_false']; omega) | (simp; done) | (simp; omega) | (intros; omega) | (simp_all; done) | (simp_all; omega))) (fun hq => lawake_ok) ?_
            simp only [go_sem, cb, w0, dt, w1, nextA_eq, c1, w3, c2, beq_self_eq_true, w2, thenA_eq, e1, e2, e3]
            repeat (refine And.intro (by first | assumption | omega | (simp only [Bool.not_eq_true', Bool.or_eq_false_iff, Bool.or_eq_true, Bool.and_eq_true, decide_eq_true_eq, decide_eq_false_iff_not, beq_iff_eq, Bool.not_eq_false']; omega) | (simp; done) | (simp; omega) | (intros; omega) | (simp_all; done) | (simp_all; omega)) ?_)
            exact hQ
          refine Exec.retsM hR te_ok rfl (.cons hfr0 .nil) rfl (LeX.le ?_) (.inr ⟨_, rfl⟩)
          simp only [go_sem, cb, w0, dt, w1, nextA_eq, c1, w3, c2, beq_self_eq_true, w2, thenA_eq, e1, e2, e3]
        · skip
          refine Exec.skip ?_
          refine Exec.inBlock ?_
          refine Exec.back (ih0 (thenA (cutS s) a, l ++ [tokA (cutS s) a]) ?_ ?_) ?_ ?_ ?_ ?_ ?_ ?_ ?_
          · try simp only
            have hk : ¬ (firstT ((cutS s).drop (nextA (cutS s) a))).k = 5 := by simpa using h10
            have := t2.resolve_left hk
            exact ⟨t1, by simp; omega, by rw [hx.2.2, lexAt_on hx.1 hb hk]; simp⟩
          · try simp only
            have hk : ¬ (firstT ((cutS s).drop (nextA (cutS s) a))).k = 5 := by simpa using h10
            have := t2.resolve_left hk
            omega
          · rfl
          · rfl
          · (simp only [go_sem, cb, w0, dt, w1, nextA_eq, c1, w3, c2, beq_self_eq_true, w2, thenA_eq])
          · (simp only [go_sem, cb, w0, dt, w1, nextA_eq, c1, w3, c2, beq_self_eq_true, w2, thenA_eq])
          · (simp only [go_sem, cb, w0, dt, w1, nextA_eq, c1, w3, c2, beq_self_eq_true, w2, thenA_eq])
          · simp only [go_sem, cb, w0, dt, w1, nextA_eq, c1, w3, c2, beq_self_eq_true, w2, thenA_eq]
          · rfl
end Go.Proofs.YtmnponhhmkdcdaaDoor
