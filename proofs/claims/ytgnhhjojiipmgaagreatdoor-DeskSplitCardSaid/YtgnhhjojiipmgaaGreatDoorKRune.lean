/- Steps of a function body on data, and contracts of the functions of the seat, walked. -/
import Derived.Test.YtgnhhjojiipmgaaGreatDoorW1
import Derived.Test.YtgnhhjojiipmgaaGreatDoorWRun
import Derived.Test.YtgnhhjojiipmgaaGreatDoorKNil
import Derived.Laws.BytesString
import Derived.Laws.Cells
set_option linter.unusedSimpArgs false
set_option linter.unusedVariables false
set_option linter.unusedSectionVars false
namespace Go.Proofs.YtgnhhjojiipmgaaGreatDoor
open Go.Kin
set_option maxRecDepth 100000
set_option maxHeartbeats 0
def nq (r : List UInt8) : Nat := spn 34 (List.drop 1 r) + 2
theorem tk1 {r : List UInt8} (h0 : 0 < r.length) : List.take ((r.length : Int) - 1).toNat (List.drop (Int.toNat 1) r) = List.drop 1 r := by
  show List.take _ (List.drop 1 r) = _
  rw [List.take_of_length_le (by rw [List.length_drop]; omega)]
theorem nq_wrap {r : List UInt8} (hl : r.length ≤ 1000000) (h0 : 0 < r.length) (h : spn 34 (List.drop 1 r) < (List.drop 1 r).length) : IntKind.i64.wrap (Lib.indexByte (List.take ((r.length : Int) - 1).toNat (List.drop (Int.toNat 1) r)) (Int.toNat 34).toUInt8 + 2) = ((nq r : Nat) : Int) := by
  rw [tk1 h0]
  show IntKind.i64.wrap (Lib.indexByte (List.drop 1 r) 34 + 2) = _
  rw [index_spn, if_pos h]
  rw [List.length_drop] at h
  rw [wrap_id (by constructor <;> omega)]
  unfold nq; omega
theorem nq_none {r : List UInt8} (h0 : 0 < r.length) (h : ¬ spn 34 (List.drop 1 r) < (List.drop 1 r).length) : IntKind.i64.wrap (Lib.indexByte (List.take ((r.length : Int) - 1).toNat (List.drop (Int.toNat 1) r)) (Int.toNat 34).toUInt8 + 2) = 1 := by
  rw [tk1 h0]
  show IntKind.i64.wrap (Lib.indexByte (List.drop 1 r) 34 + 2) = _
  rw [index_spn, if_neg h]; rfl
theorem idx_space (r : List UInt8) : Lib.indexByte (r ++ [32]) (Int.toNat 32).toUInt8 = (spn 32 r : Int) := index_end 32 r
theorem head_n {r : List UInt8} (h0 : 0 < r.length) (ht : Lib.trimLeftB r 32 = r) : r.getD 0 0 ≠ 32 := by
  cases r with
  | nil => simp at h0
  | cons c t => exact trim_head ht
theorem min_n {a : Nat} {r : List UInt8} (h : a ≤ r.length) : min ((a : Nat) : Int) ((r.length : Nat) : Int) = ((a : Nat) : Int) := by omega
theorem rest_n {a : Nat} {r : List UInt8} (h : a ≤ r.length) : List.take (((r.length : Nat) : Int) - ((a : Nat) : Int)).toNat (List.drop a r) = List.drop a r := List.take_of_length_le (by rw [List.length_drop]; omega)
theorem len_n {a : Nat} {r : List UInt8} (h : a ≤ r.length) : (List.take a r).length = a := by rw [List.length_take]; omega
theorem nq_le {r : List UInt8} (h : spn 34 (List.drop 1 r) < (List.drop 1 r).length) : nq r ≤ r.length := by rw [List.length_drop] at h; unfold nq; omega
theorem nq_bad {r : List UInt8} (h0 : 0 < r.length) (hq : r.getD 0 0 = 34) (h : ¬ spn 34 (List.drop 1 r) < (List.drop 1 r).length) : wA r = none := by
  have h2 := spn_le 34 (List.drop 1 r)
  rw [List.length_drop] at h h2
  exact (q_lem (s := r) (i := 0) (k := r.length) h0 hq (by omega) (by show spn 34 (List.drop 1 r) = _; omega)).1 (Nat.le_refl _)
theorem nq_bad2 {r : List UInt8} (h0 : 0 < r.length) (hq : r.getD 0 0 = 34) (hl : nq r < r.length) (hb : r.getD (nq r) 0 ≠ 32) : wA r = none :=
  (q_lem (s := r) (i := 0) (k := nq r - 1) h0 hq (by unfold nq; omega) (by unfold nq; show spn 34 (List.drop 1 r) = _; omega)).2.1 (by omega) (by rw [show nq r - 1 + 1 = nq r by unfold nq; omega, nxt_at hl]; exact decide_eq_false hb)
theorem nq_on {r : List UInt8} (h0 : 0 < r.length) (hq : r.getD 0 0 = 34) (h : spn 34 (List.drop 1 r) < (List.drop 1 r).length) (hn : nxt (r.drop (nq r)) = true) : wA r = (wA (r.drop (nq r))).map (r.take (nq r) :: ·) := by
  have hle := nq_le h
  have := (q_lem (s := r) (i := 0) (k := nq r - 1) h0 hq (by unfold nq; omega) (by unfold nq; show spn 34 (List.drop 1 r) = _; omega)).2.2 (by unfold nq at hle ⊢; omega) (by rw [show nq r - 1 + 1 = nq r by unfold nq; omega]; exact hn)
  rw [show nq r - 1 + 1 = nq r by unfold nq; omega] at this
  exact this
theorem tk_ne {a : Nat} {r : List UInt8} (h0 : 0 < a) (h : a ≤ r.length) (he : (List.take a r == []) = true) : False := by
  have := eq_of_beq he
  have h2 := congrArg List.length this
  rw [List.length_take, List.length_nil] at h2; omega
theorem nq_b {r : List UInt8} (h : (((nq r : Nat) : Int) == 1 || decide (((nq r : Nat) : Int) < (r.length : Int)) && ((r.getD (nq r) 0).toNat : Int) != 32) = true) : nq r < r.length ∧ r.getD (nq r) 0 ≠ 32 := by
  rw [Bool.or_eq_true, Bool.and_eq_true] at h
  rcases h with h | h
  · have := eq_of_beq h; unfold nq at this; omega
  · exact ⟨by have := of_decide_eq_true h.1; omega, byte_n rfl h.2⟩
theorem nq_g {r : List UInt8} (h : (((nq r : Nat) : Int) == 1 || decide (((nq r : Nat) : Int) < (r.length : Int)) && ((r.getD (nq r) 0).toNat : Int) != 32) = false) : nxt (r.drop (nq r)) = true := by
  rw [Bool.or_eq_false_iff] at h
  exact nxt_of h.2
theorem len_next {a n : Nat} {r : List UInt8} {l : List (List UInt8)} (h0 : 0 < a) (h : a ≤ r.length) (hl : l.length + r.length ≤ n) : (l ++ [List.take a r]).length + (Lib.trimLeftB (List.drop a r) 32).length ≤ n := by
  have := trim_le (List.drop a r)
  rw [List.length_drop] at this
  simp; omega
theorem len_lt {a : Nat} {r : List UInt8} (h0 : 0 < a) (h : a ≤ r.length) : (Lib.trimLeftB (List.drop a r) 32).length < r.length := by
  have := trim_le (List.drop a r)
  rw [List.length_drop] at this
  omega
theorem nq_pos (r : List UInt8) : 0 < nq r := by unfold nq; omega
theorem sp_pos {r : List UInt8} (h0 : 0 < r.length) (h : r.getD 0 0 ≠ 32) : 0 < spn 32 r := by
  cases r with
  | nil => simp at h0
  | cons c t => have : c ≠ 32 := h; unfold spn; rw [if_neg this]; omega
theorem sp_bad {r : List UInt8} (h0 : 0 < r.length) (h32 : r.getD 0 0 ≠ 32) (hq : r.getD 0 0 ≠ 34) (h : (34 : UInt8) ∈ r.take (spn 32 r)) : wA r = none :=
  (n_lem (s := r) (i := 0) (k := spn 32 r) h0 h32 hq (sp_pos h0 h32) rfl).1 h
theorem sp_on {r : List UInt8} (h0 : 0 < r.length) (h32 : r.getD 0 0 ≠ 32) (hq : r.getD 0 0 ≠ 34) (h : (34 : UInt8) ∉ r.take (spn 32 r)) : wA r = (wA (r.drop (spn 32 r))).map (r.take (spn 32 r) :: ·) :=
  (n_lem (s := r) (i := 0) (k := spn 32 r) h0 h32 hq (sp_pos h0 h32) rfl).2 h
theorem words_ok (s : List UInt8) (hs : s.length ≤ 1000000) : FnOK LaidW Tryz.prog 6 [sv s] (.tup [strsD (wL s), bv (wB s)]) := by
  refine FnOK_of laidW_stable Tryz.func6 Tryz.ntmps6 rfl (by as_aux_lemma => kernel_rfl) (Nat.le_of_ble_eq_true rfl) (fun R hR => ?_)
  obtain ⟨_, b, cs, T, C⟩ := R
  obtain rfl : _ = Tryz.prog := hR.p
  refine Exec.seq ?_
  apply Exec.regionL te_ok
  · intro ops' Q hQ
    simp only [go_sem]
    repeat refine ob2 ?_
    exact hQ
  refine Exec.scope ?_
  refine Exec.seq ?_
  apply Exec.regionL te_ok
  · intro ops' Q hQ
    simp only [go_sem]
    repeat refine ob2 ?_
    exact hQ
  refine Exec.seq ?_
  refine Exec.label ?_
  refine Exec.seq ?_
  refine Exec.seq ?_
  refine Exec.regStart 2 rfl ?_
  apply Exec.regPart 0 1 1 te_ok rfl
  · intro ops' Q hQ
    simp only [go_sem]
    repeat refine ob2 ?_
    exact hQ
  refine Exec.enter (m := 0) rfl rfl rfl rfl rfl rfl Tryz.func16 Tryz.ntmps16 rfl (by as_aux_lemma => kernel_rfl) (Nat.le_of_ble_eq_true rfl) (fun ai0 hai0 hdi0 => ?_)
  refine Exec.ren (swJ 5) ?_
  apply Exec.norm
  · simp only [go_sem]
    rfl
  refine Exec.seq ?_
  apply Exec.regionL te_ok
  · intro ops' Q hQ
    simp only [go_sem]
    repeat refine ob2 ?_
    exact hQ
  refine Exec.seq ?_
  apply Exec.regionL te_ok
  · intro ops' Q hQ
    simp only [go_sem]
    repeat refine ob2 ?_
    exact hQ
  refine Exec.leave te_ok Tryz.func16 rfl rfl rfl (.inr ⟨_, rfl⟩) rfl rfl hai0 hdi0 rfl rfl ?_
  refine Exec.ren (swJ 5) ?_
  apply Exec.norm
  · simp only [go_sem]
    rfl
  refine Exec.regEnd ?_
  refine Exec.block ?_
  refine Exec.range 1 hR.round hR.bfn rfl rfl Tryz.func29 Tryz.ntmps29 rfl (by as_aux_lemma => kernel_rfl) (Nat.le_of_ble_eq_true rfl) (fun a0 l0 r0 lo0 hlo0 hN0 hD0 hfr0 hfl0 => ?_)
  apply Exec.norm
  · simp only [go_sem]
    rfl
  refine Exec.seq ?_
  apply Exec.regionL te_ok
  · intro ops' Q hQ
    simp only [go_sem]
    repeat refine ob2 ?_
    refine kcall hR.inv te_ok rfl rfl rfl rfl rfl rfl (trimL_ok _) ?_
    simp only [go_sem]
    repeat refine ob2 ?_
    exact hQ
  refine Exec.block ?_
  refine Exec.ownNilL 1002 0 1500 9 1 rfl rfl rfl ?_
  apply Exec.norm
  · simp only [go_sem]
    rfl
  apply Exec.loopU [0, 1] (X := List UInt8 × List (List UInt8)) (fun ⟨r, l⟩ => []) (fun ⟨r, l⟩ => [(5001, 9, [.d (sv r)]), (1002, 23, [.own 1500])]) (fun ⟨r, l⟩ => [(1500, ⟨9, 1, l.length, l.length, fun j => [sv (nth l j)]⟩)]) (fun ⟨r, l⟩ => r.length) (fun ⟨r, l⟩ => l.length + r.length ≤ s.length ∧ Lib.trimLeftB r 32 = r ∧ wA s = (wA r).map (l ++ ·)) (Lib.trimLeftB s 32, [])
  case h0 =>
    exact ⟨by have := trim_le s; simpa using this, trim_trim s, by rw [wA_trim]; simp⟩
  case hw =>
    simp only [go_sem]; exact fun i hi => absurd hi (Nat.not_lt_zero i)
  case body =>
    rintro ⟨r, l⟩ hx ih0
    try simp only at hx
    apply Exec.norm
    · simp only [go_sem]
      rfl
    refine Exec.seq ?_
    refine Exec.seq ?_
    apply Exec.regionL te_ok
    · intro ops' Q hQ
      simp only [go_sem]
      repeat refine ob2 ?_
      exact hQ
    refine Exec.cond_split rfl (fun h0 => ?_) (fun h0 => ?_)
    · skip
      have hr0 : 0 < r.length := by cases r with | nil => simp at h0 | cons a b => simp
      have h32 := head_n hr0 hx.2.1
      have hsl := spn_le 32 r
      have hll : r.length ≤ 1000000 := by omega
      have his := idx_space r
      refine Exec.skip ?_
      refine Exec.seq ?_
      refine Exec.block ?_
      refine Exec.seq ?_
      apply Exec.regionL te_ok
      · intro ops' Q hQ
        simp only [go_sem, his]
        repeat refine ob2 ?_
        refine kcall hR.inv te_ok rfl rfl rfl rfl rfl rfl (indexByte_ok _ _) ?_
        simp only [go_sem, his]
        repeat refine ob2 ?_
        exact hQ
      refine Exec.seq ?_
      refine Exec.seq ?_
      apply Exec.regionL te_ok
      · intro ops' Q hQ
        simp only [go_sem, his]
        repeat refine ob2 ?_
        exact hQ
      refine Exec.cond_split rfl (fun h1 => ?_) (fun h1 => ?_)
      · skip
        have hq : r.getD 0 0 = 34 := byte_t rfl h1
        rcases Classical.em (spn 34 (List.drop 1 r) < (List.drop 1 r).length) with hs5 | hs5
        · skip
          have hI := nq_wrap hll hr0 hs5
          have hle := nq_le hs5
          have hm := min_n hle
          have hrn := rest_n hle
          have hln := len_n hle
          apply Exec.regionL te_ok
          · intro ops' Q hQ
            simp only [go_sem, his, h1, hI, hm, hrn, hln, Int.toNat_natCast]
            repeat refine ob2 ?_
            refine kcall hR.inv te_ok rfl rfl rfl rfl rfl rfl (indexByte_ok _ _) ?_
            simp only [go_sem, his, h1, hI, hm, hrn, hln, Int.toNat_natCast]
            repeat refine ob2 ?_
            exact hQ
          refine Exec.seq ?_
          apply Exec.regionL te_ok
          · intro ops' Q hQ
            simp only [go_sem, his, h1, hI, hm, hrn, hln, Int.toNat_natCast]
            repeat refine ob2 ?_
            exact hQ
          refine Exec.seq ?_
          apply Exec.regionL te_ok
          · intro ops' Q hQ
            simp only [go_sem, his, h1, hI, hm, hrn, hln, Int.toNat_natCast]
            repeat refine ob2 ?_
            exact hQ
          refine Exec.seq ?_
          refine Exec.seq ?_
          apply Exec.regionL te_ok
          · intro ops' Q hQ
            simp only [go_sem, his, h1, hI, hm, hrn, hln, Int.toNat_natCast]
            repeat refine ob2 ?_
            refine kcallG hR.inv te_ok rfl rfl rfl rfl rfl rfl (by simp only [go_sem] <;> (first | assumption | omega | (simp only [Bool.not_eq_true', Bool.or_eq_false_iff, Bool.or_eq_true, Bool.and_eq_true, decide_eq_true_eq, decide_eq_false_iff_not, beq_iff_eq, Bool.not_eq_false']; omega) | (simp; done) | (simp; omega) | (intros; omega) | (simp_all; done) | (simp_all; omega))) (fun hq => contains_ok _ _) ?_
            simp only [go_sem, his, h1, hI, hm, hrn, hln, Int.toNat_natCast]
            repeat refine ob2 ?_
            exact hQ
          refine Exec.cond_split rfl (fun h2 => ?_) (fun h2 => ?_)
          · skip
            refine Exec.seq ?_
            refine Exec.regStart 2 rfl ?_
            apply Exec.regPart 0 1 1 te_ok rfl
            · intro ops' Q hQ
              simp only [go_sem, his, h1, hI, hm, hrn, hln, Int.toNat_natCast]
              repeat refine ob2 ?_
              exact hQ
            refine Exec.yield 1 (m := 0) rfl rfl rfl rfl rfl rfl hlo0 rfl hN0 rfl (fun ag0 hag0 hdg0 => ?_)
            apply Exec.norm
            · simp only [go_sem, his, h1, hI, hm, hrn, hln, Int.toNat_natCast]
              rfl
            apply Exec.regionL te_ok
            · intro ops' Q hQ
              simp only [go_sem, his, h1, hI, hm, hrn, hln, Int.toNat_natCast]
              repeat refine ob2 ?_
              exact hQ
            refine Exec.begin rfl hlo0 hfl0 ?_
            apply Exec.norm
            · simp only [go_sem, his, h1, hI, hm, hrn, hln, Int.toNat_natCast]
              rfl
            refine Exec.block ?_
            refine Exec.seq ?_
            refine Exec.seq ?_
            apply Exec.regionL te_ok
            · intro ops' Q hQ
              simp only [go_sem, his, h1, hI, hm, hrn, hln, Int.toNat_natCast]
              repeat refine ob2 ?_
              exact hQ
            refine Exec.cond (t := true) rfl ?_
            simp only [reduceIte, Bool.false_eq_true]
            refine Exec.seq ?_
            rcases Classical.em (spn 34 (List.drop 1 r) < (List.drop 1 r).length) with hs5 | hs5
            · skip
              have hI := nq_wrap hll hr0 hs5
              have hle := nq_le hs5
              have hm := min_n hle
              have hrn := rest_n hle
              have hln := len_n hle
              apply Exec.regionL te_ok
              · intro ops' Q hQ
                simp only [go_sem, his, h1, hI, hm, hrn, hln, Int.toNat_natCast, h1, hI, hm, hrn, hln, Int.toNat_natCast]
                repeat refine ob2 ?_
                exact hQ
              refine Exec.roundEnd 1 (.exit rfl) rfl hlo0 hfl0 rfl hag0 hdg0 rfl rfl rfl ?_
              apply Exec.norm
              · simp only [go_sem, his, h1, hI, hm, hrn, hln, Int.toNat_natCast, h1, hI, hm, hrn, hln, Int.toNat_natCast]
                rfl
              refine Exec.regEnd ?_
              refine Exec.rangeEnd 1 (pd := (some (.exit 0))) Tryz.func29 rfl (.inr ⟨_, rfl⟩) rfl rfl hlo0 hfl0 rfl rfl hN0 hD0 ?_
              apply Exec.norm
              · simp only [go_sem, his, h1, hI, hm, hrn, hln, Int.toNat_natCast, h1, hI, hm, hrn, hln, Int.toNat_natCast]
                rfl
              refine Exec.exit rfl ?_
              refine Exec.seq ?_
              apply Exec.free (st := _) 5 4 [(0, 1), (1, 2)] te_ok (by as_aux_lemma => kernel_rfl) rfl (by as_aux_lemma => kernel_rfl)
              · intro ops' Q hQ
                simp only [go_sem, his, h1, hI, hm, hrn, hln, Int.toNat_natCast, h1, hI, hm, hrn, hln, Int.toNat_natCast]
                repeat refine ob2 ?_
                exact hQ
              · rfl
              refine Exec.retsM hR te_ok rfl (.cons hfr0 .nil) rfl (LeX.le ?_) (.inr ⟨_, rfl⟩)
              simp only [go_sem]
              obtain ⟨e1, e2⟩ := none_at hx.2.2 (nq_bad2 hr0 hq (nq_b h2).1 (nq_b h2).2)
              rw [e1, e2]; simp
            · skip
              have hI := nq_none hr0 hs5
              have hm : min 1 (r.length : Int) = 1 := by omega
              apply Exec.regionL te_ok
              · intro ops' Q hQ
                simp only [go_sem, his, h1, hI, hm, hrn, hln, Int.toNat_natCast, h1, hI, hm]
                repeat refine ob2 ?_
                exact hQ
              refine Exec.roundEnd 1 (.exit rfl) rfl hlo0 hfl0 rfl hag0 hdg0 rfl rfl rfl ?_
              apply Exec.norm
              · simp only [go_sem, his, h1, hI, hm, hrn, hln, Int.toNat_natCast, h1, hI, hm]
                rfl
              refine Exec.regEnd ?_
              refine Exec.rangeEnd 1 (pd := (some (.exit 0))) Tryz.func29 rfl (.inr ⟨_, rfl⟩) rfl rfl hlo0 hfl0 rfl rfl hN0 hD0 ?_
              apply Exec.norm
              · simp only [go_sem, his, h1, hI, hm, hrn, hln, Int.toNat_natCast, h1, hI, hm]
                rfl
              refine Exec.exit rfl ?_
              refine Exec.seq ?_
              apply Exec.free (st := _) 5 4 [(0, 1), (1, 2)] te_ok (by as_aux_lemma => kernel_rfl) rfl (by as_aux_lemma => kernel_rfl)
              · intro ops' Q hQ
                simp only [go_sem, his, h1, hI, hm, hrn, hln, Int.toNat_natCast, h1, hI, hm]
                repeat refine ob2 ?_
                exact hQ
              · rfl
              refine Exec.retsM hR te_ok rfl (.cons hfr0 .nil) rfl (LeX.le ?_) (.inr ⟨_, rfl⟩)
              simp only [go_sem]
              obtain ⟨e1, e2⟩ := none_at hx.2.2 (nq_bad2 hr0 hq (nq_b h2).1 (nq_b h2).2)
              rw [e1, e2]; simp
          · skip
            refine Exec.skip ?_
            refine Exec.seq ?_
            apply Exec.regionL te_ok
            · intro ops' Q hQ
              simp only [go_sem, his, h1, hI, hm, hrn, hln, Int.toNat_natCast]
              repeat refine ob2 ?_
              exact hQ
            refine Exec.seq ?_
            refine Exec.regStart 4 rfl ?_
            apply Exec.regPart 0 2 2 te_ok rfl
            · intro ops' Q hQ
              simp only [go_sem, his, h1, hI, hm, hrn, hln, Int.toNat_natCast]
              repeat refine ob2 ?_
              exact hQ
            refine Exec.yield 1 (m := 1) rfl rfl rfl rfl rfl rfl hlo0 rfl hN0 rfl (fun ag1 hag1 hdg1 => ?_)
            apply Exec.norm
            · simp only [go_sem, his, h1, hI, hm, hrn, hln, Int.toNat_natCast]
              rfl
            apply Exec.regionL te_ok
            · intro ops' Q hQ
              simp only [go_sem, his, h1, hI, hm, hrn, hln, Int.toNat_natCast]
              repeat refine ob2 ?_
              exact hQ
            refine Exec.begin rfl hlo0 hfl0 ?_
            apply Exec.norm
            · simp only [go_sem, his, h1, hI, hm, hrn, hln, Int.toNat_natCast]
              rfl
            refine Exec.block ?_
            refine Exec.seq ?_
            refine Exec.seq ?_
            apply Exec.regionL te_ok
            · intro ops' Q hQ
              simp only [go_sem, his, h1, hI, hm, hrn, hln, Int.toNat_natCast]
              repeat refine ob2 ?_
              exact hQ
            refine Exec.cond_split rfl (fun h4 => ?_) (fun h4 => ?_)
            · exfalso
              exact tk_ne (nq_pos r) hle h4
            refine Exec.skip ?_
            apply Exec.regionL te_ok
            · intro ops' Q hQ
              simp only [go_sem, his, h1, hI, hm, hrn, hln, Int.toNat_natCast]
              repeat refine ob2 ?_
              exact hQ
            refine Exec.inBlock ?_
            refine Exec.roundEnd 1 .fall rfl hlo0 hfl0 rfl hag1 hdg1 rfl rfl rfl ?_
            apply Exec.norm
            · simp only [go_sem, his, h1, hI, hm, hrn, hln, Int.toNat_natCast]
              rfl
            apply Exec.regPart 3 1 0 te_ok rfl
            · intro ops' Q hQ
              simp only [go_sem, his, h1, hI, hm, hrn, hln, Int.toNat_natCast]
              repeat refine ob2 ?_
              exact hQ
            refine Exec.regEnd ?_
            refine Exec.cond (t := false) rfl ?_
            simp only [reduceIte, Bool.false_eq_true]
            refine Exec.skip ?_
            refine Exec.inBlock ?_
            apply Exec.regionL te_ok
            · intro ops' Q hQ
              simp only [go_sem, his, h1, hI, hm, hrn, hln, Int.toNat_natCast]
              repeat refine ob2 ?_
              refine kcall hR.inv te_ok rfl rfl rfl rfl rfl rfl (trimL_ok _) ?_
              simp only [go_sem, his, h1, hI, hm, hrn, hln, Int.toNat_natCast]
              repeat refine ob2 ?_
              exact hQ
            refine Exec.back (ih0 (Lib.trimLeftB (r.drop (nq r)) 32, l ++ [r.take (nq r)]) ?_ ?_) ?_ ?_ ?_ ?_ ?_ ?_ ?_
            · try simp only
              first | exact ⟨len_next (nq_pos r) hle hx.1, trim_trim _, by rw [wA_trim]; exact on_at hx.2.2 (nq_on hr0 hq hs5 (nq_g h2))⟩ | exact ⟨len_next (sp_pos hr0 h32) hsl hx.1, trim_trim _, by rw [wA_trim]; exact on_at hx.2.2 (sp_on hr0 h32 hq (of_decide_eq_false h8))⟩
            · try simp only
              first | exact len_lt (nq_pos r) hle | exact len_lt (sp_pos hr0 h32) hsl
            · rfl
            · rfl
            · (simp only [go_sem])
            · (simp only [go_sem])
            · simp only [go_sem]
              all_goals exact ⟨by simp, .inl (by simp), fun q hq => catR_snoc (fun x => [sv x]) l _ q hq⟩
            · simp only [go_sem, his, h1, hI, hm, hrn, hln, Int.toNat_natCast]
            · rfl
        · skip
          have hI := nq_none hr0 hs5
          have hm : min 1 (r.length : Int) = 1 := by omega
          apply Exec.regionL te_ok
          · intro ops' Q hQ
            simp only [go_sem, his, h1, hI, hm]
            repeat refine ob2 ?_
            refine kcall hR.inv te_ok rfl rfl rfl rfl rfl rfl (indexByte_ok _ _) ?_
            simp only [go_sem, his, h1, hI, hm]
            repeat refine ob2 ?_
            exact hQ
          refine Exec.seq ?_
          apply Exec.regionL te_ok
          · intro ops' Q hQ
            simp only [go_sem, his, h1, hI, hm]
            repeat refine ob2 ?_
            exact hQ
          refine Exec.seq ?_
          apply Exec.regionL te_ok
          · intro ops' Q hQ
            simp only [go_sem, his, h1, hI, hm]
            repeat refine ob2 ?_
            exact hQ
          refine Exec.seq ?_
          refine Exec.seq ?_
          apply Exec.regionL te_ok
          · intro ops' Q hQ
            simp only [go_sem, his, h1, hI, hm]
            repeat refine ob2 ?_
            refine kcallG hR.inv te_ok rfl rfl rfl rfl rfl rfl (by simp only [go_sem] <;> (first | assumption | omega | (simp only [Bool.not_eq_true', Bool.or_eq_false_iff, Bool.or_eq_true, Bool.and_eq_true, decide_eq_true_eq, decide_eq_false_iff_not, beq_iff_eq, Bool.not_eq_false']; omega) | (simp; done) | (simp; omega) | (intros; omega) | (simp_all; done) | (simp_all; omega))) (fun hq => contains_ok _ _) ?_
            simp only [go_sem, his, h1, hI, hm]
            repeat refine ob2 ?_
            exact hQ
          refine Exec.cond_split rfl (fun h6 => ?_) (fun h6 => ?_)
          rotate_left 1
          · exfalso
            cases h6
          refine Exec.seq ?_
          refine Exec.regStart 2 rfl ?_
          apply Exec.regPart 0 1 1 te_ok rfl
          · intro ops' Q hQ
            simp only [go_sem, his, h1, hI, hm]
            repeat refine ob2 ?_
            exact hQ
          refine Exec.yield 1 (m := 0) rfl rfl rfl rfl rfl rfl hlo0 rfl hN0 rfl (fun ag2 hag2 hdg2 => ?_)
          apply Exec.norm
          · simp only [go_sem, his, h1, hI, hm]
            rfl
          apply Exec.regionL te_ok
          · intro ops' Q hQ
            simp only [go_sem, his, h1, hI, hm]
            repeat refine ob2 ?_
            exact hQ
          refine Exec.begin rfl hlo0 hfl0 ?_
          apply Exec.norm
          · simp only [go_sem, his, h1, hI, hm]
            rfl
          refine Exec.block ?_
          refine Exec.seq ?_
          refine Exec.seq ?_
          apply Exec.regionL te_ok
          · intro ops' Q hQ
            simp only [go_sem, his, h1, hI, hm]
            repeat refine ob2 ?_
            exact hQ
          refine Exec.cond (t := true) rfl ?_
          simp only [reduceIte, Bool.false_eq_true]
          refine Exec.seq ?_
          rcases Classical.em (spn 34 (List.drop 1 r) < (List.drop 1 r).length) with hs5 | hs5
          · skip
            have hI := nq_wrap hll hr0 hs5
            have hle := nq_le hs5
            have hm := min_n hle
            have hrn := rest_n hle
            have hln := len_n hle
            apply Exec.regionL te_ok
            · intro ops' Q hQ
              simp only [go_sem, his, h1, hI, hm, h1, hI, hm, hrn, hln, Int.toNat_natCast]
              repeat refine ob2 ?_
              exact hQ
            refine Exec.roundEnd 1 (.exit rfl) rfl hlo0 hfl0 rfl hag2 hdg2 rfl rfl rfl ?_
            apply Exec.norm
            · simp only [go_sem, his, h1, hI, hm, h1, hI, hm, hrn, hln, Int.toNat_natCast]
              rfl
            refine Exec.regEnd ?_
            refine Exec.rangeEnd 1 (pd := (some (.exit 0))) Tryz.func29 rfl (.inr ⟨_, rfl⟩) rfl rfl hlo0 hfl0 rfl rfl hN0 hD0 ?_
            apply Exec.norm
            · simp only [go_sem, his, h1, hI, hm, h1, hI, hm, hrn, hln, Int.toNat_natCast]
              rfl
            refine Exec.exit rfl ?_
            refine Exec.seq ?_
            apply Exec.free (st := _) 5 4 [(0, 1), (1, 2)] te_ok (by as_aux_lemma => kernel_rfl) rfl (by as_aux_lemma => kernel_rfl)
            · intro ops' Q hQ
              simp only [go_sem, his, h1, hI, hm, h1, hI, hm, hrn, hln, Int.toNat_natCast]
              repeat refine ob2 ?_
              exact hQ
            · rfl
            refine Exec.retsM hR te_ok rfl (.cons hfr0 .nil) rfl (LeX.le ?_) (.inr ⟨_, rfl⟩)
            simp only [go_sem]
            obtain ⟨e1, e2⟩ := none_at hx.2.2 (nq_bad hr0 hq (by assumption))
            rw [e1, e2]; simp
          · skip
            have hI := nq_none hr0 hs5
            have hm : min 1 (r.length : Int) = 1 := by omega
            apply Exec.regionL te_ok
            · intro ops' Q hQ
              simp only [go_sem, his, h1, hI, hm, h1, hI, hm]
              repeat refine ob2 ?_
              exact hQ
            refine Exec.roundEnd 1 (.exit rfl) rfl hlo0 hfl0 rfl hag2 hdg2 rfl rfl rfl ?_
            apply Exec.norm
            · simp only [go_sem, his, h1, hI, hm, h1, hI, hm]
              rfl
            refine Exec.regEnd ?_
            refine Exec.rangeEnd 1 (pd := (some (.exit 0))) Tryz.func29 rfl (.inr ⟨_, rfl⟩) rfl rfl hlo0 hfl0 rfl rfl hN0 hD0 ?_
            apply Exec.norm
            · simp only [go_sem, his, h1, hI, hm, h1, hI, hm]
              rfl
            refine Exec.exit rfl ?_
            refine Exec.seq ?_
            apply Exec.free (st := _) 5 4 [(0, 1), (1, 2)] te_ok (by as_aux_lemma => kernel_rfl) rfl (by as_aux_lemma => kernel_rfl)
            · intro ops' Q hQ
              simp only [go_sem, his, h1, hI, hm, h1, hI, hm]
              repeat refine ob2 ?_
              exact hQ
            · rfl
            refine Exec.retsM hR te_ok rfl (.cons hfr0 .nil) rfl (LeX.le ?_) (.inr ⟨_, rfl⟩)
            simp only [go_sem]
            obtain ⟨e1, e2⟩ := none_at hx.2.2 (nq_bad hr0 hq (by assumption))
            rw [e1, e2]; simp
      · skip
        have hq : r.getD 0 0 ≠ 34 := byte_f rfl h1
        have hm := min_n hsl
        have hrn := rest_n hsl
        have hln := len_n hsl
        refine Exec.skip ?_
        refine Exec.seq ?_
        apply Exec.regionL te_ok
        · intro ops' Q hQ
          simp only [go_sem, his, h1, hm, hrn, hln, Int.toNat_natCast]
          repeat refine ob2 ?_
          exact hQ
        refine Exec.seq ?_
        apply Exec.regionL te_ok
        · intro ops' Q hQ
          simp only [go_sem, his, h1, hm, hrn, hln, Int.toNat_natCast]
          repeat refine ob2 ?_
          exact hQ
        refine Exec.seq ?_
        refine Exec.seq ?_
        apply Exec.regionL te_ok
        · intro ops' Q hQ
          simp only [go_sem, his, h1, hm, hrn, hln, Int.toNat_natCast]
          repeat refine ob2 ?_
          refine kcallG hR.inv te_ok rfl rfl rfl rfl rfl rfl (by simp only [go_sem] <;> (first | assumption | omega | (simp only [Bool.not_eq_true', Bool.or_eq_false_iff, Bool.or_eq_true, Bool.and_eq_true, decide_eq_true_eq, decide_eq_false_iff_not, beq_iff_eq, Bool.not_eq_false']; omega) | (simp; done) | (simp; omega) | (intros; omega) | (simp_all; done) | (simp_all; omega))) (fun hq => contains_ok _ _) ?_
          simp only [go_sem, his, h1, hm, hrn, hln, Int.toNat_natCast]
          repeat refine ob2 ?_
          exact hQ
        refine Exec.cond_split rfl (fun h8 => ?_) (fun h8 => ?_)
        · skip
          refine Exec.seq ?_
          refine Exec.regStart 2 rfl ?_
          apply Exec.regPart 0 1 1 te_ok rfl
          · intro ops' Q hQ
            simp only [go_sem, his, h1, hm, hrn, hln, Int.toNat_natCast]
            repeat refine ob2 ?_
            exact hQ
          refine Exec.yield 1 (m := 0) rfl rfl rfl rfl rfl rfl hlo0 rfl hN0 rfl (fun ag3 hag3 hdg3 => ?_)
          apply Exec.norm
          · simp only [go_sem, his, h1, hm, hrn, hln, Int.toNat_natCast]
            rfl
          apply Exec.regionL te_ok
          · intro ops' Q hQ
            simp only [go_sem, his, h1, hm, hrn, hln, Int.toNat_natCast]
            repeat refine ob2 ?_
            exact hQ
          refine Exec.begin rfl hlo0 hfl0 ?_
          apply Exec.norm
          · simp only [go_sem, his, h1, hm, hrn, hln, Int.toNat_natCast]
            rfl
          refine Exec.block ?_
          refine Exec.seq ?_
          refine Exec.seq ?_
          apply Exec.regionL te_ok
          · intro ops' Q hQ
            simp only [go_sem, his, h1, hm, hrn, hln, Int.toNat_natCast]
            repeat refine ob2 ?_
            exact hQ
          refine Exec.cond (t := true) rfl ?_
          simp only [reduceIte, Bool.false_eq_true]
          refine Exec.seq ?_
          rcases Classical.em (spn 34 (List.drop 1 r) < (List.drop 1 r).length) with hs5 | hs5
          · skip
            have hI := nq_wrap hll hr0 hs5
            have hle := nq_le hs5
            have hm := min_n hle
            have hrn := rest_n hle
            have hln := len_n hle
            apply Exec.regionL te_ok
            · intro ops' Q hQ
              simp only [go_sem, his, h1, hm, hrn, hln, Int.toNat_natCast, h1, hI, hm, hrn, hln, Int.toNat_natCast]
              repeat refine ob2 ?_
              exact hQ
            refine Exec.roundEnd 1 (.exit rfl) rfl hlo0 hfl0 rfl hag3 hdg3 rfl rfl rfl ?_
            apply Exec.norm
            · simp only [go_sem, his, h1, hm, hrn, hln, Int.toNat_natCast, h1, hI, hm, hrn, hln, Int.toNat_natCast]
              rfl
            refine Exec.regEnd ?_
            refine Exec.rangeEnd 1 (pd := (some (.exit 0))) Tryz.func29 rfl (.inr ⟨_, rfl⟩) rfl rfl hlo0 hfl0 rfl rfl hN0 hD0 ?_
            apply Exec.norm
            · simp only [go_sem, his, h1, hm, hrn, hln, Int.toNat_natCast, h1, hI, hm, hrn, hln, Int.toNat_natCast]
              rfl
            refine Exec.exit rfl ?_
            refine Exec.seq ?_
            apply Exec.free (st := _) 5 4 [(0, 1), (1, 2)] te_ok (by as_aux_lemma => kernel_rfl) rfl (by as_aux_lemma => kernel_rfl)
            · intro ops' Q hQ
              simp only [go_sem, his, h1, hm, hrn, hln, Int.toNat_natCast, h1, hI, hm, hrn, hln, Int.toNat_natCast]
              repeat refine ob2 ?_
              exact hQ
            · rfl
            refine Exec.retsM hR te_ok rfl (.cons hfr0 .nil) rfl (LeX.le ?_) (.inr ⟨_, rfl⟩)
            simp only [go_sem]
            obtain ⟨e1, e2⟩ := none_at hx.2.2 (sp_bad hr0 h32 hq (of_decide_eq_true h8))
            rw [e1, e2]; simp
          · skip
            have hI := nq_none hr0 hs5
            have hm : min 1 (r.length : Int) = 1 := by omega
            apply Exec.regionL te_ok
            · intro ops' Q hQ
              simp only [go_sem, his, h1, hm, hrn, hln, Int.toNat_natCast, h1, hI, hm]
              repeat refine ob2 ?_
              exact hQ
            refine Exec.roundEnd 1 (.exit rfl) rfl hlo0 hfl0 rfl hag3 hdg3 rfl rfl rfl ?_
            apply Exec.norm
            · simp only [go_sem, his, h1, hm, hrn, hln, Int.toNat_natCast, h1, hI, hm]
              rfl
            refine Exec.regEnd ?_
            refine Exec.rangeEnd 1 (pd := (some (.exit 0))) Tryz.func29 rfl (.inr ⟨_, rfl⟩) rfl rfl hlo0 hfl0 rfl rfl hN0 hD0 ?_
            apply Exec.norm
            · simp only [go_sem, his, h1, hm, hrn, hln, Int.toNat_natCast, h1, hI, hm]
              rfl
            refine Exec.exit rfl ?_
            refine Exec.seq ?_
            apply Exec.free (st := _) 5 4 [(0, 1), (1, 2)] te_ok (by as_aux_lemma => kernel_rfl) rfl (by as_aux_lemma => kernel_rfl)
            · intro ops' Q hQ
              simp only [go_sem, his, h1, hm, hrn, hln, Int.toNat_natCast, h1, hI, hm]
              repeat refine ob2 ?_
              exact hQ
            · rfl
            refine Exec.retsM hR te_ok rfl (.cons hfr0 .nil) rfl (LeX.le ?_) (.inr ⟨_, rfl⟩)
            simp only [go_sem]
            obtain ⟨e1, e2⟩ := none_at hx.2.2 (sp_bad hr0 h32 hq (of_decide_eq_true h8))
            rw [e1, e2]; simp
        · skip
          refine Exec.skip ?_
          refine Exec.seq ?_
          apply Exec.regionL te_ok
          · intro ops' Q hQ
            simp only [go_sem, his, h1, hm, hrn, hln, Int.toNat_natCast]
            repeat refine ob2 ?_
            exact hQ
          refine Exec.seq ?_
          refine Exec.regStart 4 rfl ?_
          apply Exec.regPart 0 2 2 te_ok rfl
          · intro ops' Q hQ
            simp only [go_sem, his, h1, hm, hrn, hln, Int.toNat_natCast]
            repeat refine ob2 ?_
            exact hQ
          refine Exec.yield 1 (m := 1) rfl rfl rfl rfl rfl rfl hlo0 rfl hN0 rfl (fun ag4 hag4 hdg4 => ?_)
          apply Exec.norm
          · simp only [go_sem, his, h1, hm, hrn, hln, Int.toNat_natCast]
            rfl
          apply Exec.regionL te_ok
          · intro ops' Q hQ
            simp only [go_sem, his, h1, hm, hrn, hln, Int.toNat_natCast]
            repeat refine ob2 ?_
            exact hQ
          refine Exec.begin rfl hlo0 hfl0 ?_
          apply Exec.norm
          · simp only [go_sem, his, h1, hm, hrn, hln, Int.toNat_natCast]
            rfl
          refine Exec.block ?_
          refine Exec.seq ?_
          refine Exec.seq ?_
          apply Exec.regionL te_ok
          · intro ops' Q hQ
            simp only [go_sem, his, h1, hm, hrn, hln, Int.toNat_natCast]
            repeat refine ob2 ?_
            exact hQ
          refine Exec.cond_split rfl (fun h10 => ?_) (fun h10 => ?_)
          · exfalso
            exact tk_ne (sp_pos hr0 h32) hsl h10
          refine Exec.skip ?_
          apply Exec.regionL te_ok
          · intro ops' Q hQ
            simp only [go_sem, his, h1, hm, hrn, hln, Int.toNat_natCast]
            repeat refine ob2 ?_
            exact hQ
          refine Exec.inBlock ?_
          refine Exec.roundEnd 1 .fall rfl hlo0 hfl0 rfl hag4 hdg4 rfl rfl rfl ?_
          apply Exec.norm
          · simp only [go_sem, his, h1, hm, hrn, hln, Int.toNat_natCast]
            rfl
          apply Exec.regPart 3 1 0 te_ok rfl
          · intro ops' Q hQ
            simp only [go_sem, his, h1, hm, hrn, hln, Int.toNat_natCast]
            repeat refine ob2 ?_
            exact hQ
          refine Exec.regEnd ?_
          refine Exec.cond (t := false) rfl ?_
          simp only [reduceIte, Bool.false_eq_true]
          refine Exec.skip ?_
          refine Exec.inBlock ?_
          apply Exec.regionL te_ok
          · intro ops' Q hQ
            simp only [go_sem, his, h1, hm, hrn, hln, Int.toNat_natCast]
            repeat refine ob2 ?_
            refine kcall hR.inv te_ok rfl rfl rfl rfl rfl rfl (trimL_ok _) ?_
            simp only [go_sem, his, h1, hm, hrn, hln, Int.toNat_natCast]
            repeat refine ob2 ?_
            exact hQ
          refine Exec.back (ih0 (Lib.trimLeftB (r.drop (spn 32 r)) 32, l ++ [r.take (spn 32 r)]) ?_ ?_) ?_ ?_ ?_ ?_ ?_ ?_ ?_
          · try simp only
            first | exact ⟨len_next (nq_pos r) hle hx.1, trim_trim _, by rw [wA_trim]; exact on_at hx.2.2 (nq_on hr0 hq hs5 (nq_g h2))⟩ | exact ⟨len_next (sp_pos hr0 h32) hsl hx.1, trim_trim _, by rw [wA_trim]; exact on_at hx.2.2 (sp_on hr0 h32 hq (of_decide_eq_false h8))⟩
          · try simp only
            first | exact len_lt (nq_pos r) hle | exact len_lt (sp_pos hr0 h32) hsl
          · rfl
          · rfl
          · (simp only [go_sem])
          · (simp only [go_sem])
          · simp only [go_sem]
            all_goals exact ⟨by simp, .inl (by simp), fun q hq => catR_snoc (fun x => [sv x]) l _ q hq⟩
          · simp only [go_sem, his, h1, hm, hrn, hln, Int.toNat_natCast]
          · rfl
    · skip
      have hr0 : r = [] := by cases r with | nil => rfl | cons a b => simp at h0
      refine Exec.freeze 1500 rfl ?_
      apply Exec.norm
      · simp only [go_sem]
        rfl
      refine Exec.exit rfl ?_
      refine Exec.rangeEnd 1 (pd := none) Tryz.func29 rfl (.inl rfl) rfl rfl hlo0 hfl0 rfl rfl hN0 hD0 ?_
      apply Exec.norm
      · simp only [go_sem]
        rfl
      refine Exec.inBlock ?_
      refine Exec.seq ?_
      apply Exec.free (st := _) 5 4 [(0, 1), (1, 2)] te_ok (by as_aux_lemma => kernel_rfl) rfl (by as_aux_lemma => kernel_rfl)
      · intro ops' Q hQ
        simp only [go_sem]
        repeat refine ob2 ?_
        exact hQ
      · rfl
      refine Exec.retsM hR te_ok rfl (.cons hfr0 .nil) rfl (LeX.le ?_) (.inr ⟨_, rfl⟩)
      simp only [go_sem]
      obtain ⟨e1, e2⟩ := end_at hx.2.2 (by rw [hr0]; rfl)
      rw [e1, e2]; simp
end Go.Proofs.YtgnhhjojiipmgaaGreatDoor
namespace Go.Proofs.YtgnhhjojiipmgaaGreatDoor
open Go Go.Cev
set_option maxRecDepth 100000
theorem lb_cases {g : Nat} {m : List Value → M Value} (h : lb0 g = some m) : (g = 41 ∧ m = itoaA) ∨ (g = 120 ∧ m = atoiA) ∨ (g = 414 ∧ m = fieldsA 9) := by
  unfold lb0 at h
  split at h <;> first | (cases h; done) | (cases h; simp)
theorem ex_cases {g : Nat} {m : List Value → M Value} (h : ex0 g = some m) : (g = 456 ∧ m = cloneA) ∨ (g = 65 ∧ m = indexByteA) ∨ (g = 53 ∧ m = selfA) := by
  unfold ex0 at h
  split at h <;> first | (cases h; done) | (cases h; simp)
theorem names0 : (Tryz.prog.funcs.toList.all fun f => !(f.name == "runtime.NumGoroutine")) = true := by kernel_rfl
theorem eqs0 : ∀ t ∈ [81, 243, 147, 527], Tryz.prog.stoodInHeld t = false ∧ Tryz.prog.eqGuardType Tryz.prog.depth t = false := by
  intro t ht
  simp only [List.mem_cons, List.not_mem_nil, or_false] at ht
  rcases ht with rfl | rfl | rfl | rfl <;> exact ⟨by kernel_rfl, by kernel_rfl⟩
theorem kn0_ok (w : World) (hw : LaidW w) : KnOk Tryz.prog w.heap.size w kn0 := by
  refine ⟨ty_ok eqs0, fn_ok names0, fun g m h => ?_, fun g m h => ?_⟩
  · rcases ex_cases h with ⟨rfl, rfl⟩ | ⟨rfl, rfl⟩ | ⟨rfl, rfl⟩
    · exact ex_of Tryz.func456 (by kernel_rfl) (by kernel_rfl) (by kernel_rfl) (e := Extern.MapsClone.clone) (by kernel_rfl) sim_clone
    · exact ex_of Tryz.func65 (by kernel_rfl) (by kernel_rfl) (by kernel_rfl) (e := Extern.BytealgIndexByte.indexByte) (by kernel_rfl) sim_index1
    · exact ex_of Tryz.func53 (by kernel_rfl) (by kernel_rfl) (by kernel_rfl) (e := Extern.AbiNoEscape.same) (by kernel_rfl) sim_same
  · rcases lb_cases h with ⟨rfl, rfl⟩ | ⟨rfl, rfl⟩ | ⟨rfl, rfl⟩
    · exact lb_itoa fun i hi w => Tryz.strconv_Itoa_small i hi w
    · exact lb_atoi (tb := 5) fun s n hl h w => Tryz.strconv_Atoi s n hl h w
    · exact lb_fields fun s w' hs ha hb => Tryz.strings_Fields s w' hs ha (laidW_stable w w' hw ⟨hb.os, hb.tape, hb.output, hb.size, fun k hk => hb.block k hk⟩).sp
theorem mix0 : Tryz.prog.follows .mixedOrders = true := by kernel_rfl
theorem awake_ok : Kin.FnOK LaidW Tryz.prog 5 [] (.v (.bool true)) :=
  Kin.FnOK.lib ⟨Tryz.f5, Tryz.func5, by kernel_rfl, by kernel_rfl⟩ fun w Z vs hI hr => by
    have : vs = [] := List.eq_nil_of_length_eq_zero (Kin.RdL_length hr)
    subst this
    exact closed_run (kn0_ok w hI) mix0 1000 run0
end Go.Proofs.YtgnhhjojiipmgaaGreatDoor
namespace Go.Proofs.YtgnhhjojiipmgaaGreatDoor
open Go.Kin
set_option maxRecDepth 100000
set_option maxHeartbeats 0
theorem wF_len : ∀ (f : Nat) (l : List UInt8) (x : List (List UInt8)), wF f l = some x → x.length ≤ l.length
  | 0, l, x, h => by cases h; simp
  | f + 1, l, x, h => by
    have ht := trim_le l
    unfold wF at h
    cases hl : Lib.trimLeftB l 32 with
    | nil => rw [hl] at h; cases h; simp
    | cons c r =>
      rw [hl] at h ht
      simp only [List.length_cons] at h ht
      cases hw : wd c r with
      | none => rw [hw] at h; cases h
      | some y =>
        obtain ⟨w, rest⟩ := y
        rw [hw] at h
        simp only at h
        obtain ⟨h1, h2, h3⟩ := wd_rest (trim_head hl) hw
        cases hz : wF f rest with
        | none => rw [hz] at h; cases h
        | some z =>
          rw [hz] at h
          cases h
          have := wF_len f rest z hz
          simp; omega
theorem wL_len (s : List UInt8) : (wL s).length ≤ s.length := by
  unfold wL
  cases h : wA s with
  | none => simp
  | some x => exact wF_len _ _ _ h
theorem deskWords_ok (s : List UInt8) (hs : s.length ≤ 140737488355328) : FnOK LaidW Tryz.prog 3 [sv s] (bv true) := by
  refine FnOK_of laidW_stable Tryz.func3 Tryz.ntmps3 rfl (by as_aux_lemma => kernel_rfl) (Nat.le_of_ble_eq_true rfl) (fun R hR => ?_)
  obtain ⟨_, b, cs, T, C⟩ := R
  obtain rfl : _ = Tryz.prog := hR.p
  refine Exec.seq ?_
  apply Exec.regionL te_ok
  · intro ops' Q hQ
    simp only [go_sem]
    repeat refine ob2 ?_
    exact hQ
  refine Exec.seq ?_
  refine Exec.seq ?_
  apply Exec.regionL te_ok
  · intro ops' Q hQ
    simp only [go_sem]
    repeat refine ob2 ?_
    exact hQ
  refine Exec.cond_split rfl (fun h0 => ?_) (fun h0 => ?_)
  · skip
    refine Exec.seq ?_
    apply Exec.regionL te_ok
    · intro ops' Q hQ
      simp only [go_sem]
      repeat refine ob2 ?_
      refine kcall hR.inv te_ok rfl rfl rfl rfl rfl rfl (awake_ok) ?_
      simp only [go_sem]
      repeat refine ob2 ?_
      exact hQ
    refine Exec.rets hR te_ok rfl rfl rfl (LeX.le ?_) (.inr ⟨_, rfl⟩)
    simp only [go_sem]
  · skip
    have hl : s.length ≤ 1600 := by have := of_decide_eq_false h0; omega
    have hwl := wL_len s
    refine Exec.skip ?_
    refine Exec.seq ?_
    apply Exec.regionL te_ok
    · intro ops' Q hQ
      simp only [go_sem]
      repeat refine ob2 ?_
      refine kcall hR.inv te_ok rfl rfl rfl rfl rfl rfl (words_ok _ (by omega)) ?_
      simp only [go_sem]
      repeat refine ob2 ?_
      exact hQ
    refine Exec.seq ?_
    apply Exec.regionL te_ok
    · intro ops' Q hQ
      simp only [go_sem]
      repeat refine ob2 ?_
      refine kcall hR.inv te_ok rfl rfl rfl rfl rfl rfl (rwords_ok _ (by omega)) ?_
      simp only [go_sem]
      repeat refine ob2 ?_
      exact hQ
    refine Exec.seq ?_
    apply Exec.regionL te_ok
    · intro ops' Q hQ
      simp only [go_sem]
      repeat refine ob2 ?_
      refine kcallG hR.inv te_ok rfl rfl rfl rfl rfl rfl (by simp only [go_sem] <;> (first | assumption | omega | (simp only [Bool.not_eq_true', Bool.or_eq_false_iff, Bool.or_eq_true, Bool.and_eq_true, decide_eq_true_eq, decide_eq_false_iff_not, beq_iff_eq, Bool.not_eq_false']; omega) | (simp; done) | (simp; omega) | (intros; omega) | (simp_all; done) | (simp_all; omega))) (fun hq => sameT_ok _ _ (by omega) (by omega)) ?_
      simp only [go_sem]
      repeat refine ob2 ?_
      refine kcallG hR.inv te_ok rfl rfl rfl rfl rfl rfl (by simp only [go_sem] <;> (first | assumption | omega | (simp only [Bool.not_eq_true', Bool.or_eq_false_iff, Bool.or_eq_true, Bool.and_eq_true, decide_eq_true_eq, decide_eq_false_iff_not, beq_iff_eq, Bool.not_eq_false']; omega) | (simp; done) | (simp; omega) | (intros; omega) | (simp_all; done) | (simp_all; omega))) (fun hq => awake_ok) ?_
      simp only [go_sem]
      repeat refine ob2 ?_
      exact hQ
    refine Exec.rets hR te_ok rfl rfl rfl (LeX.le ?_) (.inr ⟨_, rfl⟩)
    simp only [go_sem]
end Go.Proofs.YtgnhhjojiipmgaaGreatDoor
namespace Go.Kin
open Go
section
variable {P : Program} {C : Ctx} {o : Oper} {s : Sy}
/-- a slice of one byte, taken as a string -/
theorem ok_bts {t t' e : TypeId} {x : Operand} {key : Nat} {ow : Ow} {n : Int} {i j l : TyI} (ho : o.op = .convert t t' x) (ht : ∀ t, o.dst = some t → t < s.N) (hi : TyOk P t i) (hu : i.u = .slice e) (hj : TyOk P e j) (hju : j.u = .int .u8) (hl : TyOk P t' l) (hlu : l.u = .string)
    (hx : evalO s.S x = some (.own key)) (hO : s.O key = some ow) (hk : ow.k = 1) (hn : ow.n = 1) (hr : ow.row 0 = [.v (.int .u8 n)]) : Ok1 P C o s ⟨.d (.v (.string (ByteArray.empty.push (UInt8.ofNat n.toNat)))), [], [], [], []⟩ := by
  refine ok_val (by simp [ho]) ht fun s' E a w hext hE => ?_
  have h := hext.ev hE (x := x) (by simp [ho, Op.operands]) hx
  simp only [DenV] at h
  obtain ⟨⟨_, h3, _⟩, h4⟩ := hE.hp.own key ow (by rw [hext.o key (by rw [hO]; simp)]; exact hO)
  have h1 := hi.under (w := w)
  have h2 := hl.under (w := w)
  have hun1 := hj.under (w := w)
  rw [hu] at h1; rw [hlu] at h2; rw [hju] at hun1
  rcases h4 with ⟨_, h4⟩ | ⟨g, cap, vs, h4, h5, _, h6, h7, h8⟩
  · omega
  · rw [h4] at h
    have h9 := h8 0 (by omega)
    rw [hr, hk] at h9
    simp only [RdL, RdV] at h9
    obtain ⟨v, vs', e1, rfl, rfl⟩ := h9
    have hc : w.cell? ((⟨g, 0, none⟩ : Addr).add 0) = some (.int .u8 n) := by
      have : vs[0]? = some (.int .u8 n) := by
        cases vs with
        | nil => simp at e1
        | cons v r => simp at e1; simp [e1]
      have e0 : (⟨g, 0, none⟩ : Addr).add 0 = ⟨g, 0, none⟩ := rfl
      rw [e0]; simp [World.cell?, h6, this]
    have hld := run_loadCells (P := P) w ⟨g, 0, none⟩ 1 (fun _ => .int .u8 n) (fun j hj => by
      have : j = 0 := by omega
      subst this; exact hc)
    have hb := run_bytesToString (P := P) w ⟨g, 0, none⟩ 1 cap [n] (by simpa using hld)
    refine ⟨.string (ByteArray.empty.push (UInt8.ofNat n.toNat)), ?_, by simp [DenV, RdV]⟩
    have : (convert t t' (.slice (some ⟨g, 0, none⟩) 1 cap)).run P w = .ok (.string (ByteArray.empty.push (UInt8.ofNat n.toNat))) w := by
      unfold convert
      simp only [Sem.run_bind, h1, h2, hun1, Result.andThen_ok]
      exact hb
    simp [execOp, ho, h, hn, this]
end
theorem kbts {P : Program} {C : Ctx} {te : TE} (hte : TEok P te) {ops : Array Oper} {q : Nat} {ds : List (Option Tmp)} {o : Oper} {r : List Oper} {st : Stt} {Q : Sy → Prop} (hg : o.guard = none) (hd : dstOk o st.N = true)
    {t t' e : TypeId} {x : Nat} {key : Nat} {ow : Ow} {n : Int} {i j l : TyI} (ho : o.op = .convert t t' (.tmp x)) (hi : klook t te = some i) (hu : i.u = .slice e) (hj : klook e te = some j) (hju : j.u = .int .u8) (hl : klook t' te = some l) (hlu : l.u = .string)
    (hx : klook x st.S = some (.own key)) (hO : klook key st.O = some ow) (hk : ow.k = 1) (hn : ow.n = 1) (hr : ow.row 0 = [.v (.int .u8 n)])
    (h : runL P C te ops (q + 1) (o.dst :: ds) r (applyL o.dst ⟨.d (.v (.string (ByteArray.empty.push (UInt8.ofNat n.toNat)))), [], [], [], []⟩ st) Q) : WalkI P C ops q ds (o :: r) st.sy Q :=
  walkI_step (fun ops _ => ok2_run (ok_bts ho (dstOk_spec hd) (hte _ _ hi) hu (hte _ _ hj) hju (hte _ _ hl) hlu hx hO hk hn hr) (by simp [wantS, hg])) (runL_walk hte h)
theorem kbtsX {P : Program} {C : Ctx} {te : TE} (hte : TEok P te) {ops : Array Oper} {q : Nat} {ds : List (Option Tmp)} {o : Oper} {r : List Oper} {st0 st : Stt} {Q : Sy → Prop} (hst : st0 = st) (hnone : step2 te q ds st o = none) (hg : o.guard = none) (hd : dstOk o st.N = true)
    {t t' e : TypeId} {x : Nat} {key : Nat} {ow : Ow} {n : Int} {i j l : TyI} (ho : o.op = .convert t t' (.tmp x)) (hi : klook t te = some i) (hu : i.u = .slice e) (hj : klook e te = some j) (hju : j.u = .int .u8) (hl : klook t' te = some l) (hlu : l.u = .string)
    (hx : klook x st.S = some (.own key)) (hO : klook key st.O = some ow) (hk : ow.k = 1) (hn : ow.n = 1) (hr : ow.row 0 = [.v (.int .u8 n)])
    (h : runL P C te ops (q + 1) (o.dst :: ds) r (applyL o.dst ⟨.d (.v (.string (mkS [UInt8.ofNat n.toNat]))), [], [], [], []⟩ st) Q) : runX P C te ops r q ds (step2 te q ds st0 o) o st0 Q := by
  subst hst
  rw [hnone, runX_none]
  exact kbts hte hg hd ho hi hu hj hju hl hlu hx hO hk hn hr h
end Go.Kin
namespace Go.Kin
open Go
section
variable {P : Program} {C : Ctx} {o : Oper} {s : Sy}
/-- a code point, taken as a string -/
theorem ok_convRune {t t' : TypeId} {x : Operand} {k : IntKind} {n : Int} {i j : TyI} (ho : o.op = .convert t t' x) (ht : ∀ t, o.dst = some t → t < s.N) (hx : evalO s.S x = some (.d (.v (.int k n)))) (hi : TyOk P t i) (hiu : i.u = .int k) (hj : TyOk P t' j) (hju : j.u = .string) :
    Ok1 P C o s ⟨.d (.v (.string (Utf8.encode n))), [], [], [], []⟩ := by
  refine ok_run (by simp [ho]) ht (x := x) (u := .string (Utf8.encode n)) (by simp [ho, Op.operands]) hx (fun ρ w hx => ?_) rfl
  have h1 := hi.under (w := w)
  have h2 := hj.under (w := w)
  rw [hiu] at h1
  rw [hju] at h2
  have : (convert t t' (.int k n)).run P w = .ok (.string (Utf8.encode n)) w := by
    unfold convert
    simp only [Sem.run_bind, h1, h2, Result.andThen_ok]
    simp [Conv.intToString]
  simp [execOp, ho, hx, this]
end
theorem krune {P : Program} {C : Ctx} {te : TE} (hte : TEok P te) {ops : Array Oper} {q : Nat} {ds : List (Option Tmp)} {o : Oper} {r : List Oper} {st : Stt} {Q : Sy → Prop} (hg : o.guard = none) (hd : dstOk o st.N = true)
    {t t' : TypeId} {x : Nat} {k : IntKind} {n : Int} {i j : TyI} (ho : o.op = .convert t t' (.tmp x)) (hi : klook t te = some i) (hu : i.u = .int k) (hj : klook t' te = some j) (hju : j.u = .string)
    (hx : klook x st.S = some (.d (.v (.int k n))))
    (h : runL P C te ops (q + 1) (o.dst :: ds) r (applyL o.dst ⟨.d (.v (.string (Utf8.encode n))), [], [], [], []⟩ st) Q) : WalkI P C ops q ds (o :: r) st.sy Q :=
  walkI_step (fun ops _ => ok2_run (ok_convRune ho (dstOk_spec hd) (show evalO (fun t => klook t st.S) (.tmp x) = _ from hx) (hte _ _ hi) hu (hte _ _ hj) hju) (by simp [wantS, hg])) (runL_walk hte h)
end Go.Kin
