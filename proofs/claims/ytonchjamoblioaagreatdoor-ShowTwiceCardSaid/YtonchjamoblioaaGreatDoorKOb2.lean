/- Steps of a function body on data, and contracts of the functions of the seat, walked. -/
import Derived.Test.YtonchjamoblioaaGreatDoorZ11
import Derived.Test.YtonchjamoblioaaGreatDoorQF
import Derived.Test.YtonchjamoblioaaGreatDoorKOb
import Derived.Test.YtonchjamoblioaaGreatDoorKAttr
set_option linter.unusedSimpArgs false
set_option linter.unusedVariables false
set_option linter.unusedSectionVars false
namespace Go.Proofs.YtonchjamoblioaaGreatDoor
open Go.Kin Go.Lib
/-! ### the text of a query is its tokens -/
theorem digits_all (u : Nat) : ∀ c ∈ decDigits u, 48 ≤ c.toNat ∧ c.toNat ≤ 57 := by
 induction u using Nat.strongRecOn with
 | _ u ih =>
  have dg : ∀ d, d < 10 → ∀ c ∈ [UInt8.ofNat (48 + d)], 48 ≤ c.toNat ∧ c.toNat ≤ 57 := fun d hd c hc => by
   simp only [List.mem_singleton] at hc; subst hc
   rw [ofNat_toNat (by omega)]; omega
  by_cases h : u < 10
  ·rw [decDigits_small h]; exact dg u h
  ·rw [decDigits_big h]
   intro c hc
   rcases List.mem_append.1 hc with hc | hc
   ·exact ih (u / 10) (by omega) c hc
   ·exact dg _ (by omega) c hc
theorem digits_I (u : Nat) : (decDigits u).all (fun c => digitI c.toNat) = true := by
 rw [List.all_eq_true]
 intro c hc
 have := digits_all u c hc
 unfold digitI; simp; omega
theorem digit_sign {n : Int} (h : digitI n = true) : signI n = true := by unfold signI; rw [h]; simp
theorem val_parse {v : Vl} (h : v.right = true) : parseV v.shown = v ∧ (parseE v.shown == 0) = true := by
 have := parse_shown h
 unfold parseV parseE
 rw [if_pos this.1, if_pos this.1]; exact ⟨this.2, rfl⟩
theorem num_fits {n : Int} (h : rightV 1 n [] = true) {R : List UInt8} (hR : Soft R) : Fits (nmT n) R := by
 have hp := val_parse (v := ⟨1, n, []⟩) h
 have es : (⟨1, n, []⟩ : Vl).shown = itoa n := rfl
 rw [es] at hp
 by_cases hn : n < 0
 ·have e : itoa n = 45 :: decDigits n.natAbs := by unfold itoa; rw [if_pos hn]
  have hd := digits_I n.natAbs
  have hl : 0 < (decDigits n.natAbs).length := List.length_pos_iff.2 (decDigits_ne _)
  have hs : spanN digitI (decDigits n.natAbs ++ R) = (decDigits n.natAbs).length := by rw [span_soft (fun n h => digit_sign h) hR, span_whole hd]
  have hdr : (itoa n ++ R).drop 1 = decDigits n.natAbs ++ R := by rw [e]; rfl
  have hg : (itoa n ++ R).getD 0 0 = 45 := by rw [e]; rfl
  have hc : ((((45 : UInt8).toNat : Int) == 45) && decide (0 < (spanN digitI ((itoa n ++ R).drop 1) : Int))) = true := by
   rw [hdr, hs]; simp; omega
  have hm : minusN (itoa n ++ R) = itoa n := by
   unfold minusN
   rw [hdr, hs, show 1 + (decDigits n.natAbs).length = (itoa n).length by rw [e]; simp; omega]
   exact List.take_left
  have hne : itoa n ++ R ≠ [] := by rw [e]; simp
  refine ⟨by simp [nmT], ?_, ?_, ?_⟩
  ·show firstT (itoa n ++ R) = _
   unfold firstT
   rw [if_neg hne, hg, if_neg (by decide), if_neg (by decide), if_pos hc, hm]
   unfold valuedT; rw [hp.1]; rfl
  ·show firstB (itoa n ++ R) = _
   unfold firstB
   rw [if_neg hne, hg, if_neg (by decide), if_neg (by decide), if_pos hc, hm]; exact hp.2
  ·show spanN blankI (itoa n ++ R) = 0
   rw [e]; rfl
 ·have e : itoa n = decDigits n.toNat := by unfold itoa; rw [if_neg hn]
  have hd := digits_I n.toNat
  have hs : spanN digitI (itoa n ++ R) = (itoa n).length := by rw [e, span_soft (fun n h => digit_sign h) hR, span_whole hd]
  obtain ⟨c, r, hc, h1, h2⟩ := digits_head' n.toNat
  have hg : (itoa n ++ R).getD 0 0 = c := by rw [e, hc]; rfl
  have hl : letterI (c.toNat : Int) = false := by unfold letterI; simp; omega
  have hdg : digitI (c.toNat : Int) = true := by unfold digitI; simp; omega
  have hm : digitN (itoa n ++ R) = itoa n := by unfold digitN; rw [hs]; exact List.take_left
  have hne : itoa n ++ R ≠ [] := by rw [e, hc]; simp
  refine ⟨by simp [nmT], ?_, ?_, ?_⟩
  ·show firstT (itoa n ++ R) = _
   unfold firstT
   rw [if_neg hne, hg, if_neg (by rw [hl]; decide), if_pos hdg, hm]
   unfold valuedT; rw [hp.1]; rfl
  ·show firstB (itoa n ++ R) = _
   unfold firstB
   rw [if_neg hne, hg, if_neg (by rw [hl]; decide), if_pos hdg, hm]; exact hp.2
  ·show spanN blankI (itoa n ++ R) = 0
   rw [e, hc]
   simp only [List.cons_append, spanN]
   rw [if_neg]; unfold blankI; simp; omega
theorem plain_index {s : List UInt8} (h : plainS s = true) (R : List UInt8) : indexByte (s ++ 34 :: R) 34 = s.length := by
 induction s with
 | nil => simp [indexByte]
 | cons c r ih =>
  unfold plainS at h
  rw [List.all_cons, Bool.and_eq_true] at h
  have hc : (c == 34) = false := by
   have := h.1
   unfold plainI at this
   rw [beq_eq_false_iff_ne]; rintro rfl
   simp at this
  have := ih h.2
  simp only [List.cons_append, indexByte, hc, Bool.false_eq_true, if_false, this]
  have h2 : (((r.length : Int)) == -1) = false := by simp
  rw [h2]; simp
theorem txt_fits {s : List UInt8} (h : rightV 2 0 s = true) (R : List UInt8) : Fits (vlT ⟨2, 0, s⟩) R := by
 have hp := val_parse (v := ⟨2, 0, s⟩) h
 have es : (⟨2, 0, s⟩ : Vl).shown = 34 :: (s ++ [34]) := rfl
 have et : vlT ⟨2, 0, s⟩ = ⟨3, 34 :: (s ++ [34]), 0, ⟨2, 0, s⟩⟩ := rfl
 rw [et]
 rw [es] at hp
 have hpl : plainS s = true := by unfold rightV at h; simp at h; exact h.2
 have hi : indexByte ((34 :: (s ++ [34]) ++ R).drop 1) 34 = s.length := by
  have : (34 :: (s ++ [34]) ++ R).drop 1 = s ++ 34 :: R := by simp
  rw [this]; exact plain_index hpl R
 have hm : textN (34 :: (s ++ [34]) ++ R) = 34 :: (s ++ [34]) := by
  unfold textN
  rw [hi, show ((s.length : Int) + 2).toNat = (34 :: (s ++ [34])).length by simp; omega]
  exact List.take_left
 have hg : (34 :: (s ++ [34]) ++ R).getD 0 0 = 34 := rfl
 refine ⟨by simp, ?_, ?_, ?_⟩
 ·show firstT (34 :: (s ++ [34]) ++ R) = _
  unfold firstT
  rw [if_neg (by simp), hg, if_neg (by decide), if_neg (by decide), if_neg (by simp), if_pos (by decide), if_neg (by rw [hi]; omega), hm]
  unfold valuedT; rw [hp.1]; rfl
 ·show firstB (34 :: (s ++ [34]) ++ R) = _
  unfold firstB
  rw [if_neg (by simp), hg, if_neg (by decide), if_neg (by decide), if_neg (by simp), if_pos (by decide), if_neg (by rw [hi]; omega), hm]; exact hp.2
 ·rfl
theorem join_lex {p : Pc} (hpS : ∀ R, Soft (gG p.1 ++ (p.2.t ++ R))) : ∀ (xs : List (List Pc)) (R : List UInt8), Soft R → (∀ x ∈ xs, ∀ R, Soft R → LexOk x R) → (∀ x ∈ xs, ∀ R, Fits p.2 (flat x ++ R)) → LexOk (joinPc p xs) R
 | [], _, _, _, _ => trivial
 | [x], R, hR, h1, _ => by simp only [joinPc, List.append_nil]; exact h1 x List.mem_cons_self R hR
 | x :: y :: r, R, hR, h1, h2 => by
  have e : joinPc p (x :: y :: r) = x ++ p :: joinPc p (y :: r) := rfl
  have ih := join_lex hpS (y :: r) R hR (fun z hz => h1 z (List.mem_cons_of_mem _ hz)) (fun z hz => h2 z (List.mem_cons_of_mem _ hz))
  rw [e, LexOk_app]
  refine ⟨h1 x List.mem_cons_self _ ?_, ?_, ih⟩
  ·have : flat (p :: joinPc p (y :: r)) ++ R = gG p.1 ++ (p.2.t ++ (flat (joinPc p (y :: r)) ++ R)) := by simp [flat]
   rw [this]; exact hpS _
  ·have : ∃ q, joinPc p (y :: r) = y ++ q := ⟨_, rfl⟩
   obtain ⟨q, hq⟩ := this
   rw [hq, flat_app, List.append_assoc]; exact h2 y (by simp) _
theorem join_flat {α : Type} {p : Pc} {pc : α → List Pc} {T : α → List UInt8} {a b : List UInt8} (hp : gG p.1 ++ p.2.t = b) : ∀ ks : List α, ks ≠ [] → (∀ y ∈ ks, flat (pc y) = a ++ T y) → flat (joinPc p (ks.map pc)) = a ++ join (ks.map T) (b ++ a)
 | [], h, _ => absurd rfl h
 | [y], _, h => by
  simp only [List.map, joinPc, List.append_nil]
  rw [h y List.mem_cons_self, join_one]
 | y :: z :: r, _, h => by
  have e : joinPc p ((y :: z :: r).map pc) = pc y ++ p :: joinPc p ((z :: r).map pc) := rfl
  have ih := join_flat (T := T) hp (z :: r) (by simp) (fun q hq => h q (List.mem_cons_of_mem _ hq))
  rw [e, flat_app, h y List.mem_cons_self]
  have e2 : flat (p :: joinPc p ((z :: r).map pc)) = b ++ flat (joinPc p ((z :: r).map pc)) := by rw [← hp]; simp [flat]
  rw [e2, ih]
  simp only [List.map_cons, join_cons, joinTail, List.append_assoc]
  simp
theorem grp_flat (pk k : Int) (ps : List Pc) : flat (grpPc pk k ps) = grp pk k (flat ps) := by
 unfold grpPc grp
 split
 ·simp [flat, flat_app, gG, sg]
 ·rfl
theorem grp_lex (pk k : Int) {ps : List Pc} (h : ∀ R, Soft R → LexOk ps R) (R : List UInt8) (hR : Soft R) : LexOk (grpPc pk k ps) R := by
 unfold grpPc
 split
 ·refine ⟨sign_fits (by decide) _, ?_⟩
  rw [LexOk_app]
  exact ⟨h _ (soft_cons (by decide)), sign_fits (by decide) _, trivial⟩
 ·exact h R hR
theorem ex_lex : ∀ x : Ex, exOk x = true → (∀ R, Soft R → LexOk (exPc x) R) ∧ flat (exPc x) = exT x := fun x => by
 refine Ex.ind (p := fun x => exOk x = true → (∀ R, Soft R → LexOk (exPc x) R) ∧ flat (exPc x) = exT x) (fun x ih h => ?_) x
 have hk := exOk_kids h
 by_cases h1 : x.k = 1
 ·have e : exPc x = [(false, wd x.s)] := by rw [exPc_eq, if_pos h1]
  have h' := h
  rw [partR_1 h1, Bool.and_eq_true] at h'
  rw [e, exT_eq, if_pos h1]
  exact ⟨fun R hR => ⟨free_fits h'.1 hR, trivial⟩, by simp [flat, gG, wd]⟩
 ·by_cases h4 : x.k = 4 ∨ x.k = 5 ∨ x.k = 6
  ·have h' := h
   rw [partR_4 h4] at h'
   simp only [Bool.and_eq_true, beq_iff_eq] at h'
   obtain ⟨y, hy⟩ : ∃ y, x.kids = [y] := List.length_eq_one_iff.1 h'.1
   have py := ih y (by rw [hy]; simp) (hk y (by rw [hy]; simp))
   have e : exPc x = grpPc x.k y.k (exPc y) ++ [(false, sg [sgn x.k])] := by
    rw [exPc_eq, if_neg h1, if_neg (by omega), if_neg (by omega), exPcs_map, hy]; rfl
   have e2 : exT x = grp x.k y.k (exT y) ++ [sgn x.k] := by
    rw [exT_eq, if_neg h1, if_neg (by omega), if_neg (by omega), exTs_map, hy]; rfl
   have hcl : ([sgn x.k] : List UInt8) ∈ closedS := by rcases h4 with h | h | h <;> rw [h] <;> decide
   have hsf : signI ((sgn x.k).toNat : Int) = false := by rcases h4 with h | h | h <;> rw [h] <;> decide
   rw [e, e2]
   refine ⟨fun R hR => ?_, ?_⟩
   ·rw [LexOk_app]
    exact ⟨grp_lex _ _ py.1 _ (soft_cons hsf), sign_fits hcl _, trivial⟩
   ·rw [flat_app, grp_flat, py.2]; simp [flat, gG, sg]
  ·have h23 : x.k = 2 ∨ x.k = 3 := by
    by_cases h2 : x.k = 2
    ·exact .inl h2
    ·by_cases h3 : x.k = 3
     ·exact .inr h3
     ·rw [partR_0 h1 (by omega) h4] at h; cases h
   have h' := h
   rw [partR_2 h23] at h'
   simp only [Bool.and_eq_true, beq_iff_eq, decide_eq_true_eq] at h'
   have hne : x.kids ≠ [] := by intro e; rw [e] at h'; simp at h'
   have main : ∀ w : List UInt8, w ∈ closedS → (∀ R, Soft (w ++ R)) → (∀ R, Soft R → LexOk (joinPc (false, sg w) (x.kids.map fun y => grpPc x.k y.k (exPc y))) R) ∧ flat (joinPc (false, sg w) (x.kids.map fun y => grpPc x.k y.k (exPc y))) = join (x.kids.map fun y => grp x.k y.k (exT y)) w := fun w hw hsw => by
    refine ⟨fun R hR => join_lex (fun R => by simpa [gG, sg] using hsw R) _ R hR (fun z hz => ?_) (fun z _ R => sign_fits hw _), ?_⟩
    ·obtain ⟨y, hy, rfl⟩ := List.mem_map.1 hz
     exact grp_lex _ _ (ih y hy (hk y hy)).1
    ·have := join_flat (p := (false, sg w)) (a := []) (b := w) (pc := fun y => grpPc x.k y.k (exPc y)) (T := fun y => grp x.k y.k (exT y)) (by simp [gG, sg]) x.kids hne (fun y hy => by rw [grp_flat, (ih y hy (hk y hy)).2]; rfl)
     rw [this]; simp
   rcases h23 with h2 | h3
   ·have e : exPc x = joinPc (false, sg [46]) (x.kids.map fun y => grpPc x.k y.k (exPc y)) := by rw [exPc_eq, if_neg h1, if_pos h2, exPcs_map]
    have e2 : exT x = join (x.kids.map fun y => grp x.k y.k (exT y)) [46] := by rw [exT_eq, if_neg h1, if_pos h2, exTs_map]
    rw [e, e2]; exact main [46] (by decide) (fun R => soft_cons (by decide))
   ·have e : exPc x = joinPc (false, sg [124]) (x.kids.map fun y => grpPc x.k y.k (exPc y)) := by rw [exPc_eq, if_neg h1, if_neg (by omega), if_pos h3, exPcs_map]
    have e2 : exT x = join (x.kids.map fun y => grp x.k y.k (exT y)) [124] := by rw [exT_eq, if_neg h1, if_neg (by omega), if_pos h3, exTs_map]
    rw [e, e2]; exact main [124] (by decide) (fun R => soft_cons (by decide))
theorem toks_read {α : Type} {z : α} {rule : List Tk → PS → PR α} {s : List UInt8} {ps : List Pc} {x : α} (hl : s.length ≤ 2000) (hf : flat ps = s) (hx : LexOk ps []) (hr : ∀ l, At l 0 ps → (nth l ps.length).k = 5 → rule l ⟨0, -1⟩ = .ok ⟨ps.length, -1⟩ x) : readV z rule s = (x, 0, 0) := by
 have hn : ∀ (ps : List Pc) R, LexOk ps R → ps.length ≤ (flat ps).length := by
  intro ps
  induction ps with
  | nil => intro _ _; simp
  | cons p r ih =>
   intro R h
   have h2 := ih R h.2
   have hp : 0 < p.2.t.length := by
    rcases Nat.eq_zero_or_pos p.2.t.length with h0 | h0
    ·exfalso
     have e : p.2.t = [] := by simpa using h0
     obtain ⟨k1, k2, k3, _⟩ := h.1
     have := first_len k3 (by rw [k2]; exact k1)
     rw [k2] at this
     have h9 : (p.2.at' 0).t = p.2.t := rfl
     rw [h9, e] at this; simp at this
    ·exact h0
   simp only [List.length_cons, flat, List.length_append]; omega
 have h0 := hn ps [] hx
 have e := lex_flat ps 0 (s.length + 1) hx (by rw [← hf]; omega)
 rw [hf] at e
 obtain ⟨e3, e4⟩ := lexT_of hl (s := s) (l := toksP 0 ps) e
 have ha := at_toks ps [] 0
 have h5 := last_toks ps 0
 exact readV_ok e4 (by rw [e3]; exact hr _ ha h5) (by rw [e3]; exact h5) (by simp)
theorem expr_back {x : Ex} (h : exRight x = true) : (exT x).length ≤ 2000 ∧ readV xz wholeP (exT x) = (x, 0, 0) := by
 have h' := h
 unfold exRight at h'
 rw [Bool.and_eq_true] at h'
 have hs := of_decide_eq_true h'.1
 have hl := exT_len x h'.2
 have hx := ex_lex x h'.2
 refine ⟨by omega, toks_read (ps := exPc x) (by omega) hx.2 (hx.1 [] soft_nil) fun l ha h5 => ?_⟩
 have := whole_at (l := l) (n := 0) (m := -1) h ha (fun w hw => by
  rw [Nat.zero_add]
  unfold isN isP; simp only; rw [h5]; rfl)
 rw [Nat.zero_add] at this; exact this
/-! #### operands, conditions, patterns, queries -/
theorem vl_fits {v : Vl} (h : v.right = true) {R : List UInt8} (hR : Soft R) : Fits (vlT v) R := by
 obtain ⟨k, n, s⟩ := v
 have h0 : rightV k n s = true := h
 by_cases hk : k = 2
 ·subst hk
  have hn : n = 0 := by unfold rightV at h0; simp at h0; exact h0.1.1
  subst hn; exact txt_fits h0 R
 ·have hk1 : k = 1 := by
   unfold rightV at h0
   by_cases h1 : k = 1
   ·exact h1
   ·rw [if_neg h1, if_neg hk] at h0; cases h0
  subst hk1
  have hs : s = [] := by unfold rightV at h0; simp at h0; exact h0.1.1
  subst hs; exact num_fits h0 hR
theorem op_lex {g : Bool} {o : Opd} (h : opR o = true) : (∀ R, Soft R → LexOk (opPc g o) R) ∧ flat (opPc g o) = gG g ++ opT o := by
 by_cases h1 : o.k = 1
 ·obtain ⟨f1, _⟩ := op_1 h h1
  have ep : opPc g o = [(g, wd o.n)] := by unfold opPc; rw [if_pos h1]
  have et : opT o = o.n := by unfold opT; rw [if_pos h1]
  rw [ep, et]
  exact ⟨fun R hR => ⟨free_fits f1 hR, trivial⟩, by simp [flat, wd]⟩
 ·by_cases h2 : o.k = 2
  ·obtain ⟨f1, f2, _⟩ := op_2 h h2
   have ep : opPc g o = [(g, wd o.n), (false, sg [46]), (false, wd o.key)] := by unfold opPc; rw [if_neg h1, if_pos h2]
   have et : opT o = o.n ++ [46] ++ o.key := by unfold opT; rw [if_neg h1, if_pos h2]
   rw [ep, et]
   exact ⟨fun R hR => ⟨free_fits f1 (soft_cons (by decide)), sign_fits (by decide) _, free_fits f2 hR, trivial⟩, by simp [flat, wd, sg, gG]⟩
  ·obtain ⟨f1, _⟩ := op_3 h h1 h2
   have ep : opPc g o = [(g, vlT ⟨o.vk, o.vn, o.vs⟩)] := by unfold opPc; rw [if_neg h1, if_neg h2]
   have et : opT o = (⟨o.vk, o.vn, o.vs⟩ : Vl).shown := by unfold opT; rw [if_neg h1, if_neg h2]; unfold showT; rw [if_pos (show (⟨o.vk, o.vn, o.vs⟩ : Vl).right = true from f1)]
   rw [ep, et]
   exact ⟨fun R hR => ⟨vl_fits (v := ⟨o.vk, o.vn, o.vs⟩) f1 hR, trivial⟩, by simp [flat, vlT]⟩
theorem soft_sp (R : List UInt8) : Soft (gG true ++ R) := soft_cons (by decide)
theorem cd_lex {c : Cd} (h : cdR c = true) : (∀ R, Soft R → LexOk (cdPc true c) R) ∧ flat (cdPc true c) = [32] ++ cdT c := by
 have f := cd_f h
 have h1 := op_lex (g := true) f.l
 have h2 := op_lex (g := true) f.r
 have e : flat (cdPc true c) = [32] ++ cdT c := by
  unfold cdPc cdT
  rw [flat_app, h1.2]
  simp only [flat, h2.2]
  simp [gG, sg]
 refine ⟨fun R hR => ?_, e⟩
 unfold cdPc
 rw [LexOk_app]
 refine ⟨h1.1 _ (soft_sp _), ?_, h2.1 R hR⟩
 rw [h2.2, List.append_assoc]
 exact cmp_fits _ f.o _
theorem vx_lex {g : Bool} {w : List UInt8} (h : freeB w = true) (R : List UInt8) : LexOk (vxPc g w) R := ⟨sign_fits (by decide) _, free_fits h (soft_cons (by decide)), sign_fits (by decide) _, trivial⟩
theorem vx_flat (g : Bool) (w : List UInt8) : flat (vxPc g w) = gG g ++ ([40] ++ w ++ [41]) := by simp [vxPc, flat, gG, sg, wd]
theorem md_lex {p : Pt} (h : ptR p = true) (R : List UInt8) : LexOk (mdPc p) R ∧ flat (mdPc p) = (if p.path then [61, 91] ++ exT p.e ++ [93, 61, 62] else if p.name = [] then [45, 91] ++ p.lab ++ [93, 45, 62] else [45, 91] ++ p.lab ++ [32, 97, 115, 32] ++ p.name ++ [93, 45, 62]) := by
 unfold ptR at h
 simp only [Bool.and_eq_true] at h
 obtain ⟨h1, h2, h3⟩ := h
 unfold mdPc
 by_cases hp : p.path = true
 ·rw [if_pos hp] at h3
  simp only [Bool.and_eq_true, beq_iff_eq] at h3
  have hr := h3.2.2
  unfold exRight at hr; rw [Bool.and_eq_true] at hr
  have hx := ex_lex p.e hr.2
  rw [if_pos hp, if_pos hp]
  refine ⟨⟨sign_fits (by decide) _, ?_⟩, ?_⟩
  ·rw [LexOk_app]; exact ⟨hx.1 _ (soft_cons (by decide)), sign_fits (by decide) _, trivial⟩
  ·simp only [flat, flat_app, hx.2]; simp [gG, sg]
 ·rw [if_neg hp] at h3
  simp only [Bool.and_eq_true, Bool.or_eq_true, beq_iff_eq, decide_eq_true_eq] at h3
  obtain ⟨hl, hn, he⟩ := h3
  rw [if_neg hp, if_neg hp]
  by_cases hn0 : p.name = []
  ·have en : nmPc p.name = [] := by unfold nmPc; rw [if_pos hn0]
   rw [en, if_pos hn0]
   exact ⟨⟨sign_fits (by decide) _, free_fits hl (soft_cons (by decide)), sign_fits (by decide) _, trivial⟩, by simp [flat, gG, sg, wd]⟩
  ·have en : nmPc p.name = [(true, wd [97, 115]), (true, wd p.name)] := by unfold nmPc; rw [if_neg hn0]
   rw [en, if_neg hn0]
   exact ⟨⟨sign_fits (by decide) _, free_fits hl (soft_cons (by decide)), word_fits (by decide) (by decide) (soft_cons (by decide)), free_fits (hn.resolve_left hn0) (soft_cons (by decide)), sign_fits (by decide) _, trivial⟩, by simp [flat, gG, sg, wd]⟩
theorem pt_lex {p : Pt} (h : ptR p = true) (R : List UInt8) : LexOk (ptPc true p) R ∧ flat (ptPc true p) = [32] ++ ptT p := by
 have h' := h
 unfold ptR at h'
 simp only [Bool.and_eq_true] at h'
 obtain ⟨h1, h2, _⟩ := h'
 unfold ptPc
 refine ⟨?_, ?_⟩
 ·rw [LexOk_app, LexOk_app]
  exact ⟨vx_lex h1 _, (md_lex h _).1, vx_lex h2 _⟩
 ·rw [flat_app, flat_app, vx_flat, vx_flat, (md_lex h []).2]
  unfold ptT; simp [gG]
theorem kw_fits {w : List UInt8} (h : vertexB w = true) (h2 : letterI (w.getD 0 0).toNat = true) (R : List UInt8) : Fits (wd w) (gG true ++ R) := word_fits h h2 (soft_sp R)
theorem qu_lex {q : Qu} (h : quR q = true) : LexOk (quPc q) [] ∧ flat (quPc q) = quT q := by
 have f := qu_f h
 have h' := h
 unfold quR at h'
 simp only [Bool.and_eq_true, decide_eq_true_eq, List.all_eq_true] at h'
 obtain ⟨⟨p1, p2⟩, c2, ⟨r1, r2⟩, hra, hsl, hp, hc, hr⟩ := h'
 have hpn : q.p ≠ [] := by intro e; rw [e] at p1; simp at p1
 have hrn : q.r ≠ [] := by intro e; rw [e] at r1; simp at r1
 have n1 : rightV 1 q.range [] = true := by unfold rightV; simp; omega
 have n2 : rightV 1 q.slide [] = true := by unfold rightV; simp; omega
 have eJ := join_flat (p := (false, sg [44])) (a := [32]) (b := [44]) (pc := ptPc true) (T := ptT) (by simp [gG, sg]) q.p hpn (fun y hy => (pt_lex (hp y hy) []).2)
 have eK := join_flat (p := (false, sg [44])) (a := [32]) (b := [44]) (pc := opPc true) (T := opT) (by simp [gG, sg]) q.r hrn (fun y hy => (op_lex (hr y hy).2).2)
 have lJ : ∀ R, Soft R → LexOk (joinPc (false, sg [44]) (q.p.map (ptPc true))) R := fun R hR => join_lex (p := (false, sg [44])) (fun R => soft_cons (by decide)) _ R hR (fun z hz => by obtain ⟨y, hy, rfl⟩ := List.mem_map.1 hz; exact fun R _ => (pt_lex (hp y hy) R).1) (fun z _ R => sign_fits (by decide) _)
 have lK : ∀ R, Soft R → LexOk (joinPc (false, sg [44]) (q.r.map (opPc true))) R := fun R hR => join_lex (p := (false, sg [44])) (fun R => soft_cons (by decide)) _ R hR (fun z hz => by obtain ⟨y, hy, rfl⟩ := List.mem_map.1 hz; exact (op_lex (hr y hy).2).1) (fun z _ R => sign_fits (by decide) _)
 have eW : flat (whPc q) = pc2 q := by
  unfold whPc pc2
  by_cases hcn : q.c = []
  ·rw [if_pos hcn, if_neg (by rw [hcn]; simp)]; rfl
  ·rw [if_neg hcn, if_pos (by have := List.length_pos_iff.2 hcn; omega)]
   have := join_flat (p := (true, wd [97, 110, 100])) (a := [32]) (b := [32, 97, 110, 100]) (pc := cdPc true) (T := cdT) (by simp [gG, wd]) q.c hcn (fun y hy => (cd_lex (hc y hy)).2)
   simp only [flat, this]
   simp [gG, wd]
 have lW : ∀ R, Soft R → LexOk (whPc q) R := fun R hR => by
  unfold whPc
  by_cases hcn : q.c = []
  ·rw [if_pos hcn]; trivial
  ·rw [if_neg hcn]
   have e := join_flat (p := (true, wd [97, 110, 100])) (a := [32]) (b := [32, 97, 110, 100]) (pc := cdPc true) (T := cdT) (by simp [gG, wd]) q.c hcn (fun y hy => (cd_lex (hc y hy)).2)
   refine ⟨?_, join_lex (fun R => soft_sp _) _ R hR (fun z hz => by obtain ⟨y, hy, rfl⟩ := List.mem_map.1 hz; exact (cd_lex (hc y hy)).1) (fun z hz R => ?_)⟩
   ·rw [e, List.append_assoc]; exact kw_fits (by decide) (by decide) _
   ·obtain ⟨y, hy, rfl⟩ := List.mem_map.1 hz
    rw [(cd_lex (hc y hy)).2, List.append_assoc]; exact kw_fits (by decide) (by decide) _
 have eAll : flat (quPc q) = quT q := by
  rw [← quT_pcs f]
  unfold quPc
  simp only [flat, flat_app, eJ, eK, eW]
  unfold acT pcs pc1 pc3 pc4
  simp [gG, wd, nmT]
 refine ⟨?_, eAll⟩
 unfold quPc
 refine ⟨?_, ?_⟩
 ·rw [flat_app, eJ, List.append_assoc, List.append_assoc]; exact kw_fits (by decide) (by decide) _
 ·rw [LexOk_app, LexOk_app]
  have sW : ∀ R, Soft (flat (whPc q) ++ (gG true ++ R)) := fun R => by
   rw [eW]; unfold pc2
   split
   ·exact soft_cons (by decide)
   ·exact soft_sp R
  refine ⟨lJ _ ?_, lW _ (soft_sp _), ?_, ?_⟩
  ·rw [flat_app, List.append_assoc]
   simp only [flat, List.append_assoc]; exact sW _
  ·rw [flat_app, eK, List.append_assoc, List.append_assoc]; exact kw_fits (by decide) (by decide) _
  ·rw [LexOk_app]
   refine ⟨lK _ (soft_sp _), word_fits (by decide) (by decide) (soft_sp _), num_fits n1 (soft_sp _), word_fits (by decide) (by decide) (soft_sp _), num_fits n2 soft_nil, trivial⟩
theorem query_back {q : Qu} (h : quR q = true) (hl : (quT q).length ≤ 2000) : readV qz queryP (quT q) = (q, 0, 0) := by
 have hx := qu_lex h
 exact toks_read hl hx.2 hx.1 fun l ha _ => query_at h ha
end Go.Proofs.YtonchjamoblioaaGreatDoor
namespace Go.Proofs.YtonchjamoblioaaGreatDoor
open Go.Kin
set_option maxRecDepth 100000
set_option maxHeartbeats 0
def exS (x : Ex) : List UInt8 := if exRight x = true then exT x else []
def exE (x : Ex) : Int := if exRight x = true then 0 else 2
theorem right_ok2 {x : Ex} (h : exRight x = true) : exOk x = true ∧ x.size ≤ 24 := by
 unfold exRight at h; simp only [Bool.and_eq_true, decide_eq_true_eq] at h; exact ⟨h.2, h.1⟩
theorem xexpr_ok (x : Ex) (hfx : FitX x) : FnOK Laid Tryz.prog 18 [exD x] (.tup [sv (exS x), iv (exE x)]) := by
 refine FnOK_of laid_stable Tryz.func18 Tryz.ntmps18 rfl (by as_aux_lemma => kernel_rfl) (Nat.le_of_ble_eq_true rfl) (fun R hR => ?_)
 obtain ⟨_, b, cs, T, C⟩ := R
 obtain rfl : _ = Tryz.prog := hR.p
 refine sreg te_ok ?_
 refine sq ?_
 refine sq ?_
 apply Exec.regionL te_ok
 ·intro u' Q hQ
  simp only [go_sem]
  repeat refine ob2 ?_
  refine kcall hR.inv te_ok rfl rfl rfl rfl rfl rfl (xright_ok x hfx) ?_
  simp only [go_sem]
  repeat refine ob2 ?_
  exact hQ
 refine Exec.cond_split rfl (fun h0 => ?_) (fun h0 => ?_)
 ·refine sreg te_ok ?_
  refine Exec.rets hR te_ok rfl rfl rfl (LeX.le ?_) (.inr ⟨_, rfl⟩)
  simp only [go_sem]
  have : exRight x = false := by simpa using h0
  simp [exS, exE, this]
 ·have hr := right_ok2 (by simpa using h0 : exRight x = true)
  refine sk ?_
  refine sq ?_
  apply Exec.regionL te_ok
  ·intro u' Q hQ
   simp only [go_sem]
   repeat refine ob2 ?_
   refine kcall hR.inv te_ok rfl rfl rfl rfl rfl rfl (shown_ok' x hr.1 (by omega)) ?_
   simp only [go_sem]
   repeat refine ob2 ?_
   exact hQ
  refine Exec.rets hR te_ok rfl rfl rfl (LeX.le ?_) (.inr ⟨_, rfl⟩)
  simp only [go_sem]
  have : exRight x = true := by simpa using h0
  simp [exS, exE, this]
theorem label_ok (s : List UInt8) : FnOK Laid Tryz.prog 24 [sv s] (.ag [iv 1, sv s, .v (.slice none 0 0)]) := by
 refine FnOK_of laid_stable Tryz.func24 Tryz.ntmps24 rfl (by as_aux_lemma => kernel_rfl) (Nat.le_of_ble_eq_true rfl) (fun R hR => ?_)
 obtain ⟨_, b, cs, T, C⟩ := R
 obtain rfl : _ = Tryz.prog := hR.p
 refine sreg te_ok ?_
 refine sreg te_ok ?_
 refine Exec.rets hR te_ok rfl rfl rfl (LeX.le ?_) (.inr ⟨_, rfl⟩)
 simp only [go_sem]
theorem of_ok (k : Int) (n : Nat) (r : Nat → List D) : FnOK Laid Tryz.prog 25 [iv k, .sl 3 n n r] (.ag [iv k, sv [], .sl 3 n n r]) := by
 refine FnOK_of laid_stable Tryz.func25 Tryz.ntmps25 rfl (by as_aux_lemma => kernel_rfl) (Nat.le_of_ble_eq_true rfl) (fun R hR => ?_)
 obtain ⟨_, b, cs, T, C⟩ := R
 obtain rfl : _ = Tryz.prog := hR.p
 refine sreg te_ok ?_
 refine sreg te_ok ?_
 refine Exec.rets hR te_ok rfl rfl rfl (LeX.le ?_) (.inr ⟨_, rfl⟩)
 simp only [go_sem]
theorem good_ok  : FnOK Laid Tryz.prog 23 [] (.ag [.sl 8 1 1 (lstR [[sv [97], sv [98], bv false, sv [120], sv [101], iv 0, sv [], .v (.slice none 0 0)]]), .sl 13 1 1 (lstR [[iv 3, iv 2, sv [101], sv [107], iv 0, iv 0, sv [], iv 3, sv [], sv [], iv 1, iv 5, sv []]]), .sl 6 1 1 (lstR [[iv 1, sv [97], sv [], iv 0, iv 0, sv []]]), iv 5, iv 1]) := by
 refine FnOK_of laid_stable Tryz.func23 Tryz.ntmps23 rfl (by as_aux_lemma => kernel_rfl) (Nat.le_of_ble_eq_true rfl) (fun R hR => ?_)
 obtain ⟨_, b, cs, T, C⟩ := R
 obtain rfl : _ = Tryz.prog := hR.p
 refine sreg te_ok ?_
 refine sreg te_ok ?_
 refine sq ?_
 apply Exec.regionL te_ok
 ·intro u' Q hQ
  simp only [go_sem]
  repeat refine ob2 ?_
  refine kfreeze 5 rfl (by simp only [go_sem]; rfl) ?_
  refine kfreeze 9 rfl (by simp only [go_sem]; rfl) ?_
  refine kfreeze 11 rfl (by simp only [go_sem]; rfl) ?_
  refine runL_walk te_ok ?_
  simp only [go_sem]
  repeat refine ob2 ?_
  exact hQ
 refine Exec.rets hR te_ok rfl rfl rfl (LeX.le ?_) (.inr ⟨_, rfl⟩)
 simp only [go_sem]
end Go.Proofs.YtonchjamoblioaaGreatDoor
namespace Go.Proofs.YtonchjamoblioaaGreatDoor
open Go.Kin Go.Lib
/-! ### shown and parsed -/
theorem quE_cases (q : Qu) : (quR q = false ∧ quE q = 2) ∨ (quR q = true ∧ 2000 < (quT q).length ∧ quE q = 3) ∨ (quR q = true ∧ (quT q).length ≤ 2000 ∧ quE q = 0 ∧ quS q = quT q) := by
 unfold quE quS
 by_cases h : quR q = true
 ·rw [if_pos h, if_pos h]
  by_cases h2 : 2000 < (quT q).length
  ·rw [if_pos h2]; exact .inr (.inl ⟨h, h2, rfl⟩)
  ·rw [if_neg h2, if_neg h2]; exact .inr (.inr ⟨h, by omega, rfl, rfl⟩)
 ·rw [if_neg h]; exact .inl ⟨by simpa using h, rfl⟩
theorem sq_back {q : Qu} (h : quE q = 0) : readV qz queryP (quS q) = (q, 0, 0) ∧ (quS q).length ≤ 2000 ∧ quR q = true := by
 rcases quE_cases q with ⟨_, e⟩ | ⟨_, _, e⟩ | ⟨h1, h2, _, e⟩
 ·omega
 ·omega
 ·rw [e]; exact ⟨query_back h1 h2, h2, h1⟩
theorem exE_cases (x : Ex) : (exRight x = false ∧ exE x = 2) ∨ (exRight x = true ∧ exE x = 0 ∧ exS x = exT x) := by
 unfold exE exS
 by_cases h : exRight x = true
 ·rw [if_pos h, if_pos h]; exact .inr ⟨h, rfl, rfl⟩
 ·rw [if_neg h]; exact .inl ⟨by simpa using h, rfl⟩
theorem sx_back {x : Ex} (h : exE x = 0) : readV xz wholeP (exS x) = (x, 0, 0) ∧ (exS x).length ≤ 2000 ∧ exRight x = true := by
 rcases exE_cases x with ⟨_, e⟩ | ⟨h1, _, e⟩
 ·omega
 ·rw [e]; exact ⟨(expr_back h1).2, (expr_back h1).1, h1⟩
/-! ### a text that is shown is no longer than what was read -/
def cT (l : List Tk) (n : Nat) : Nat := sumT (l.take n)
theorem sumT_app : ∀ a b : List Tk, sumT (a ++ b) = sumT a + sumT b
 | [], b => by simp [sumT]
 | t :: a, b => by simp [sumT, sumT_app a b]; omega
theorem cT_on (l : List Tk) (n : Nat) : cT l (n + 1) = cT l n + (nth l n).t.length := by
 unfold cT
 rcases Nat.lt_or_ge n l.length with h | h
 ·rw [take_succ_nth h, sumT_app]; simp [sumT]
 ·have : nth l n = default := by simp [nth, List.getD_eq_getElem?_getD, List.getElem?_eq_none h]
  rw [this, List.take_of_length_le h, List.take_of_length_le (by omega)]; rfl
theorem cT_le (l : List Tk) (n : Nat) : cT l n ≤ sumT l := by
 unfold cT
 have := sumT_app (l.take n) (l.drop n)
 rw [List.take_append_drop] at this; omega
def LC {α : Type} (l : List Tk) (s : PS) (r : PR α) (P : α → Nat) : Prop := ∀ s1 x, r = .ok s1 x → cT l s.n + P x ≤ cT l s1.n
def wX (x : Ex) : Nat := (grp 2 x.k (exT x)).length
def vX (x : Ex) : Nat := (grp 3 x.k (exT x)).length
theorem vX_le (x : Ex) : vX x ≤ wX x := by
 unfold vX wX grp
 by_cases h3 : x.k = 3
 ·rw [if_pos (.inl h3), if_pos (.inl h3)]; exact Nat.le_refl _
 ·rw [if_neg (by omega)]; split
  ·simp; omega
  ·exact Nat.le_refl _
theorem tX_le (x : Ex) : (exT x).length ≤ vX x := by
 unfold vX grp; split
 ·simp; omega
 ·exact Nat.le_refl _
theorem wX_le (x : Ex) : wX x ≤ (exT x).length + 2 := by unfold wX; exact grp_len _ _ _
section
variable {l : List Tk} {s : PS}
theorem is_c {w : List UInt8} (h : isP l w s = true) : cT l (s.n + 1) = cT l s.n + w.length := by
 rw [cT_on]; unfold isP at h; rw [Bool.and_eq_true, beq_iff_eq] at h; rw [h.2]
theorem sgX {k : Int} (hk : k = 4 ∨ k = 5 ∨ k = 6) (x : Ex) : wX (.mk k [] [x]) ≤ wX x + 1 := by
 have e : exT (.mk k [] [x]) = grp k x.k (exT x) ++ [sgn k] := by
  rw [exT_eq, if_neg (by show ¬ k = 1; omega), if_neg (by show ¬ k = 2; omega), if_neg (by show ¬ k = 3; omega)]; rfl
 have e2 : wX (.mk k [] [x]) = (exT (.mk k [] [x])).length := by
  unfold wX grp; rw [if_neg (by show ¬ (k = 3 ∨ (k = 2 ∧ ¬ (2 : Int) = 3)); omega)]
 have e3 : (grp k x.k (exT x)).length = wX x := by
  unfold wX grp
  by_cases h3 : x.k = 3
  ·rw [if_pos (.inl h3), if_pos (.inl h3)]
  ·by_cases h2 : x.k = 2
   ·rw [if_pos (.inr ⟨h2, by omega⟩), if_pos (.inr ⟨h2, by decide⟩)]
   ·rw [if_neg (by omega), if_neg (by omega)]
 rw [e2, e, List.length_append, e3]; exact Nat.le_refl _
theorem sign_c : ∀ (f : Nat) (s : PS) (x : Ex), ∀ s1 y, signP l f s x = .ok s1 y → cT l s.n + wX y ≤ cT l s1.n + wX x
 | 0, s, x, s1, y, h => by cases h; exact Nat.le_refl _
 | f + 1, s, x, s1, y, h => by
  unfold signP at h
  split at h
  ·rename_i hp; have := sign_c f s.adv _ s1 y h; have h2 := is_c hp; have h3 := sgX (.inl rfl) x
   simp only [PS.adv, List.length_singleton] at *; omega
  ·split at h
   ·rename_i hp; have := sign_c f s.adv _ s1 y h; have h2 := is_c hp; have h3 := sgX (.inr (.inl rfl)) x
    simp only [PS.adv, List.length_singleton] at *; omega
   ·split at h
    ·rename_i hp; have := sign_c f s.adv _ s1 y h; have h2 := is_c hp; have h3 := sgX (.inr (.inr rfl)) x
     simp only [PS.adv, List.length_singleton] at *; omega
    ·cases h; exact Nat.le_refl _
def sumW (W : Ex → Nat) : List Ex → Nat
 | [] => 0
 | x :: r => W x + 1 + sumW W r
theorem sumW_app (W : Ex → Nat) : ∀ a b, sumW W (a ++ b) = sumW W a + sumW W b
 | [], b => by simp [sumW]
 | x :: a, b => by simp [sumW, sumW_app W a b]; omega
theorem sep_c {rd : PS → PR Ex} {w : List UInt8} {W : Ex → Nat} (hw : w.length = 1) (hr : ∀ s, LC l s (rd s) W) : ∀ (f : Nat) (s : PS) (acc : List Ex), ∀ s1 xs, sepP l rd w f s acc = .ok s1 xs → (cT l s.n + sumW W xs ≤ cT l s1.n + 1 + sumW W acc) ∧ 0 < xs.length
 | 0, s, acc, s1, xs, h => by cases h
 | f + 1, s, acc, s1, xs, h => by
  obtain ⟨t1, x, g1, h⟩ := bind_ok h
  have a1 := hr s _ _ g1
  have ea : sumW W (acc ++ [x]) = sumW W acc + (W x + 1) := by rw [sumW_app]; simp [sumW]
  split at h
  ·rename_i hp
   have a2 := sep_c hw hr f _ _ _ _ h
   have h2 := is_c hp
   simp only [PS.adv] at a2
   rw [hw] at h2
   refine ⟨by omega, a2.2⟩
  ·cases h
   exact ⟨by omega, by simp⟩
theorem sumL_W (T : Ex → List UInt8) : ∀ xs : List Ex, sumL 1 (xs.map T) = sumW (fun x => (T x).length) xs
 | [] => rfl
 | x :: r => by simp only [List.map_cons, sumL, sumW, sumL_W T r]
theorem join_sum (T : Ex → List UInt8) (c : UInt8) : ∀ xs : List Ex, 0 < xs.length → (join (xs.map T) [c]).length + 1 = sumW (fun x => (T x).length) xs
 | [], h => by simp at h
 | x :: r, _ => by
  rw [List.map_cons, join_cons, List.length_append, tail_len]
  have := sumL_W T r
  simp only [List.length_singleton, sumW] at this ⊢
  omega
theorem join_c {rd : PS → PR Ex} {w : List UInt8} {k : Int} {W : Ex → Nat} (hw : w.length = 1) (hk : k = 2 ∧ W = wX ∨ k = 3 ∧ W = vX) (hr : ∀ s, LC l s (rd s) W) : LC l s (joinP l rd w k s) (fun x => if k = 2 then vX x else (exT x).length) := by
 intro s1 y e
 obtain ⟨s2, xs, e1, e2⟩ := bind_ok e
 obtain ⟨h1, h2⟩ := sep_c hw hr _ _ _ _ _ e1
 cases e2
 simp only [sumW] at h1
 unfold oneEx
 by_cases hl : xs.length = 1
 ·rw [if_pos hl]
  obtain ⟨x, rfl⟩ : ∃ x, xs = [x] := List.length_eq_one_iff.1 hl
  show cT l s.n + (if k = 2 then vX x else (exT x).length) ≤ _
  rcases hk with ⟨rfl, rfl⟩ | ⟨rfl, rfl⟩
  ·rw [if_pos rfl]; have := vX_le x; simp only [sumW] at h1; omega
  ·rw [if_neg (by decide)]; have := tX_le x; simp only [sumW] at h1; omega
 ·rw [if_neg hl]
  rcases hk with ⟨rfl, rfl⟩ | ⟨rfl, rfl⟩
  ·show cT l s.n + vX (.mk 2 [] xs) ≤ _
   have e3 : vX (.mk 2 [] xs) = (exT (.mk 2 [] xs)).length := by unfold vX grp; rw [if_neg (by show ¬ ((2 : Int) = 3 ∨ ((2 : Int) = 2 ∧ ¬ (3 : Int) = 3)); decide)]
   have e4 : exT (.mk 2 [] xs) = join (xs.map fun y => grp 2 y.k (exT y)) [46] := by rw [exT_eq, if_neg (by show ¬ (2 : Int) = 1; decide), if_pos (show (Ex.mk 2 [] xs).k = 2 from rfl), exTs_map]; rfl
   have := join_sum (fun y => grp 2 y.k (exT y)) 46 xs h2
   rw [e3, e4]
   have e5 : sumW wX xs = sumW (fun y => (grp 2 y.k (exT y)).length) xs := rfl
   omega
  ·show cT l s.n + (exT (.mk 3 [] xs)).length ≤ _
   have e4 : exT (.mk 3 [] xs) = join (xs.map fun y => grp 3 y.k (exT y)) [124] := by rw [exT_eq, if_neg (by show ¬ (3 : Int) = 1; decide), if_neg (by show ¬ (3 : Int) = 2; decide), if_pos (show (Ex.mk 3 [] xs).k = 3 from rfl), exTs_map]; rfl
   have := join_sum (fun y => grp 3 y.k (exT y)) 124 xs h2
   rw [e4]
   have e5 : sumW vX xs = sumW (fun y => (grp 3 y.k (exT y)).length) xs := rfl
   omega
theorem expr_c {it : PS → PR Ex} (hr : ∀ s, LC l s (it s) wX) : LC l s (exprP l it s) (fun x => (exT x).length) :=
 join_c (k := 3) rfl (.inr ⟨rfl, rfl⟩) fun s => join_c (k := 2) rfl (.inl ⟨rfl, rfl⟩) hr
theorem item_c : ∀ (f : Nat) (s : PS), LC l s (itemP l f s) wX
 | 0, s => fun s1 x e => by cases e
 | f + 1, s => by
  intro s1 y e
  unfold itemP at e
  split at e
  ·rename_i hp
   obtain ⟨s2, x, e1, e⟩ := bind_ok e
   obtain ⟨s3, _, e2, e⟩ := bind_ok e
   have h1 := is_c hp
   have h2 := expr_c (item_c f) _ _ e1
   have h3 := sign_c _ _ _ _ _ e
   have h4 := wX_le x
   unfold mustP at e2
   split at e2
   ·rename_i hp2
    have h5 := is_c hp2
    cases e2
    simp only [PS.adv, List.length_singleton] at *; omega
   ·cases e2
  ·obtain ⟨s2, w, e1, e⟩ := bind_ok e
   have h3 := sign_c _ _ _ _ _ e
   unfold nameP at e1
   split at e1
   ·cases e1
    have h5 := cT_on l s.n
    have : wX (.mk 1 (nth l s.n).t []) = (nth l s.n).t.length := by
     unfold wX grp; rw [if_neg (by show ¬ ((1 : Int) = 3 ∨ ((1 : Int) = 2 ∧ ¬ (2 : Int) = 3)); decide), exT_eq, if_pos (show (Ex.mk 1 (nth l s.n).t []).k = 1 from rfl)]; rfl
    simp only [PS.adv] at *; omega
   ·cases e1
end
theorem expr_short {s : List UInt8} (h : (readV xz wholeP s).2.2 = 0) : (exT (readV xz wholeP s).1).length ≤ s.length := by
 by_cases hE : lexE s = 0
 ·have x := lxT hE
  rcases readV_cases (rule := wholeP) xz hE with ⟨a, e, r⟩ | ⟨s1, y, e, hk, r⟩ | ⟨s1, y, e, hk, hm, r⟩ | ⟨s1, y, e, hk, hm, r⟩
  ·rw [r] at h; simp at h
  ·rw [r] at h; simp at h
  ·rw [r] at h; simp at h
  ·rw [r]
   unfold wholeP exP at e
   obtain ⟨s2, y2, e1, e2⟩ := bind_ok e
   cases e2
   have h1 := expr_c (item_c (l := lexT s) _) _ _ e1
   have h2 := cT_le (lexT s) s2.n
   have h3 := x.sum
   have h4 : cT (lexT s) 0 = 0 := rfl
   simp only at h1 ⊢; omega
 ·rw [readV_no hE] at h; exact absurd h hE
end Go.Proofs.YtonchjamoblioaaGreatDoor
namespace Go.Proofs.YtonchjamoblioaaGreatDoor
open Go.Kin
set_option maxRecDepth 100000
set_option maxHeartbeats 0
theorem row1 {a : List D} {x : Ex} (h1 : LeDs a (exC x)) : LeD (.sl 3 1 1 (lstR [a])) (exsD [x]) := LeD.rows fun i hi => by
 obtain rfl : i = 0 := by omega
 rw [kdR_at (by simp)]
 exact ⟨h1, exD_lf x⟩
theorem row2 {a c : List D} {x y : Ex} (h1 : LeDs a (exC x)) (h2 : LeDs c (exC y)) : LeD (.sl 3 2 2 (lstR [a, c])) (exsD [x, y]) := LeD.rows fun i hi => by
 rcases (show i = 0 ∨ i = 1 by omega) with rfl | rfl
 ·rw [kdR_at (by simp)]; exact ⟨h1, exD_lf x⟩
 ·rw [kdR_at (by simp)]; exact ⟨h2, exD_lf y⟩
theorem lab_le (s : List UInt8) : LeDs [iv 1, sv s, .v (.slice none 0 0)] (exC (.mk 1 s [])) := ⟨LeD.refl _, LeD.refl _, by rw [kd_eq]; exact LeD.nil 3 _, trivial⟩
theorem node_le {k : Int} {l : List Ex} {d : D} (h : LeD d (exsD l)) : LeDs [iv k, sv [], d] (exC (.mk k [] l)) := ⟨LeD.refl _, LeD.refl _, by rw [kd_eq]; exact h, trivial⟩
def awE : Ex := .mk 2 [] [.mk 4 [] [.mk 3 [] [.mk 1 [120] [], .mk 1 [121] []]], .mk 1 [122] []]
theorem awE_fit : FitX awE := by
 have l : ∀ s : List UInt8, s.length ≤ 10 → FitX (.mk 1 s []) := fun s h => .mk (by show s.length ≤ _; omega) (by simp [Ex.kids]) (by simp [Ex.kids])
 refine .mk (by simp [awE, Ex.s]) (by simp [awE, Ex.kids]) fun y hy => ?_
 simp [awE, Ex.kids] at hy
 rcases hy with rfl | rfl
 ·refine .mk (by simp [Ex.s]) (by simp [Ex.kids]) fun y hy => ?_
  simp [Ex.kids] at hy; subst hy
  refine .mk (by simp [Ex.s]) (by simp [Ex.kids]) fun y hy => ?_
  simp [Ex.kids] at hy
  rcases hy with rfl | rfl <;> exact l _ (by simp)
 ·exact l _ (by simp)
theorem awE_S : exS awE = [40, 120, 124, 121, 41, 42, 46, 122] := by decide
theorem awE_E : exE awE = 0 := by decide
theorem awE_ok : FnOK Laid Tryz.prog 18 [.ag [iv 2, sv [], .sl 3 2 2 (lstR [[iv 4, sv [], .sl 3 1 1 (lstR [[iv 3, sv [], .sl 3 2 2 (lstR [[iv 1, sv [120], .v (.slice none 0 0)], [iv 1, sv [121], .v (.slice none 0 0)]])]])], [iv 1, sv [122], .v (.slice none 0 0)]])]] (.tup [sv [40, 120, 124, 121, 41, 42, 46, 122], iv 0]) := by
 have h := xexpr_ok awE awE_fit
 rw [awE_S, awE_E] at h
 exact FnOK.args h ⟨LeD.ag (node_le (row2 (node_le (row1 (node_le (row2 (lab_le _) (lab_le _))))) (lab_le _))), trivial⟩
def gq : Qu := ⟨[⟨[97], [98], false, [120], [101], zEx⟩], [⟨3, ⟨2, [101], [107], 0, 0, []⟩, ⟨3, [], [], 1, 5, []⟩⟩], [⟨1, [97], [], 0, 0, []⟩], 5, 1⟩
theorem itoa1 : Lib.itoa 1 = [49] := by
 have : Lib.decDigits 1 = [49] := by rw [Lib.decDigits, dif_pos (by omega)]; rfl
 unfold Lib.itoa; rw [if_neg (by decide)]; exact this
theorem itoa5 : Lib.itoa 5 = [53] := by
 have : Lib.decDigits 5 = [53] := by rw [Lib.decDigits, dif_pos (by omega)]; rfl
 unfold Lib.itoa; rw [if_neg (by decide)]; exact this
theorem gq_R : quR gq = true := by
 have e1 : ptR ⟨[97], [98], false, [120], [101], zEx⟩ = true := by
  unfold ptR
  rw [show freeB [97] = true from by decide, show freeB [98] = true from by decide, show freeB [120] = true from by decide, show freeB [101] = true from by decide]
  simp
 have e2 : cdR ⟨3, ⟨2, [101], [107], 0, 0, []⟩, ⟨3, [], [], 1, 5, []⟩⟩ = true := by decide
 have e3 : opR ⟨1, [97], [], 0, 0, []⟩ = true := by decide
 unfold quR gq
 simp [e1, e2, e3]
theorem gq_fit : FitQ gq := by
 refine ⟨by simp [gq], by simp [gq], by simp [gq], fun p hp => ?_, fun c hc => ?_, fun o ho => ?_⟩
 ·simp [gq] at hp; subst hp
  exact ⟨by simp, by simp, by simp, by simp, .mk (by simp [Ex.s]) (by simp [Ex.kids]) (by simp [Ex.kids]), by simp [Ex.size_eq, Ex.kids, Ex.sizes]⟩
 ·simp [gq] at hc; subst hc
  exact ⟨⟨by simp, by simp, by simp⟩, ⟨by simp, by simp, by simp⟩⟩
 ·simp [gq] at ho; subst ho
  exact ⟨by simp, by simp, by simp⟩
theorem gq_T : quT gq = [109, 97, 116, 99, 104, 32, 40, 97, 41, 45, 91, 120, 32, 97, 115, 32, 101, 93, 45, 62, 40, 98, 41, 32, 119, 104, 101, 114, 101, 32, 101, 46, 107, 32, 60, 32, 53, 32, 114, 101, 116, 117, 114, 110, 32, 97, 32, 114, 97, 110, 103, 101, 32, 53, 32, 115, 108, 105, 100, 101, 32, 49] := by
 have e1 : showT ⟨1, 5, []⟩ = [53] := by
  have : Vl.right ⟨1, 5, []⟩ = true := by decide
  unfold showT; rw [if_pos this]; unfold Vl.shown shownV; rw [if_neg (by decide)]; exact itoa5
 have e2 : opT ⟨3, [], [], 1, 5, []⟩ = [53] := by unfold opT; rw [if_neg (by decide), if_neg (by decide)]; exact e1
 have e3 : cdT ⟨3, ⟨2, [101], [107], 0, 0, []⟩, ⟨3, [], [], 1, 5, []⟩⟩ = [101, 46, 107, 32, 60, 32, 53] := by unfold cdT; rw [e2]; decide
 unfold quT txR txC txP gq
 simp only [List.map_cons, List.map_nil, e3, itoa1, itoa5]
 decide
theorem gq_S : quS gq = [109, 97, 116, 99, 104, 32, 40, 97, 41, 45, 91, 120, 32, 97, 115, 32, 101, 93, 45, 62, 40, 98, 41, 32, 119, 104, 101, 114, 101, 32, 101, 46, 107, 32, 60, 32, 53, 32, 114, 101, 116, 117, 114, 110, 32, 97, 32, 114, 97, 110, 103, 101, 32, 53, 32, 115, 108, 105, 100, 101, 32, 49] := by
 unfold quS; rw [if_pos gq_R, gq_T, if_neg (by decide)]
theorem gq_E : quE gq = 0 := by
 unfold quE; rw [if_pos gq_R, gq_T, if_neg (by decide)]
theorem gq_ok : FnOK Laid Tryz.prog 16 [.ag [.sl 8 1 1 (lstR [[sv [97], sv [98], bv false, sv [120], sv [101], iv 0, sv [], .v (.slice none 0 0)]]), .sl 13 1 1 (lstR [[iv 3, iv 2, sv [101], sv [107], iv 0, iv 0, sv [], iv 3, sv [], sv [], iv 1, iv 5, sv []]]), .sl 6 1 1 (lstR [[iv 1, sv [97], sv [], iv 0, iv 0, sv []]]), iv 5, iv 1]] (.tup [sv [109, 97, 116, 99, 104, 32, 40, 97, 41, 45, 91, 120, 32, 97, 115, 32, 101, 93, 45, 62, 40, 98, 41, 32, 119, 104, 101, 114, 101, 32, 101, 46, 107, 32, 60, 32, 53, 32, 114, 101, 116, 117, 114, 110, 32, 97, 32, 114, 97, 110, 103, 101, 32, 53, 32, 115, 108, 105, 100, 101, 32, 49], iv 0]) := by
 have h := xquery_ok gq gq_fit
 rw [gq_S, gq_E] at h
 refine FnOK.args h ⟨LeD.ag ⟨LeD.rows fun i hi => ?_, LeD.slice (Nat.le_refl _) (Nat.le_refl _) fun i hi => ?_, LeD.slice (Nat.le_refl _) (Nat.le_refl _) fun i hi => ?_, LeD.refl _, LeD.refl _, trivial⟩, trivial⟩
 ·obtain rfl : i = 0 := by simp [gq] at hi; omega
  exact ⟨⟨LeD.refl _, LeD.refl _, LeD.refl _, LeD.refl _, LeD.refl _, LeD.refl _, LeD.refl _, (by show LeD _ (kdX zEx); rw [kd_eq]; exact LeD.nil 3 _), trivial⟩, ptC_lf _⟩
 ·obtain rfl : i = 0 := by simp [gq] at hi; omega
  rfl
 ·obtain rfl : i = 0 := by simp [gq] at hi; omega
  rfl
theorem awake_ok  : FnOK Laid Tryz.prog 13 [] (bv true) := by
 refine FnOK_of laid_stable Tryz.func13 Tryz.ntmps13 rfl (by as_aux_lemma => kernel_rfl) (Nat.le_of_ble_eq_true rfl) (fun R hR => ?_)
 obtain ⟨_, b, cs, T, C⟩ := R
 obtain rfl : _ = Tryz.prog := hR.p
 refine sreg te_ok ?_
 refine sq ?_
 apply Exec.regionL te_ok
 ·intro u' Q hQ
  simp only [go_sem]
  repeat refine ob2 ?_
  refine kcall hR.inv te_ok rfl rfl rfl rfl rfl rfl (label_ok _) ?_
  simp only [go_sem]
  repeat refine ob2 ?_
  refine kcall hR.inv te_ok rfl rfl rfl rfl rfl rfl (label_ok _) ?_
  simp only [go_sem]
  repeat refine ob2 ?_
  refine kfreeze 8 rfl (by simp only [go_sem]; rfl) ?_
  refine kcall hR.inv te_ok rfl rfl rfl rfl rfl rfl (of_ok _ _ _) ?_
  simp only [go_sem]
  repeat refine ob2 ?_
  refine kfreeze 10 rfl (by simp only [go_sem]; rfl) ?_
  refine kcall hR.inv te_ok rfl rfl rfl rfl rfl rfl (of_ok _ _ _) ?_
  simp only [go_sem]
  repeat refine ob2 ?_
  refine kcall hR.inv te_ok rfl rfl rfl rfl rfl rfl (label_ok _) ?_
  simp only [go_sem]
  repeat refine ob2 ?_
  refine kfreeze 13 rfl (by simp only [go_sem]; rfl) ?_
  refine kcall hR.inv te_ok rfl rfl rfl rfl rfl rfl (of_ok _ _ _) ?_
  simp only [go_sem]
  repeat refine ob2 ?_
  refine kcall hR.inv te_ok rfl rfl rfl rfl rfl rfl (awE_ok) ?_
  simp only [go_sem]
  repeat refine ob2 ?_
  exact hQ
 refine sq ?_
 apply Exec.regionL te_ok
 ·intro u' Q hQ
  simp only [go_sem]
  repeat refine ob2 ?_
  refine kcall hR.inv te_ok rfl rfl rfl rfl rfl rfl (good_ok) ?_
  simp only [go_sem]
  repeat refine ob2 ?_
  refine kcall hR.inv te_ok rfl rfl rfl rfl rfl rfl (gq_ok) ?_
  simp only [go_sem]
  repeat refine ob2 ?_
  exact hQ
 refine sreg te_ok ?_
 refine Exec.rets hR te_ok rfl rfl rfl (LeX.le ?_) (.inr ⟨_, rfl⟩)
 simp only [go_sem]
end Go.Proofs.YtonchjamoblioaaGreatDoor
namespace Go.Proofs.YtonchjamoblioaaGreatDoor
open Go.Kin
set_option maxRecDepth 100000
set_option maxHeartbeats 0
structure RawP (p : Pt) : Prop where
 a : p.a.length ≤ 140737488355328
 z : p.z.length ≤ 140737488355328
 lab : p.lab.length ≤ 140737488355328
 name : p.name.length ≤ 140737488355328
 e : FitX p.e
structure RawQ (q : Qu) : Prop where
 p : q.p.length ≤ 140737488355328
 c : q.c.length ≤ 140737488355328
 r : q.r.length ≤ 140737488355328
 pa : ∀ p ∈ q.p, RawP p
 ca : ∀ c ∈ q.c, FitC c
 ra : ∀ o ∈ q.r, FitO o
end Go.Proofs.YtonchjamoblioaaGreatDoor
namespace Go.Kin
end Go.Kin
