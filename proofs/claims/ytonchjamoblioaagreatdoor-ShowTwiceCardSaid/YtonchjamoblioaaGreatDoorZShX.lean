/- Steps of a function body on data, and contracts of the functions of the seat, walked. -/
import Derived.Test.YtonchjamoblioaaGreatDoorQE
import Derived.Test.YtonchjamoblioaaGreatDoorZ10
import Derived.Test.YtonchjamoblioaaGreatDoorZ1
import Derived.Test.YtonchjamoblioaaGreatDoorVDef
import Derived.Shelf.Strings.Prefix
import Derived.Shelf.Strings.Fields
import Derived.Shelf.Strconv.ErrVarAll
set_option linter.unusedSimpArgs false
set_option linter.unusedVariables false
set_option linter.unusedSectionVars false
namespace Go.Proofs.YtonchjamoblioaaGreatDoor
open Go.Kin
/-! ### queries, as tokens: parsed, they are the same -/
def vlT (v : Vl) : Tk := ⟨if v.k = 2 then 3 else 2, v.shown, 0, v⟩
def nmT (n : Int) : Tk := ⟨2, Lib.itoa n, 0, ⟨1, n, []⟩⟩
def opPc (g : Bool) (o : Opd) : List Pc := if o.k = 1 then [(g, wd o.n)] else if o.k = 2 then [(g, wd o.n), (false, sg [46]), (false, wd o.key)] else [(g, vlT ⟨o.vk, o.vn, o.vs⟩)]
def cdPc (g : Bool) (c : Cd) : List Pc := opPc g c.l ++ (true, sg (opS c.op)) :: opPc true c.r
def vxPc (g : Bool) (w : List UInt8) : List Pc := [(g, sg [40]), (false, wd w), (false, sg [41])]
def nmPc (w : List UInt8) : List Pc := if w = [] then [] else [(true, wd [97, 115]), (true, wd w)]
def mdPc (p : Pt) : List Pc := if p.path = true then (false, sg [61, 91]) :: (exPc p.e ++ [(false, sg [93, 61, 62])]) else (false, sg [45, 91]) :: (false, wd p.lab) :: (nmPc p.name ++ [(false, sg [93, 45, 62])])
def ptPc (g : Bool) (p : Pt) : List Pc := vxPc g p.a ++ (mdPc p ++ vxPc false p.z)
def whPc (q : Qu) : List Pc := if q.c = [] then [] else (true, wd [119, 104, 101, 114, 101]) :: joinPc (true, wd [97, 110, 100]) (q.c.map (cdPc true))
def quPc (q : Qu) : List Pc := (false, wd [109, 97, 116, 99, 104]) :: (joinPc (false, sg [44]) (q.p.map (ptPc true)) ++ (whPc q ++ (true, wd [114, 101, 116, 117, 114, 110]) :: (joinPc (false, sg [44]) (q.r.map (opPc true)) ++ [(true, wd [114, 97, 110, 103, 101]), (true, nmT q.range), (true, wd [115, 108, 105, 100, 101]), (true, nmT q.slide)])))
theorem op_1 {o : Opd} (h : opR o = true) (hk : o.k = 1) : freeB o.n = true ∧ o = ⟨1, o.n, [], 0, 0, []⟩ := by
 unfold opR at h
 rw [if_pos hk] at h
 simp only [Bool.and_eq_true, beq_iff_eq] at h
 obtain ⟨k, n, key, vk, vn, vs⟩ := o
 simp only at *
 obtain ⟨h1, rfl, rfl, rfl, rfl⟩ := h
 subst hk; exact ⟨h1, rfl⟩
theorem op_2 {o : Opd} (h : opR o = true) (hk : o.k = 2) : freeB o.n = true ∧ freeB o.key = true ∧ o = ⟨2, o.n, o.key, 0, 0, []⟩ := by
 unfold opR at h
 rw [if_neg (by omega), if_pos hk] at h
 simp only [Bool.and_eq_true, beq_iff_eq] at h
 obtain ⟨k, n, key, vk, vn, vs⟩ := o
 simp only at *
 obtain ⟨h1, h2, rfl, rfl, rfl⟩ := h
 subst hk; exact ⟨h1, h2, rfl⟩
theorem op_3 {o : Opd} (h : opR o = true) (h1 : o.k ≠ 1) (h2 : o.k ≠ 2) : rightV o.vk o.vn o.vs = true ∧ o = ⟨3, [], [], o.vk, o.vn, o.vs⟩ := by
 unfold opR at h
 rw [if_neg h1, if_neg h2] at h
 by_cases h3 : o.k = 3
 ·rw [if_pos h3] at h
  simp only [Bool.and_eq_true, beq_iff_eq] at h
  obtain ⟨k, n, key, vk, vn, vs⟩ := o
  simp only at *
  obtain ⟨rfl, rfl, h⟩ := h
  subst h3; exact ⟨h, rfl⟩
 ·rw [if_neg h3] at h; cases h
section
variable {l : List Tk} {n : Nat} {m : Int} {g : Bool} {r : List Pc}
theorem told_at {o : Opd} (h : opR o = true) (h3 : o.k ≠ 3) (ha : At l n (opPc g o)) (hs : isN l [46] (n + (opPc g o).length) = false) : toldP l ⟨n, m⟩ = .ok ⟨n + (opPc g o).length, m⟩ o := by
 by_cases h1 : o.k = 1
 ·obtain ⟨f1, e⟩ := op_1 h h1
  have ep : opPc g o = [(g, wd o.n)] := by unfold opPc; rw [if_pos h1]
  rw [ep] at ha hs ⊢
  unfold toldP
  rw [name_yes ha f1]
  simp only [PR.bind]
  rw [isP_N, if_neg (by rw [show (⟨n + 1, m⟩ : PS).n = n + [(g, wd o.n)].length from rfl, hs]; decide), ← e]; rfl
 ·by_cases h2 : o.k = 2
  ·obtain ⟨f1, f2, e⟩ := op_2 h h2
   have ep : opPc g o = [(g, wd o.n), (false, sg [46]), (false, wd o.key)] := by unfold opPc; rw [if_neg h1, if_pos h2]
   rw [ep] at ha hs ⊢
   unfold toldP
   rw [name_yes ha f1]
   simp only [PR.bind]
   rw [isP_N, if_pos (by rw [at_sg ha.2]; decide)]
   show ((nameP l ⟨n + 1 + 1, m⟩).bind _) = _
   rw [name_yes ha.2.2 f2]
   simp only [PR.bind]
   rw [← e]; rfl
  ·have := op_3 h h1 h2
   rw [this.2] at h3; exact absurd rfl h3
theorem opd_at {o : Opd} (h : opR o = true) (ha : At l n (opPc g o)) (hs : isN l [46] (n + (opPc g o).length) = false) : opdP l ⟨n, m⟩ = .ok ⟨n + (opPc g o).length, m⟩ o := by
 by_cases h3 : o.k = 3
 ·obtain ⟨f1, e⟩ := op_3 h (by omega) (by omega)
  have ep : opPc g o = [(g, vlT ⟨o.vk, o.vn, o.vs⟩)] := by unfold opPc; rw [if_neg (by omega), if_neg (by omega)]
  rw [ep] at ha ⊢
  have hb : opdB l ⟨n, m⟩ = true := by
   unfold opdB; simp only; rw [ha.1.1]; simp only [vlT]
   by_cases hk : o.vk = 2 <;> simp [hk]
  unfold opdP
  rw [if_pos hb]
  simp only
  rw [ha.1.2.2]
  simp only [vlT]
  rw [← e]; rfl
 ·have hb : opdB l ⟨n, m⟩ = false := by
   have hk : (nth l n).k = 1 := by
    by_cases h1 : o.k = 1
    ·have ep : opPc g o = [(g, wd o.n)] := by unfold opPc; rw [if_pos h1]
     rw [ep] at ha; exact ha.1.1
    ·by_cases h2 : o.k = 2
     ·have ep : opPc g o = [(g, wd o.n), (false, sg [46]), (false, wd o.key)] := by unfold opPc; rw [if_neg h1, if_pos h2]
      rw [ep] at ha; exact ha.1.1
     ·have := op_3 h h1 h2
      rw [this.2] at h3; exact absurd rfl h3
   unfold opdB; simp only; rw [hk]; rfl
  unfold opdP
  rw [if_neg (by rw [hb]; decide)]
  exact told_at h h3 ha hs
theorem cmp_at {a z : Opd} {k : Int} (hk : 1 ≤ k ∧ k ≤ 6) (hz : opR z = true) (ha : At l n ((true, sg (opS k)) :: opPc true z)) (hs : isN l [46] (n + 1 + (opPc true z).length) = false) : cmpP l a ⟨n, m⟩ 0 cmpsW = .ok ⟨n + 1 + (opPc true z).length, m⟩ ⟨k, a, z⟩ := by
 have e := at_sg ha
 have go : ((opdP l ⟨n + 1, m⟩) : PR Opd) = .ok ⟨n + 1 + (opPc true z).length, m⟩ z := opd_at hz ha.2 hs
 have : k = 1 ∨ k = 2 ∨ k = 3 ∨ k = 4 ∨ k = 5 ∨ k = 6 := by omega
 unfold cmpsW
 rcases this with rfl | rfl | rfl | rfl | rfl | rfl <;> simp only [cmpP, isP_N, e] <;> (
  first
  | (rw [if_pos (by decide)]; show ((opdP l ⟨n + 1, m⟩).bind _) = _; rw [go]; rfl)
  | (rw [if_neg (by decide), if_pos (by decide)]; show ((opdP l ⟨n + 1, m⟩).bind _) = _; rw [go]; rfl)
  | (rw [if_neg (by decide), if_neg (by decide), if_pos (by decide)]; show ((opdP l ⟨n + 1, m⟩).bind _) = _; rw [go]; rfl)
  | (rw [if_neg (by decide), if_neg (by decide), if_neg (by decide), if_pos (by decide)]; show ((opdP l ⟨n + 1, m⟩).bind _) = _; rw [go]; rfl)
  | (rw [if_neg (by decide), if_neg (by decide), if_neg (by decide), if_neg (by decide), if_pos (by decide)]; show ((opdP l ⟨n + 1, m⟩).bind _) = _; rw [go]; rfl)
  | (rw [if_neg (by decide), if_neg (by decide), if_neg (by decide), if_neg (by decide), if_neg (by decide), if_pos (by decide)]; show ((opdP l ⟨n + 1, m⟩).bind _) = _; rw [go]; rfl))
theorem opS_dot (k : Int) : (opS k == [46]) = false := by
 unfold opS; repeat' split
 all_goals decide
theorem cd_at {c : Cd} (h : cdR c = true) (ha : At l n (cdPc g c)) (hs : isN l [46] (n + (cdPc g c).length) = false) : cdP l ⟨n, m⟩ = .ok ⟨n + (cdPc g c).length, m⟩ c := by
 unfold cdR at h
 simp only [Bool.and_eq_true, decide_eq_true_eq] at h
 unfold cdPc at ha hs ⊢
 obtain ⟨h1, h2⟩ := (At_app _ _ _).1 ha
 have el : n + (opPc g c.l ++ (true, sg (opS c.op)) :: opPc true c.r).length = n + (opPc g c.l).length + 1 + (opPc true c.r).length := by simp; omega
 rw [el] at hs ⊢
 unfold cdP
 rw [opd_at h.2.2.1 h1 (by rw [at_sg h2]; exact opS_dot _)]
 simp only [PR.bind]
 exact cmp_at ⟨h.1, h.2.1⟩ h.2.2.2 h2 hs
theorem vx_at {w : List UInt8} (hw : freeB w = true) (ha : At l n (vxPc g w)) : vertexP l ⟨n, m⟩ = .ok ⟨n + 3, m⟩ w := by
 unfold vertexP
 rw [must_yes (by rw [at_sg ha]; decide)]
 simp only [PR.bind]
 rw [name_yes ha.2 hw]
 simp only [PR.bind]
 rw [must_yes (by rw [at_sg ha.2.2]; decide)]
theorem stp_one {v : List UInt8} (e : ∀ w, isN l w n = (v == w)) {S : List (List UInt8)} (h : ∀ w ∈ S, (v == w) = false) : Stp l n S := fun w hw => by rw [e]; exact h w hw
theorem pat_at {p : Pt} (h : ptR p = true) (ha : At l n (ptPc g p)) : patP l ⟨n, m⟩ = .ok ⟨n + (ptPc g p).length, m⟩ p := by
 unfold ptR at h
 simp only [Bool.and_eq_true] at h
 obtain ⟨ha1, ha2, h3⟩ := h
 unfold ptPc at ha ⊢
 obtain ⟨a1, ha⟩ := (At_app _ _ _).1 ha
 obtain ⟨a2, a3⟩ := (At_app _ _ _).1 ha
 have e3 : ∀ (gg : Bool) w, (vxPc gg w).length = 3 := fun _ _ => rfl
 have el : n + (vxPc g p.a ++ (mdPc p ++ vxPc false p.z)).length = n + 3 + (mdPc p).length + 3 := by simp only [List.length_append, e3]; omega
 rw [e3] at a2 a3
 rw [el]
 unfold patP
 rw [vx_at ha1 a1]
 simp only [PR.bind]
 by_cases hp : p.path = true
 ·rw [if_pos hp] at h3
  simp only [Bool.and_eq_true, beq_iff_eq] at h3
  have em : mdPc p = (false, sg [61, 91]) :: (exPc p.e ++ [(false, sg [93, 61, 62])]) := by unfold mdPc; rw [if_pos hp]
  rw [em] at a2 a3 ⊢
  rw [isP_N, if_pos (by rw [at_sg a2]; decide)]
  obtain ⟨b1, b2⟩ := (At_app _ _ _).1 a2.2
  show ((wholeP l ⟨n + 3 + 1, m⟩).bind _) = _
  rw [whole_at h3.2.2 b1 (stp_one (at_sg b2) (by decide))]
  simp only [PR.bind]
  rw [must_yes (by rw [at_sg b2]; decide)]
  simp only [PR.bind]
  have el2 : n + 3 + ((false, sg [61, 91]) :: (exPc p.e ++ [(false, sg [93, 61, 62])])).length = n + 3 + 1 + (exPc p.e).length + 1 := by simp; omega
  rw [el2] at a3 ⊢
  rw [vx_at ha2 a3]
  simp only [PR.bind]
  obtain ⟨pa, pz, pp, pl, pn, pe⟩ := p
  simp only at *
  rw [hp, h3.1, h3.2.1]
 ·rw [if_neg hp] at h3
  simp only [Bool.and_eq_true, Bool.or_eq_true, beq_iff_eq, decide_eq_true_eq] at h3
  obtain ⟨hl, hn, he⟩ := h3
  have em : mdPc p = (false, sg [45, 91]) :: (false, wd p.lab) :: (nmPc p.name ++ [(false, sg [93, 45, 62])]) := by unfold mdPc; rw [if_neg hp]
  rw [em] at a2 a3 ⊢
  rw [isP_N, if_neg (by rw [at_sg a2]; decide), must_yes (by rw [at_sg a2]; decide)]
  simp only [PR.bind]
  rw [name_yes a2.2 hl]
  simp only [PR.bind]
  have hpf : p.path = false := by simpa using hp
  by_cases hn0 : p.name = []
  ·have en : nmPc p.name = [] := by unfold nmPc; rw [if_pos hn0]
   rw [en, List.nil_append] at a2 a3 ⊢
   have b := a2.2.2
   rw [isP_N, if_neg (by rw [at_sg b]; decide), must_yes (by rw [at_sg b]; decide)]
   simp only [PR.bind]
   have el2 : n + 3 + [(false, sg [45, 91]), (false, wd p.lab), (false, sg [93, 45, 62])].length = n + 3 + 1 + 1 + 1 := rfl
   rw [el2] at a3 ⊢
   rw [vx_at ha2 a3]
   simp only [PR.bind]
   obtain ⟨pa, pz, pp, pl, pn, pe⟩ := p
   simp only at *
   rw [hpf, hn0, he]
  ·have en : nmPc p.name = [(true, wd [97, 115]), (true, wd p.name)] := by unfold nmPc; rw [if_neg hn0]
   rw [en] at a2 a3 ⊢
   have b := a2.2.2
   rw [isP_N, if_pos (by rw [at_wd b]; decide)]
   show (PR.bind (nameP l ⟨n + 3 + 1 + 1 + 1, m⟩) _) = _
   rw [name_yes b.2 (hn.resolve_left hn0)]
   simp only [PR.bind]
   rw [must_yes (by rw [at_sg b.2.2]; decide)]
   simp only [PR.bind]
   have el2 : n + 3 + ((false, sg [45, 91]) :: (false, wd p.lab) :: ([(true, wd [97, 115]), (true, wd p.name)] ++ [(false, sg [93, 45, 62])])).length = n + 3 + 1 + 1 + 1 + 1 + 1 := rfl
   rw [el2] at a3 ⊢
   rw [vx_at ha2 a3]
   simp only [PR.bind]
   obtain ⟨pa, pz, pp, pl, pn, pe⟩ := p
   simp only at *
   rw [hpf, he]
theorem num_at {k : Int} (hk : 1 ≤ k ∧ k ≤ 1048576) (ha : At l n ((g, nmT k) :: r)) : numP l ⟨n, m⟩ = .ok ⟨n + 1, m⟩ k := by
 have e : (nth l n).v.n = k := by rw [ha.1.2.2]; rfl
 unfold numP
 rw [if_pos (by simp only; rw [ha.1.1]; rfl)]
 simp only [e]
 have hb : numB k = false := by unfold numB; simp; omega
 rw [hb]; rfl
theorem many_at {α : Type} {rd : PS → PR α} {w : List UInt8} {p : Pc} (hp : p.2 = sg w ∨ p.2 = wd w) {S : List (List UInt8)} {mx : Nat} (pc : α → List Pc) (hw : ∀ v ∈ S, (w == v) = false) : ∀ (ks : List α) (n : Nat) (m : Int) (F : Nat) (acc : List α), ks ≠ [] → acc.length + ks.length ≤ mx → l.length - n < F →
  (∀ y ∈ ks, ∀ (n : Nat) (m : Int), At l n (pc y) → Stp l (n + (pc y).length) S → rd ⟨n, m⟩ = .ok ⟨n + (pc y).length, m⟩ y) → At l n (joinPc p (ks.map pc)) → Stp l (n + (joinPc p (ks.map pc)).length) (w :: S) →
  manyP l rd w mx F ⟨n, m⟩ acc = .ok ⟨n + (joinPc p (ks.map pc)).length, m⟩ (acc ++ ks)
 | [], _, _, _, _, h, _, _, _, _, _ => absurd rfl h
 | [y], n, m, F, acc, _, h0, hF, hr, ha, hs => by
  simp only [List.map, joinPc, List.append_nil] at ha hs ⊢
  refine many_end (by omega) ?_ (by rw [isP_N]; exact hs w List.mem_cons_self)
  rw [decide_eq_false (by simp at h0; omega)]
  exact hr y List.mem_cons_self n m ha (hs.sub fun v hv => List.mem_cons_of_mem _ hv)
 | y :: z :: r, n, m, F, acc, _, h0, hF, hr, ha, hs => by
  have e : joinPc p ((y :: z :: r).map pc) = pc y ++ p :: joinPc p ((z :: r).map pc) := rfl
  rw [e] at ha hs ⊢
  obtain ⟨ha1, ha2⟩ := (At_app _ _ _).1 ha
  have hq : ∀ v, isN l v (n + (pc y).length) = (w == v) := fun v => by
   rcases hp with hp | hp
   ·exact at_sg (g := p.1) (w := w) (r := joinPc p ((z :: r).map pc)) (by rw [← hp]; exact ha2) v
   ·exact at_wd (g := p.1) (w := w) (r := joinPc p ((z :: r).map pc)) (by rw [← hp]; exact ha2) v
  have hl : n + (pc y).length < l.length := by
   rcases hp with hp | hp
   ·exact at_sgL (g := p.1) (w := w) (r := joinPc p ((z :: r).map pc)) (by rw [← hp]; exact ha2)
   ·exact at_wdL (g := p.1) (w := w) (r := joinPc p ((z :: r).map pc)) (by rw [← hp]; exact ha2)
  rw [many_on (f := F) (mx := mx) (x := y) (s1 := ⟨n + (pc y).length, m⟩) (by omega) (by rw [decide_eq_false (by simp at h0; omega)]; exact hr y List.mem_cons_self n m ha1 fun v hv => by rw [hq]; exact hw v hv) (by rw [isP_N]; simp only; rw [hq]; simp)]
  have el : n + (pc y ++ p :: joinPc p ((z :: r).map pc)).length = n + (pc y).length + 1 + (joinPc p ((z :: r).map pc)).length := by simp; omega
  rw [el] at hs ⊢
  have := many_at (mx := mx) hp pc hw (z :: r) (n + (pc y).length + 1) m (F - 1) (acc ++ [y]) (by simp) (by simp at h0 ⊢; omega) (by omega) (fun q hq => hr q (List.mem_cons_of_mem _ hq)) ha2.2 hs
  show manyP l rd w mx (F - 1) ⟨n + (pc y).length + 1, m⟩ (acc ++ [y]) = _
  rw [this]; simp
end
theorem query_at {l : List Tk} {q : Qu} (h : quR q = true) (ha : At l 0 (quPc q)) : queryP l ⟨0, -1⟩ = .ok ⟨(quPc q).length, -1⟩ q := by
 unfold quR at h
 simp only [Bool.and_eq_true, decide_eq_true_eq, List.all_eq_true] at h
 obtain ⟨⟨p1, p2⟩, c2, ⟨r1, r2⟩, hra, hsl, hp, hc, hr⟩ := h
 unfold quPc at ha ⊢
 have ha0 := ha
 obtain ⟨a1, a2⟩ := (At_app _ _ _).1 ha.2
 obtain ⟨a3, a4⟩ := (At_app _ _ _).1 a2
 obtain ⟨a5, a6⟩ := (At_app _ _ _).1 a4.2
 have hpn : q.p ≠ [] := by intro e; rw [e] at p1; simp at p1
 have hrn : q.r ≠ [] := by intro e; rw [e] at r1; simp at r1
 generalize hJ : joinPc (false, sg [44]) (q.p.map (ptPc true)) = J at *
 generalize hW : whPc q = W at *
 generalize hK : joinPc (false, sg [44]) (q.r.map (opPc true)) = K at *
 unfold queryP
 rw [must_yes (by rw [at_wd ha]; decide)]
 simp only [PR.bind]
 -- patterns
 have nx : ∀ v, v ∈ [([44] : List UInt8)] → isN l v (0 + 1 + J.length) = false := by
  intro v hv
  obtain rfl : v = [44] := by simpa using hv
  by_cases hcn : q.c = []
  ·have eW : W = [] := by rw [← hW]; unfold whPc; rw [if_pos hcn]
   subst eW
   have := at_wd (l := l) (n := 0 + 1 + J.length) (g := true) (w := [114, 101, 116, 117, 114, 110]) (r := K ++ [(true, wd [114, 97, 110, 103, 101]), (true, nmT q.range), (true, wd [115, 108, 105, 100, 101]), (true, nmT q.slide)]) a4
   rw [this]; decide
  ·have eW : W = (true, wd [119, 104, 101, 114, 101]) :: joinPc (true, wd [97, 110, 100]) (q.c.map (cdPc true)) := by rw [← hW]; unfold whPc; rw [if_neg hcn]
   rw [eW] at a3
   rw [at_wd a3]; decide
 have e1 := many_at (l := l) (rd := patP l) (w := [44]) (p := (false, sg [44])) (.inl rfl) (S := []) (mx := 4) (ptPc true) (fun v hv => by cases hv) q.p (0 + 1) (-1) (l.length + 1) [] hpn (by simp; omega) (by omega) (fun y hy n m h1 _ => pat_at (hp y hy) h1) (by rw [hJ]; exact a1) (by rw [hJ]; exact nx)
 rw [hJ, List.nil_append] at e1
 show ((manyP l (patP l) [44] 4 (l.length + 1) ⟨0 + 1, -1⟩ []).bind _) = _
 rw [e1]
 simp only [PR.bind]
 -- conditions
 have e2 : (if isP l [119, 104, 101, 114, 101] ⟨0 + 1 + J.length, -1⟩ = true then manyP l (cdP l) [97, 110, 100] 6 (l.length + 1) (⟨0 + 1 + J.length, -1⟩ : PS).adv [] else .ok ⟨0 + 1 + J.length, -1⟩ []) = .ok ⟨0 + 1 + J.length + W.length, -1⟩ q.c := by
  by_cases hcn : q.c = []
  ·have eW : W = [] := by rw [← hW]; unfold whPc; rw [if_pos hcn]
   subst eW
   have := at_wd (l := l) (n := 0 + 1 + J.length) (g := true) (w := [114, 101, 116, 117, 114, 110]) (r := K ++ [(true, wd [114, 97, 110, 103, 101]), (true, nmT q.range), (true, wd [115, 108, 105, 100, 101]), (true, nmT q.slide)]) a4
   rw [isP_N, if_neg (by rw [this]; decide), hcn]; rfl
  ·have eW : W = (true, wd [119, 104, 101, 114, 101]) :: joinPc (true, wd [97, 110, 100]) (q.c.map (cdPc true)) := by rw [← hW]; unfold whPc; rw [if_neg hcn]
   rw [eW] at a3 a4 ⊢
   rw [isP_N, if_pos (by rw [at_wd a3]; decide)]
   have el : 0 + 1 + J.length + ((true, wd [119, 104, 101, 114, 101]) :: joinPc (true, wd [97, 110, 100]) (q.c.map (cdPc true))).length = 0 + 1 + J.length + 1 + (joinPc (true, wd [97, 110, 100]) (q.c.map (cdPc true))).length := by simp; omega
   rw [el] at a4 ⊢
   have := many_at (l := l) (rd := cdP l) (w := [97, 110, 100]) (p := (true, wd [97, 110, 100])) (.inr rfl) (S := [[46]]) (mx := 6) (cdPc true) (by decide) q.c (0 + 1 + J.length + 1) (-1) (l.length + 1) [] hcn (by simp; omega) (by omega) (fun y hy n m h1 h2 => cd_at (hc y hy) h1 (h2 [46] (by simp))) a3.2 (stp_one (at_wd a4) (by decide))
   exact this
 show (PR.bind (if isP l [119, 104, 101, 114, 101] ⟨0 + 1 + J.length, -1⟩ = true then manyP l (cdP l) [97, 110, 100] 6 (l.length + 1) (⟨0 + 1 + J.length, -1⟩ : PS).adv [] else .ok ⟨0 + 1 + J.length, -1⟩ []) _) = _
 rw [e2]
 simp only [PR.bind]
 rw [must_yes (by rw [at_wd a4]; decide)]
 simp only [PR.bind]
 -- what is told
 have e3 := many_at (l := l) (rd := toldP l) (w := [44]) (p := (false, sg [44])) (.inl rfl) (S := [[46]]) (mx := 4) (opPc true) (by decide) q.r (0 + 1 + J.length + W.length + 1) (-1) (l.length + 1) [] hrn (by simp; omega) (by omega) (fun y hy n m h1 h2 => told_at (hr y hy).2 (by simpa using (hr y hy).1) h1 (h2 [46] (by simp))) (by rw [hK]; exact a5) (by rw [hK]; exact stp_one (at_wd a6) (by decide))
 rw [hK, List.nil_append] at e3
 show ((manyP l (toldP l) [44] 4 (l.length + 1) ⟨0 + 1 + J.length + W.length + 1, -1⟩ []).bind _) = _
 rw [e3]
 simp only [PR.bind]
 rw [must_yes (by rw [at_wd a6]; decide)]
 simp only [PR.bind]
 rw [num_at hra a6.2]
 simp only [PR.bind]
 rw [must_yes (by rw [at_wd a6.2.2]; decide)]
 simp only [PR.bind]
 rw [num_at hsl a6.2.2.2]
 simp only [PR.bind]
 congr 2
 simp; omega
end Go.Proofs.YtonchjamoblioaaGreatDoor
namespace Go.Kin
open Go.Lib
def signsR : List (List UInt8) := [[93, 45, 62], [93, 61, 62], [33, 61], [60, 61], [62, 61], [45, 91], [61, 91], [40], [41], [91], [93], [44], [46], [124], [42], [43], [63], [61], [60], [62]]
/-- the longest sign with which a text begins -/
def IsBest (s r : List UInt8) : Prop := (r = [] ∧ ∀ x ∈ signsF, hasPrefix s x = false) ∨ (r ∈ signsF ∧ hasPrefix s r = true ∧ ∀ x ∈ signsF, hasPrefix s x = true → x.length ≤ r.length)
theorem signs_ne : ∀ x ∈ signsF, 0 < x.length := by decide
theorem best_isBest (s : List UInt8) : IsBest s (bestSign s) := by
 have : ∀ (l p : List (List UInt8)) (b : List UInt8), (∀ x ∈ l, x ∈ signsF) → ((b = [] ∧ ∀ x ∈ p, hasPrefix s x = false) ∨ (b ∈ signsF ∧ hasPrefix s b = true ∧ ∀ x ∈ p, hasPrefix s x = true → x.length ≤ b.length)) →
   ((l.foldl (bestStep s) b = [] ∧ ∀ x ∈ p ++ l, hasPrefix s x = false) ∨ (l.foldl (bestStep s) b ∈ signsF ∧ hasPrefix s (l.foldl (bestStep s) b) = true ∧ ∀ x ∈ p ++ l, hasPrefix s x = true → x.length ≤ (l.foldl (bestStep s) b).length)) := by
  intro l
  induction l with
  | nil => intro p b _ h; simpa using h
  | cons y r ih =>
   intro p b hm h
   have hy := hm y (List.mem_cons_self ..)
   have h2 := ih (p ++ [y]) (bestStep s b y) (fun x hx => hm x (List.mem_cons_of_mem _ hx)) (by
    unfold bestStep
    by_cases hp : hasPrefix s y = true
    ·by_cases hl : b.length < y.length
     ·rw [if_pos (by rw [hp, Bool.true_and]; exact decide_eq_true (by omega))]
      right
      refine ⟨hy, hp, fun x hx hx2 => ?_⟩
      rcases List.mem_append.1 hx with hx | hx
      ·rcases h with ⟨_, h⟩ | ⟨_, _, h⟩
       ·rw [h x hx] at hx2; cases hx2
       ·have := h x hx hx2; omega
      ·simp at hx; subst hx; omega
     ·rw [if_neg (by rw [hp, Bool.true_and]; intro e; have := of_decide_eq_true e; omega)]
      rcases h with ⟨rfl, h⟩ | ⟨h1, h2, h3⟩
      ·have := signs_ne y hy; simp at hl; subst hl; simp at this
      ·right
       refine ⟨h1, h2, fun x hx hx2 => ?_⟩
       rcases List.mem_append.1 hx with hx | hx
       ·exact h3 x hx hx2
       ·simp at hx; subst hx; omega
    ·have hp' : hasPrefix s y = false := by simpa using hp
     rw [if_neg (by rw [hp']; simp)]
     rcases h with ⟨h1, h2⟩ | ⟨h1, h2, h3⟩
     ·left; refine ⟨h1, fun x hx => ?_⟩
      rcases List.mem_append.1 hx with hx | hx
      ·exact h2 x hx
      ·simp at hx; subst hx; exact hp'
     ·right; refine ⟨h1, h2, fun x hx hx2 => ?_⟩
      rcases List.mem_append.1 hx with hx | hx
      ·exact h3 x hx hx2
      ·simp at hx; subst hx; rw [hp'] at hx2; cases hx2)
   simpa using h2
 have h := this signsF [] [] (fun _ h => h) (.inl ⟨rfl, fun x hx => by cases hx⟩)
 exact h
theorem prefix_take {s p : List UInt8} (h : hasPrefix s p = true) : p = s.take p.length := by
 unfold hasPrefix at h; rw [List.isPrefixOf_iff_prefix] at h
 exact List.prefix_iff_eq_take.1 h
theorem isBest_unique {s r r' : List UInt8} (h : IsBest s r) (h' : IsBest s r') : r = r' := by
 rcases h with ⟨rfl, h⟩ | ⟨h1, h2, h3⟩ <;> rcases h' with ⟨rfl, h'⟩ | ⟨h1', h2', h3'⟩
 ·rfl
 ·rw [h _ h1'] at h2'; cases h2'
 ·rw [h' _ h1] at h2; cases h2
 ·have e : r.length = r'.length := Nat.le_antisymm (h3' r h1 h2) (h3 r' h1' h2')
  rw [prefix_take h2, prefix_take h2', e]
/-! ### tokens by definition -/
end Go.Kin
namespace Go.Kin
open Go.Lib
theorem spanN_take (p : Int → Bool) : ∀ (z : List UInt8) (n : Nat), spanN p (z.take n) = min n (spanN p z)
 | [], n => by simp [spanN]
 | c :: r, 0 => by simp [spanN]
 | c :: r, n + 1 => by
  have := spanN_take p r n
  simp only [List.take_succ_cons, spanN]
  split <;> omega
theorem spanN_max {p : Int → Bool} : ∀ {z : List UInt8} , spanN p z < z.length → p ((z.getD (spanN p z) 0).toNat) = false
 | [], h => by simp at h
 | c :: r, h => by
  simp only [spanN] at h ⊢
  by_cases hc : p c.toNat = true
  ·rw [if_pos hc] at h ⊢
   have := spanN_max (p := p) (z := r) (by simp at h; exact h)
   simpa using this
  ·rw [if_neg hc] at h ⊢
   simpa using hc
theorem spanN_zero {p : Int → Bool} {s : List UInt8} : spanN p (s.drop (spanN p s)) = 0 := by
 by_cases h : spanN p s < s.length
 ·rw [spanN_drop h (spanN_max h)]; simp
 ·have := spanN_le p s
  have e : s.drop (spanN p s) = [] := List.drop_eq_nil_of_le (by omega)
  rw [e]; rfl
theorem index_take : ∀ (l : List UInt8) (c : UInt8) (m : Nat), 0 ≤ indexByte l c → indexByte l c < (m : Int) → indexByte (l.take m) c = indexByte l c
 | [], c, m, _, _ => by simp
 | b :: l, c, 0, h1, h2 => by omega
 | b :: l, c, m + 1, h1, h2 => by
  simp only [List.take_succ_cons, indexByte] at *
  split at h1
  ·rename_i h; rw [if_pos h, if_pos h]
  ·rename_i h
   rw [if_neg h, if_neg h]
   rw [if_neg h] at h2
   split at h1
   ·omega
   ·rename_i hq
    rw [if_neg hq] at h2
    have := index_take l c m (by have := indexByte_lt l c; simp at hq; omega) (by omega)
    rw [this]
theorem pre_iff {s p : List UInt8} : hasPrefix s p = true ↔ p <+: s := by unfold hasPrefix; rw [List.isPrefixOf_iff_prefix]
theorem bestSign_take {z : List UInt8} {n : Nat} (h0 : bestSign z ≠ []) (hn : (bestSign z).length ≤ n) : bestSign (z.take n) = bestSign z := by
 refine isBest_unique (best_isBest _) ?_
 rcases best_isBest z with h | ⟨h1, h2, h3⟩
 ·exact absurd h.1 h0
 ·refine .inr ⟨h1, ?_, fun x hx hp => h3 x hx (pre_iff.2 ((pre_iff.1 hp).trans (List.take_prefix _ _)))⟩
  rw [pre_iff] at h2 ⊢
  exact List.prefix_take_iff.2 ⟨h2, hn⟩
theorem first_take {z : List UInt8} {n : Nat} (hb : firstB z = true) (hk : (firstT z).k ≠ 5) (hn : (firstT z).t.length ≤ n) : firstT (z.take n) = firstT z ∧ firstB (z.take n) = true := by
 have hl := first_len hb hk
 have h0 : z ≠ [] := by intro e; exact hk (first_end.2 e)
 have hz : 0 < z.length := List.length_pos_iff.2 h0
 have h0' : z.take n ≠ [] := by
  intro e
  have : (z.take n).length = 0 := by rw [e]; rfl
  rw [List.length_take] at this; omega
 have hg : (z.take n).getD 0 0 = z.getD 0 0 := by
  cases z with
  | nil => exact absurd rfl h0
  | cons c r => cases n with
   | zero => omega
   | succ n => rfl
 have hd : (z.take n).drop 1 = (z.drop 1).take (n - 1) := by
  cases z with
  | nil => exact absurd rfl h0
  | cons c r => cases n with
   | zero => omega
   | succ n => rfl
 unfold firstT firstB at *
 rw [if_neg h0] at hb hk hn hl
 rw [if_neg h0', if_neg h0', if_neg h0, hg]
 by_cases h1 : letterI (z.getD 0 0).toNat = true
 ·simp only [if_pos h1] at hb hk hn hl ⊢
  have e : wordN (z.take n) = wordN z := by
   unfold wordN
   rw [wordN_len] at hn
   rw [spanN_take, List.take_take]; congr 1; omega
  rw [e]; exact ⟨rfl, hb⟩
 ·simp only [if_neg h1] at hb hk hn hl ⊢
  by_cases h2 : digitI (z.getD 0 0).toNat = true
  ·simp only [if_pos h2] at hb hk hn hl ⊢
   have e : digitN (z.take n) = digitN z := by
    unfold digitN
    simp only [valuedT, digitN_len] at hn
    rw [spanN_take, List.take_take]; congr 1; omega
   rw [e]; exact ⟨rfl, hb⟩
  ·simp only [if_neg h2] at hb hk hn hl ⊢
   have hsp := spanN_take digitI (z.drop 1) (n - 1)
   rw [hd, hsp]
   by_cases h3 : (((z.getD 0 0).toNat : Int) == 45 && decide (0 < (spanN digitI (z.drop 1) : Int))) = true
   ·simp only [if_pos h3] at hb hk hn hl
    have hm : min (n - 1) (spanN digitI (z.drop 1)) = spanN digitI (z.drop 1) := by
     have := spanN_le digitI (z.drop 1)
     simp only [valuedT, minusN, List.length_take] at hn
     rw [List.length_drop] at this
     omega
    rw [hm]
    simp only [if_pos h3]
    have e : minusN (z.take n) = minusN z := by
     unfold minusN
     rw [hd, hsp, hm, List.take_take]
     have := spanN_le digitI (z.drop 1)
     simp only [valuedT, minusN, List.length_take] at hn
     rw [List.length_drop] at this
     congr 1; omega
    rw [e]; exact ⟨rfl, hb⟩
   ·simp only [if_neg h3] at hb hk hn hl
    have h3' : ¬ (((z.getD 0 0).toNat : Int) == 45 && decide (0 < ((min (n - 1) (spanN digitI (z.drop 1)) : Nat) : Int))) = true := by
     intro h; apply h3
     simp only [Bool.and_eq_true, decide_eq_true_eq] at h ⊢
     exact ⟨h.1, by omega⟩
    simp only [if_neg h3', if_neg h3]
    by_cases h4 : (((z.getD 0 0).toNat : Int) == 34) = true
    ·simp only [if_pos h4] at hb hk hn hl ⊢
     by_cases h5 : indexByte (z.drop 1) 34 < 0
     ·rw [if_pos h5] at hb; cases hb
     ·simp only [if_neg h5] at hb hk hn hl
      have hi := indexByte_lt (z.drop 1) 34
      have hle : (indexByte (z.drop 1) 34 + 2).toNat ≤ n := by
       simp only [valuedT, textN, List.length_take] at hn
       rw [List.length_drop] at hi
       omega
      have ei : indexByte ((z.drop 1).take (n - 1)) 34 = indexByte (z.drop 1) 34 := index_take _ _ _ (by omega) (by omega)
      rw [ei]
      simp only [if_neg h5]
      have e : textN (z.take n) = textN z := by
       unfold textN
       rw [hd, ei, List.take_take]
       congr 1; omega
      rw [e]; exact ⟨rfl, hb⟩
    ·simp only [if_neg h4] at hb hk hn hl ⊢
     have e := bestSign_take (z := z) (n := n) (by simpa using hb) hn
     rw [e]; exact ⟨rfl, hb⟩
theorem first_text {z : List UInt8} (hb : firstB z = true) (hk : (firstT z).k ≠ 5) : (firstT z).t = z.take (firstT z).t.length := by
 have h0 : z ≠ [] := by intro e; exact hk (first_end.2 e)
 unfold firstT firstB at *
 rw [if_neg h0] at hb hk ⊢
 by_cases h1 : letterI (z.getD 0 0).toNat = true
 ·simp only [if_pos h1]; unfold wordN; rw [List.length_take, ← List.take_take, List.take_length]
 ·simp only [if_neg h1] at hb hk ⊢
  by_cases h2 : digitI (z.getD 0 0).toNat = true
  ·simp only [if_pos h2, valuedT]; unfold digitN; rw [List.length_take, ← List.take_take, List.take_length]
  ·simp only [if_neg h2] at hb hk ⊢
   by_cases h3 : (((z.getD 0 0).toNat : Int) == 45 && decide (0 < (spanN digitI (z.drop 1) : Int))) = true
   ·simp only [if_pos h3, valuedT]; unfold minusN; rw [List.length_take, ← List.take_take, List.take_length]
   ·simp only [if_neg h3] at hb hk ⊢
    by_cases h4 : (((z.getD 0 0).toNat : Int) == 34) = true
    ·simp only [if_pos h4] at hb hk ⊢
     by_cases h5 : indexByte (z.drop 1) 34 < 0
     ·rw [if_pos h5] at hb; cases hb
     ·simp only [if_neg h5, valuedT]; unfold textN; rw [List.length_take, ← List.take_take, List.take_length]
    ·simp only [if_neg h4] at hb hk ⊢
     rcases bestSign_mem z with h | h
     ·simp at hb; exact absurd h hb
     ·exact prefix_take h.2
end Go.Kin
namespace Go.Proofs
open Go.Shelf
def Tryz.lays137_ren : Go.Shelf.Ren := ⟨fun | 137 => 164 | 217 => 197 | 266 => 218 | n => n, fun | 9 => 9 | 5 => 5 | 3 => 3 | n => n, fun | n => n⟩
theorem Tryz.lays137 : Go.Proofs.Lays.n137 Tryz.prog Tryz.lays137_ren := {
 mixed := by kernel_rfl
 f137 := Tryz.func164.trans (congrArg some (by kernel_rfl))
 f217 := Tryz.func197.trans (congrArg some (by kernel_rfl))
 f266 := Tryz.func218.trans (congrArg some (by kernel_rfl))
 t3 := Tryz.underlying3
 a3 := Tryz.isAgg3
 z3 := Tryz.sizeOf3
 v3 := Tryz.zeroValue3
 t5 := Tryz.underlying5
 a5 := Tryz.isAgg5
 z5 := Tryz.sizeOf5
 v5 := Tryz.zeroValue5
 t9 := Tryz.underlying9
 a9 := Tryz.isAgg9
 z9 := Tryz.sizeOf9
 v9 := Tryz.zeroValue9 }
open Go.RowKit in
theorem Tryz.strings_IndexByte (s : ByteArray) (c : Int) (w : World) :
  Calls Tryz.prog 164 #[.string s, .int .u8 c] w fun e w' => e = .returned (.int .i64 (Lib.indexByte s.data.toList c.toNat.toUInt8)) ∧ w' = w := Any.strings_IndexByte Tryz.lays137 s c w
def Tryz.laysC172_ren : Go.Shelf.Ren := ⟨fun | 172 => 216 | 244 => 228 | 245 => 229 | 247 => 232 | 279 => 233 | 280 => 234 | 281 => 235 | 282 => 236 | 287 => 239 | 316 => 240 | 171 => 47 | 205 => 241 | 321 => 242 | 322 => 243 | 243 => 93 | 246 => 152 | 283 => 184 | 284 => 185 | 285 => 186 | 286 => 187 | 129 => 207 | 317 => 206 | 318 => 208 | 319 => 209 | 320 => 210 | 337 => 224 | 338 => 225 | n => n, fun | 9 => 9 | 3 => 3 | 75 => 186 | 76 => 187 | 4 => 4 | 5 => 5 | 167 => 230 | 37 => 182 | 0 => 0 | 85 => 231 | 2 => 2 | 168 => 233 | 53 => 191 | 175 => 247 | 46 => 209 | 210 => 251 | 127 => 203 | 145 => 258 | 143 => 256 | 21 => 21 | 171 => 190 | 173 => 194 | 212 => 206 | 51 => 207 | 20 => 20 | 213 => 208 | 232 => 228 | 233 => 229 | 80 => 169 | n => n, fun | 15 => 6 | 16 => 7 | 17 => 0 | 18 => 4 | 19 => 5 | n => n⟩
theorem Tryz.laysC172 : Go.Proofs.LaysC.n172 Tryz.prog Tryz.laysC172_ren := {
 mixed := by kernel_rfl
 f129 := Tryz.func207.trans (congrArg some (by kernel_rfl))
 f171 := Tryz.func47.trans (congrArg some (by kernel_rfl))
 f172 := Tryz.func216.trans (congrArg some (by kernel_rfl))
 f205 := Tryz.func241.trans (congrArg some (by kernel_rfl))
 f243 := Tryz.func93.trans (congrArg some (by kernel_rfl))
 f244 := Tryz.func228.trans (congrArg some (by kernel_rfl))
 f245 := Tryz.func229.trans (congrArg some (by kernel_rfl))
 f246 := Tryz.func152.trans (congrArg some (by kernel_rfl))
 f247 := Tryz.func232.trans (congrArg some (by kernel_rfl))
 f279 := Tryz.func233.trans (congrArg some (by kernel_rfl))
 f280 := Tryz.func234.trans (congrArg some (by kernel_rfl))
 f281 := Tryz.func235.trans (congrArg some (by kernel_rfl))
 f282 := Tryz.func236.trans (congrArg some (by kernel_rfl))
 f283 := Tryz.func184.trans (congrArg some (by kernel_rfl))
 f284 := Tryz.func185.trans (congrArg some (by kernel_rfl))
 f285 := Tryz.func186.trans (congrArg some (by kernel_rfl))
 f286 := Tryz.func187.trans (congrArg some (by kernel_rfl))
 f287 := Tryz.func239.trans (congrArg some (by kernel_rfl))
 f316 := Tryz.func240.trans (congrArg some (by kernel_rfl))
 f317 := Tryz.func206.trans (congrArg some (by kernel_rfl))
 f318 := Tryz.func208.trans (congrArg some (by kernel_rfl))
 f319 := Tryz.func209.trans (congrArg some (by kernel_rfl))
 f320 := Tryz.func210.trans (congrArg some (by kernel_rfl))
 f321 := Tryz.func242.trans (congrArg some (by kernel_rfl))
 f322 := Tryz.func243.trans (congrArg some (by kernel_rfl))
 f337 := Tryz.func224.trans (congrArg some (by kernel_rfl))
 f338 := Tryz.func225.trans (congrArg some (by kernel_rfl))
 t0 := Tryz.underlying0
 a0 := Tryz.isAgg0
 z0 := Tryz.sizeOf0
 v0 := Tryz.zeroValue0
 t2 := Tryz.underlying2
 a2 := Tryz.isAgg2
 z2 := Tryz.sizeOf2
 v2 := Tryz.zeroValue2
 t3 := Tryz.underlying3
 a3 := Tryz.isAgg3
 z3 := Tryz.sizeOf3
 v3 := Tryz.zeroValue3
 t4 := Tryz.underlying4
 a4 := Tryz.isAgg4
 z4 := Tryz.sizeOf4
 v4 := Tryz.zeroValue4
 t5 := Tryz.underlying5
 a5 := Tryz.isAgg5
 z5 := Tryz.sizeOf5
 v5 := Tryz.zeroValue5
 t9 := Tryz.underlying9
 a9 := Tryz.isAgg9
 z9 := Tryz.sizeOf9
 v9 := Tryz.zeroValue9
 t20 := Tryz.underlying20
 a20 := Tryz.isAgg20
 z20 := Tryz.sizeOf20
 v20 := Tryz.zeroValue20
 t21 := Tryz.underlying21
 a21 := Tryz.isAgg21
 z21 := Tryz.sizeOf21
 v21 := Tryz.zeroValue21
 t37 := Tryz.underlying182
 a37 := Tryz.isAgg182
 z37 := Tryz.sizeOf182
 v37 := Tryz.zeroValue182
 t46 := Tryz.underlying209
 a46 := Tryz.isAgg209
 z46 := Tryz.sizeOf209
 v46 := Tryz.zeroValue209
 t51 := Tryz.underlying207
 a51 := Tryz.isAgg207
 z51 := Tryz.sizeOf207
 v51 := Tryz.zeroValue207
 t53 := Tryz.underlying191
 a53 := Tryz.isAgg191
 z53 := Tryz.sizeOf191
 v53 := Tryz.zeroValue191
 t75 := Tryz.underlying186
 a75 := Tryz.isAgg186
 z75 := Tryz.sizeOf186
 v75 := Tryz.zeroValue186
 t76 := Tryz.underlying187
 a76 := Tryz.isAgg187
 z76 := Tryz.sizeOf187
 v76 := Tryz.zeroValue187
 t85 := Tryz.underlying231
 a85 := Tryz.isAgg231
 z85 := Tryz.sizeOf231
 v85 := Tryz.zeroValue231
 t127 := Tryz.underlying203
 a127 := Tryz.isAgg203
 z127 := Tryz.sizeOf203
 v127 := Tryz.zeroValue203
 t143 := Tryz.underlying256
 a143 := Tryz.isAgg256
 z143 := Tryz.sizeOf256
 v143 := Tryz.zeroValue256
 t145 := Tryz.underlying258
 a145 := Tryz.isAgg258
 z145 := Tryz.sizeOf258
 v145 := Tryz.zeroValue258
 t167 := Tryz.underlying230
 a167 := Tryz.isAgg230
 z167 := Tryz.sizeOf230
 v167 := Tryz.zeroValue230
 t168 := Tryz.underlying233
 a168 := Tryz.isAgg233
 z168 := Tryz.sizeOf233
 v168 := Tryz.zeroValue233
 t171 := Tryz.underlying190
 a171 := Tryz.isAgg190
 z171 := Tryz.sizeOf190
 v171 := Tryz.zeroValue190
 t173 := Tryz.underlying194
 a173 := Tryz.isAgg194
 z173 := Tryz.sizeOf194
 v173 := Tryz.zeroValue194
 t175 := Tryz.underlying247
 a175 := Tryz.isAgg247
 z175 := Tryz.sizeOf247
 v175 := Tryz.zeroValue247
 t210 := Tryz.underlying251
 a210 := Tryz.isAgg251
 z210 := Tryz.sizeOf251
 v210 := Tryz.zeroValue251
 t212 := Tryz.underlying206
 a212 := Tryz.isAgg206
 z212 := Tryz.sizeOf206
 v212 := Tryz.zeroValue206
 t213 := Tryz.underlying208
 a213 := Tryz.isAgg208
 z213 := Tryz.sizeOf208
 t232 := Tryz.underlying228
 a232 := Tryz.isAgg228
 z232 := Tryz.sizeOf228
 v232 := Tryz.zeroValue228
 t233 := Tryz.underlying229
 a233 := Tryz.isAgg229
 z233 := Tryz.sizeOf229
 v233 := Tryz.zeroValue229
 g15 := by kernel_rfl
 g16 := by kernel_rfl
 g17 := by kernel_rfl
 g18 := by kernel_rfl
 g19 := by kernel_rfl
 t80 := Tryz.underlying169
 a80 := Tryz.isAgg169
 z80 := Tryz.sizeOf169
 v80 := Tryz.zeroValue169
 i0 := by kernel_rfl
 i2 := by kernel_rfl
 i3 := by kernel_rfl
 i4 := by kernel_rfl
 i5 := by kernel_rfl
 i9 := by kernel_rfl
 i20 := by kernel_rfl
 i21 := by kernel_rfl
 i37 := by kernel_rfl
 i46 := by kernel_rfl
 i51 := by kernel_rfl
 i53 := by kernel_rfl
 i75 := by kernel_rfl
 i76 := by kernel_rfl
 i80 := by kernel_rfl
 i85 := by kernel_rfl
 i127 := by kernel_rfl
 i143 := by kernel_rfl
 i145 := by kernel_rfl
 i167 := by kernel_rfl
 i168 := by kernel_rfl
 i171 := by kernel_rfl
 i173 := by kernel_rfl
 i175 := by kernel_rfl
 i210 := by kernel_rfl
 i212 := by kernel_rfl
 i232 := by kernel_rfl
 i233 := by kernel_rfl
 m15 := by kernel_rfl
 m16 := by kernel_rfl
 m17 := by kernel_rfl
 m18 := by kernel_rfl
 m19 := by kernel_rfl
 c0 := by kernel_rfl
 c2 := by kernel_rfl
 c3 := by kernel_rfl
 c4 := by kernel_rfl
 c5 := by kernel_rfl
 c9 := by kernel_rfl
 c20 := by kernel_rfl
 c21 := by kernel_rfl
 c37 := by kernel_rfl
 c46 := by kernel_rfl
 c51 := by kernel_rfl
 c53 := by kernel_rfl
 c75 := by kernel_rfl
 c76 := by kernel_rfl
 c80 := by kernel_rfl
 c85 := by kernel_rfl
 c127 := by kernel_rfl
 c143 := by kernel_rfl
 c145 := by kernel_rfl
 c167 := by kernel_rfl
 c168 := by kernel_rfl
 c171 := by kernel_rfl
 c173 := by kernel_rfl
 c175 := by kernel_rfl
 c210 := by kernel_rfl
 c212 := by kernel_rfl
 c213 := by kernel_rfl
 c232 := by kernel_rfl
 c233 := by kernel_rfl }
open Go.RowKit in
theorem Tryz.strconv_Atoi_ok (s : ByteArray) (hmax : s.size ≤ 9223372036854775806) (v : Int) (h : Lib.atoiAll s.data.toList = .ok v) (w : World) :
  Calls Tryz.prog 216 #[.string s] w fun e w' => e = .returned (.tuple #[.int .i64 v, .nilIface]) ∧ (w' = w ∨ ∃ t, w' = Lib.bytesWorld w 5 t) := Any.strconv_Atoi_ok Tryz.laysC172 s hmax v h w
open Go.RowKit in
theorem Tryz.strconv_Atoi_range_var (s : ByteArray) (hlim : s.size ≤ 281474976710656) (h : Lib.atoiAll s.data.toList = .range) (tp : TypeId) (p : Value) (w : World) (hvar : w.var? Tryz.prog "strconv.ErrRange" = some #[.iface tp p]) :
  Calls Tryz.prog 216 #[.string s] w fun e w' => ∃ N, e = .returned (.tuple #[.int .i64 (Lib.atoiSat s.data.toList), .iface 233 (.pointer (some ⟨N, 0, none⟩))]) ∧ w.heap.size ≤ N ∧ w'.heap[N]? = some (.cells #[.string ⟨#[65, 116, 111, 105]⟩, .string s, .iface tp p] 251 (0, 0)) ∧ Below w.heap.size w w' := Any.strconv_Atoi_range_var Tryz.laysC172 s hlim h tp p w hvar
def Tryz.lays99_ren : Go.Shelf.Ren := ⟨fun | 99 => 199 | 206 => 221 | n => n, fun | 9 => 9 | 4 => 4 | 3 => 3 | n => n, fun | n => n⟩
theorem Tryz.lays99 : Go.Proofs.Lays.n99 Tryz.prog Tryz.lays99_ren := {
 mixed := by kernel_rfl
 f99 := Tryz.func199.trans (congrArg some (by kernel_rfl))
 f206 := Tryz.func221.trans (congrArg some (by kernel_rfl))
 t3 := Tryz.underlying3
 a3 := Tryz.isAgg3
 z3 := Tryz.sizeOf3
 v3 := Tryz.zeroValue3
 t4 := Tryz.underlying4
 a4 := Tryz.isAgg4
 z4 := Tryz.sizeOf4
 v4 := Tryz.zeroValue4
 t9 := Tryz.underlying9
 a9 := Tryz.isAgg9
 z9 := Tryz.sizeOf9
 v9 := Tryz.zeroValue9 }
open Go.RowKit Go.Lib in
theorem Tryz.strings_HasPrefix (s p : ByteArray) (w : World) :
  Calls Tryz.prog 199 #[.string s, .string p] w fun e w' => e = .returned (.bool (Lib.hasPrefix s.data.toList p.data.toList)) ∧ w' = w := Any.strings_HasPrefix Tryz.lays99 s p w
def Tryz.lays101_ren : Go.Shelf.Ren := ⟨fun | 101 => 215 | 208 => 227 | 206 => 221 | n => n, fun | 9 => 9 | 4 => 4 | 3 => 3 | n => n, fun | n => n⟩
theorem Tryz.lays101 : Go.Proofs.Lays.n101 Tryz.prog Tryz.lays101_ren := {
 mixed := by kernel_rfl
 f101 := Tryz.func215.trans (congrArg some (by kernel_rfl))
 f206 := Tryz.func221.trans (congrArg some (by kernel_rfl))
 f208 := Tryz.func227.trans (congrArg some (by kernel_rfl))
 t3 := Tryz.underlying3
 a3 := Tryz.isAgg3
 z3 := Tryz.sizeOf3
 v3 := Tryz.zeroValue3
 t4 := Tryz.underlying4
 a4 := Tryz.isAgg4
 z4 := Tryz.sizeOf4
 v4 := Tryz.zeroValue4
 t9 := Tryz.underlying9
 a9 := Tryz.isAgg9
 z9 := Tryz.sizeOf9
 v9 := Tryz.zeroValue9 }
open Go.RowKit Go.Lib in
theorem Tryz.strings_TrimPrefix (s p : ByteArray) (w : World) :
  Calls Tryz.prog 215 #[.string s, .string p] w fun e w' => e = .returned (.string ⟨(Lib.trimPrefix s.data.toList p.data.toList).toArray⟩) ∧ w' = w := Any.strings_TrimPrefix Tryz.lays101 s p w
def Tryz.lays102_ren : Go.Shelf.Ren := ⟨fun | 102 => 214 | 209 => 226 | 207 => 231 | n => n, fun | 9 => 9 | 4 => 4 | 3 => 3 | n => n, fun | n => n⟩
theorem Tryz.lays102 : Go.Proofs.Lays.n102 Tryz.prog Tryz.lays102_ren := {
 mixed := by kernel_rfl
 f102 := Tryz.func214.trans (congrArg some (by kernel_rfl))
 f207 := Tryz.func231.trans (congrArg some (by kernel_rfl))
 f209 := Tryz.func226.trans (congrArg some (by kernel_rfl))
 t3 := Tryz.underlying3
 a3 := Tryz.isAgg3
 z3 := Tryz.sizeOf3
 v3 := Tryz.zeroValue3
 t4 := Tryz.underlying4
 a4 := Tryz.isAgg4
 z4 := Tryz.sizeOf4
 v4 := Tryz.zeroValue4
 t9 := Tryz.underlying9
 a9 := Tryz.isAgg9
 z9 := Tryz.sizeOf9
 v9 := Tryz.zeroValue9 }
open Go.RowKit Go.Lib in
theorem Tryz.strings_TrimSuffix (s p : ByteArray) (w : World) (hs : s.size ≤ 9223372036854775807) :
  Calls Tryz.prog 214 #[.string s, .string p] w fun e w' => e = .returned (.string ⟨(Lib.trimSuffix s.data.toList p.data.toList).toArray⟩) ∧ w' = w := Any.strings_TrimSuffix Tryz.lays102 s p w hs
def Tryz.lays157_ren : Go.Shelf.Ren := ⟨fun | 157 => 198 | 229 => 219 | 199 => 220 | 261 => 230 | 311 => 237 | 312 => 238 | n => n, fun | 9 => 9 | 31 => 59 | 3 => 3 | 5 => 5 | 4 => 4 | 119 => 216 | 0 => 0 | 40 => 177 | 152 => 223 | 21 => 21 | 154 => 225 | 51 => 207 | 141 => 227 | 196 => 239 | 193 => 236 | 198 => 242 | 49 => 240 | 194 => 237 | 201 => 245 | 226 => 253 | 46 => 209 | 227 => 254 | n => n, fun | 0 => 1 | 6 => 3 | n => n⟩
theorem Tryz.lays157 : Go.Proofs.Lays.n157 Tryz.prog Tryz.lays157_ren := {
 mixed := by kernel_rfl
 f157 := Tryz.func198.trans (congrArg some (by kernel_rfl))
 f199 := Tryz.func220.trans (congrArg some (by kernel_rfl))
 f229 := Tryz.func219.trans (congrArg some (by kernel_rfl))
 f261 := Tryz.func230.trans (congrArg some (by kernel_rfl))
 f311 := Tryz.func237.trans (congrArg some (by kernel_rfl))
 f312 := Tryz.func238.trans (congrArg some (by kernel_rfl))
 t0 := Tryz.underlying0
 a0 := Tryz.isAgg0
 z0 := Tryz.sizeOf0
 v0 := Tryz.zeroValue0
 t3 := Tryz.underlying3
 a3 := Tryz.isAgg3
 z3 := Tryz.sizeOf3
 v3 := Tryz.zeroValue3
 t4 := Tryz.underlying4
 a4 := Tryz.isAgg4
 z4 := Tryz.sizeOf4
 v4 := Tryz.zeroValue4
 t5 := Tryz.underlying5
 a5 := Tryz.isAgg5
 z5 := Tryz.sizeOf5
 v5 := Tryz.zeroValue5
 t9 := Tryz.underlying9
 a9 := Tryz.isAgg9
 z9 := Tryz.sizeOf9
 v9 := Tryz.zeroValue9
 t21 := Tryz.underlying21
 a21 := Tryz.isAgg21
 z21 := Tryz.sizeOf21
 v21 := Tryz.zeroValue21
 t31 := Tryz.underlying59
 a31 := Tryz.isAgg59
 z31 := Tryz.sizeOf59
 v31 := Tryz.zeroValue59
 t40 := Tryz.underlying177
 a40 := Tryz.isAgg177
 z40 := Tryz.sizeOf177
 v40 := Tryz.zeroValue177
 t46 := Tryz.underlying209
 a46 := Tryz.isAgg209
 z46 := Tryz.sizeOf209
 v46 := Tryz.zeroValue209
 t49 := Tryz.underlying240
 a49 := Tryz.isAgg240
 z49 := Tryz.sizeOf240
 v49 := Tryz.zeroValue240
 t51 := Tryz.underlying207
 a51 := Tryz.isAgg207
 z51 := Tryz.sizeOf207
 v51 := Tryz.zeroValue207
 t119 := Tryz.underlying216
 a119 := Tryz.isAgg216
 z119 := Tryz.sizeOf216
 t141 := Tryz.underlying227
 a141 := Tryz.isAgg227
 z141 := Tryz.sizeOf227
 v141 := Tryz.zeroValue227
 t152 := Tryz.underlying223
 a152 := Tryz.isAgg223
 z152 := Tryz.sizeOf223
 v152 := Tryz.zeroValue223
 t154 := Tryz.underlying225
 a154 := Tryz.isAgg225
 z154 := Tryz.sizeOf225
 v154 := Tryz.zeroValue225
 t193 := Tryz.underlying236
 a193 := Tryz.isAgg236
 z193 := Tryz.sizeOf236
 v193 := Tryz.zeroValue236
 t194 := Tryz.underlying237
 a194 := Tryz.isAgg237
 z194 := Tryz.sizeOf237
 v194 := Tryz.zeroValue237
 t196 := Tryz.underlying239
 a196 := Tryz.isAgg239
 z196 := Tryz.sizeOf239
 v196 := Tryz.zeroValue239
 t198 := Tryz.underlying242
 a198 := Tryz.isAgg242
 z198 := Tryz.sizeOf242
 v198 := Tryz.zeroValue242
 t201 := Tryz.underlying245
 a201 := Tryz.isAgg245
 z201 := Tryz.sizeOf245
 v201 := Tryz.zeroValue245
 t226 := Tryz.underlying253
 a226 := Tryz.isAgg253
 z226 := Tryz.sizeOf253
 v226 := Tryz.zeroValue253
 t227 := Tryz.underlying254
 a227 := Tryz.isAgg254
 z227 := Tryz.sizeOf254
 v227 := Tryz.zeroValue254
 g0 := by kernel_rfl
 g6 := by kernel_rfl }
open Go.RowKit Go.Lib in
theorem Tryz.strings_Fields (s : ByteArray) (w : World) (hs : s.size < 4294967281) (hascii : ∀ (j : Nat) b, s.data.toList[j]? = some b → b.toNat < 128) (htab : Lib.TabIs Tryz.prog w "strings.asciiSpace" .u8 Lib.asciiSpaceTab) :
  Calls Tryz.prog 198 #[.string s] w fun e w' =>
   e = .returned (.slice (some ⟨w.heap.size, 0, none⟩) (Lib.fields s.data.toList).length (Lib.fields s.data.toList).length) ∧ w' = w.alloc (.cells ((Lib.fields s.data.toList).map fun l => Value.string ⟨l.toArray⟩).toArray 9) := Any.strings_Fields Tryz.lays157 (by kernel_rfl) (by kernel_rfl) s w hs hascii htab
open Go.RowKit in
theorem Tryz.strconv_Atoi_bad (s : ByteArray) (hlim : s.size ≤ 281474976710656) (h1 : ∀ v, Lib.atoiAll s.data.toList ≠ .ok v) (h2 : Lib.atoiAll s.data.toList ≠ .range) (tp : TypeId) (p : Value) (w : World) (hvar : w.var? Tryz.prog "strconv.ErrSyntax" = some #[.iface tp p]) :
  Calls Tryz.prog 216 #[.string s] w fun e w' => ∃ N, e = .returned (.tuple #[.int .i64 0, .iface 233 (.pointer (some ⟨N, 0, none⟩))]) ∧ w.heap.size ≤ N ∧ w'.heap[N]? = some (.cells #[.string ⟨#[65, 116, 111, 105]⟩, .string s, .iface tp p] 251 (0, 0)) ∧ Below w.heap.size w w' := by
 cases e : Lib.atoiAll s.data.toList
 ·exact absurd e (h1 _)
 ·exact Any.strconv_Atoi_syntax_var Tryz.laysC172 s hlim e tp p w hvar
 ·exact absurd e h2
end Go.Proofs
