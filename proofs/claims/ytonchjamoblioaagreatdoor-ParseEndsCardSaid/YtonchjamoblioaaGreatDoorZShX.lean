/- Steps of a function body on data, and contracts of the functions of the seat, walked. -/
import Derived.Test.YtonchjamoblioaaGreatDoorP4
import Derived.Test.YtonchjamoblioaaGreatDoorRDef
import Derived.Test.YtonchjamoblioaaGreatDoorPR2
import Derived.Test.YtonchjamoblioaaGreatDoorVDef
import Derived.Shelf.Strings.Prefix
import Derived.Shelf.Strings.Fields
import Derived.Shelf.Strconv.ErrVarAll
set_option linter.unusedSimpArgs false
set_option linter.unusedVariables false
namespace Go.Proofs.YtonchjamoblioaaGreatDoor
open Go.Kin
/-! ### the document's rules read what the program's read -/
/-- from a state that is good: the same; or the document's reader stands at the place that the program throws. One that is bad stays so -/
def Rel {α : Type} (s : RS) (r : PR α) (q : RS × α) : Prop :=
 (s.b < 0 → match r with | .ok s1 x => q = (⟨s1.n, s.b, s1.m⟩, x) | .err a => q.1.b = a ∧ 0 ≤ a) ∧ (0 ≤ s.b → q.1.b = s.b)
section
variable {l : List Tk}
theorem fail_bad {s : RS} (h : 0 ≤ s.b) : (s.fail l).b = s.b := by unfold RS.fail; simp only; rw [if_neg (by omega)]
theorem isR_bad {w : List UInt8} {s : RS} (h : 0 ≤ s.b) : isR l w s = false := by unfold isR; rw [decide_eq_false (by omega)]; rfl
theorem isR_good {w : List UInt8} {s : RS} (h : s.b < 0) : isR l w s = isP l w ⟨s.n, s.m⟩ := by unfold isR; rw [decide_eq_true h]; rfl
theorem Rel.bind {α β : Type} {s : RS} {r : PR α} {q : RS × α} {f : PS → α → PR β} {g : RS × α → RS × β} (h : Rel s r q) (h1 : s.b < 0 → ∀ s1 x, r = .ok s1 x → Rel ⟨s1.n, s.b, s1.m⟩ (f s1 x) (g (⟨s1.n, s.b, s1.m⟩, x))) (h2 : ∀ p : RS × α, 0 ≤ p.1.b → (g p).1.b = p.1.b) : Rel s (r.bind f) (g q) := by
 refine ⟨fun hb => ?_, fun hb => ?_⟩
 ·have h3 := h.1 hb
  cases r with
  | ok s1 x => simp only at h3; subst h3; exact (h1 hb s1 x rfl).1 hb
  | err a => simp only at h3; simp only [PR.bind]; rw [h2 q (by omega)]; exact h3
 ·have := h.2 hb
  rw [h2 q (by omega)]; exact this
theorem Rel.map {α β : Type} {s : RS} {r : PR α} {q : RS × α} {F : α → β} (h : Rel s r q) : Rel s (r.bind fun s1 x => .ok s1 (F x)) (q.1, F q.2) :=
 h.bind (g := fun p => (p.1, F p.2)) (fun hb s1 x _ => ⟨fun _ => rfl, fun h => by simp only at h; omega⟩) (fun p _ => rfl)
theorem Rel.to {α : Type} {s : RS} {r : PR α} {q q' : RS × α} (h : Rel s r q) (e : q = q') : Rel s r q' := e ▸ h
variable (hk : TkOk l)
include hk
theorem rel_must {w : List UInt8} {s : RS} (hn : s.n < l.length) : Rel s (mustP l w ⟨s.n, s.m⟩) (mustR l w s, ()) := by
 refine ⟨fun hb => ?_, fun hb => ?_⟩
 ·unfold mustP mustR
  rw [isR_good hb]
  by_cases h : isP l w ⟨s.n, s.m⟩ = true
  ·rw [if_pos h, if_pos h]
   have := hk.on _ hn (isP_k h)
   simp only [RS.step, PS.adv, if_pos this]
  ·rw [if_neg h, if_neg h]
   exact ⟨by simp only [RS.fail, if_pos hb], (hk.a0 _ hn).1⟩
 ·simp only [mustR, isR_bad hb]; exact fail_bad hb
theorem rel_name {s : RS} (hn : s.n < l.length) : Rel s (nameP l ⟨s.n, s.m⟩) (nameS l s, nameT l s) := by
 refine ⟨fun hb => ?_, fun hb => ?_⟩
 ·have e : freeR l s = nameB l ⟨s.n, s.m⟩ := by unfold freeR; rw [decide_eq_true hb]; rfl
  unfold nameP nameS nameT
  rw [e]
  by_cases h : nameB l ⟨s.n, s.m⟩ = true
  ·rw [if_pos h, if_pos h, if_pos h]
   have := hk.on _ hn (nameB_k h)
   simp only [RS.step, PS.adv, if_pos this]
  ·rw [if_neg h, if_neg h, if_neg h]
   exact ⟨by simp only [RS.fail, if_pos hb], (hk.a0 _ hn).1⟩
 ·have e : freeR l s = false := by unfold freeR; rw [decide_eq_false (by omega)]; rfl
  simp only [nameS, e]; exact fail_bad hb
omit hk in
theorem must_bad {w : List UInt8} {s : RS} (h : 0 ≤ s.b) : (mustR l w s).b = s.b := by simp only [mustR, isR_bad h]; exact fail_bad h
omit hk in
theorem name_bad {s : RS} (h : 0 ≤ s.b) : (nameS l s).b = s.b := by
 have e : freeR l s = false := by unfold freeR; rw [decide_eq_false (by omega)]; rfl
 simp only [nameS, e]; exact fail_bad h
omit hk in
theorem vtx_bad {s : RS} (h : 0 ≤ s.b) : (vertexS l s).b = s.b := by
 have h1 := must_bad (l := l) (w := [40]) h
 have h2 := name_bad (l := l) (s := mustR l [40] s) (by omega)
 have h3 := must_bad (l := l) (w := [41]) (s := nameS l (mustR l [40] s)) (by omega)
 unfold vertexS; omega
theorem rel_vertex {s : RS} (hn : s.n < l.length) : Rel s (vertexP l ⟨s.n, s.m⟩) (vertexS l s, vertexT l s) := by
 refine ((rel_must hk (w := [40]) hn).bind (g := fun p => (mustR l [41] (nameS l p.1), nameT l p.1)) (fun hb s1 _ h1 => ?_) (fun p hp => ?_))
 ·have a1 := must_adv hk (s := ⟨s.n, s.m⟩) hn _ _ h1
  refine ((rel_name hk (s := ⟨s1.n, s.b, s1.m⟩) a1.2).bind (g := fun p => (mustR l [41] p.1, p.2)) (fun hb s2 x h2 => ?_) (fun p hp => must_bad hp))
  have a2 := name_adv hk (s := s1) a1.2 _ _ h2
  exact ((rel_must hk (w := [41]) (s := ⟨s2.n, s.b, s2.m⟩) a2.2).map (F := fun _ => x))
 ·have h2 := name_bad (l := l) hp
  simp only; rw [must_bad (by omega), h2]
omit hk in
theorem told_bad {s : RS} (h : 0 ≤ s.b) : (toldS l s).b = s.b := by
 have h1 := name_bad (l := l) h
 unfold toldS; rw [isR_bad (by omega)]; exact h1
/-- is the next token so? the same for both -/
theorem rel_told {s : RS} (hn : s.n < l.length) : Rel s (toldP l ⟨s.n, s.m⟩) (toldS l s, toldO l s) := by
 refine ((rel_name hk hn).bind (g := fun p => if isR l [46] p.1 = true then (nameS l (p.1.step l), (⟨2, p.2, nameT l (p.1.step l), 0, 0, []⟩ : Opd)) else (p.1, ⟨1, p.2, [], 0, 0, []⟩)) (fun hb s1 x h1 => ?_) (fun p hp => ?_)).to ?_
 ·have a1 := name_adv hk (s := ⟨s.n, s.m⟩) hn _ _ h1
  simp only [isR_good (l := l) (w := [46]) (s := ⟨s1.n, s.b, s1.m⟩) hb]
  by_cases hp : isP l [46] s1 = true
  ·rw [if_pos hp, if_pos hp]
   have a2 := is_adv hk a1.2 hp
   have es : (RS.step l ⟨s1.n, s.b, s1.m⟩) = ⟨s1.n + 1, s.b, s1.m⟩ := by simp only [RS.step, if_pos a2]
   rw [es]
   exact (rel_name hk (s := ⟨s1.n + 1, s.b, s1.m⟩) a2).map (F := fun key => (⟨2, x, key, 0, 0, []⟩ : Opd))
  ·rw [if_neg hp, if_neg hp]; exact ⟨fun _ => rfl, fun h => by simp only at h; omega⟩
 ·simp only [isR_bad hp]; rfl
 ·unfold toldS toldO; simp only; split <;> rfl
omit hk in
theorem opd_bad {s : RS} (h : 0 ≤ s.b) : (opdS l s).b = s.b := by
 have e : opdR l s = false := by unfold opdR; rw [decide_eq_false (by omega)]; rfl
 simp only [opdS, e]; exact told_bad h
theorem rel_opd {s : RS} (hn : s.n < l.length) : Rel s (opdP l ⟨s.n, s.m⟩) (opdS l s, opdO l s) := by
 refine ⟨fun hb => ?_, fun hb => opd_bad hb⟩
 have e : opdR l s = opdB l ⟨s.n, s.m⟩ := by unfold opdR; rw [decide_eq_true hb]; rfl
 unfold opdP opdS opdO
 rw [e]
 by_cases h : opdB l ⟨s.n, s.m⟩ = true
 ·rw [if_pos h, if_pos h, if_pos h]
  have := hk.on _ hn (by unfold opdB at h; simp at h; omega)
  simp only [RS.step, PS.adv, if_pos this]
 ·rw [if_neg h, if_neg h, if_neg h]; exact (rel_told hk hn).1 hb
theorem rel_cmp {a : Opd} {s : RS} (hn : s.n < l.length) : ∀ (r : List (List UInt8)) (i : Nat), Rel s (cmpP l a ⟨s.n, s.m⟩ i r) (cmpR l a s i r)
 | [], i => ⟨fun hb => ⟨by simp only [cmpR, RS.fail, if_pos hb], (hk.a0 _ hn).1⟩, fun hb => fail_bad hb⟩
 | w :: r, i => by
  unfold cmpP cmpR
  by_cases hb : s.b < 0
  ·rw [isR_good hb]
   by_cases h : isP l w ⟨s.n, s.m⟩ = true
   ·rw [if_pos h, if_pos h]
    have a2 := is_adv hk (s := ⟨s.n, s.m⟩) hn h
    have es : s.step l = ⟨s.n + 1, s.b, s.m⟩ := by simp only [RS.step, if_pos a2]
    rw [es]
    exact (rel_opd hk (s := ⟨s.n + 1, s.b, s.m⟩) a2).map (F := fun b => (⟨1 + i, a, b⟩ : Cd))
   ·rw [if_neg h, if_neg h]; exact rel_cmp hn r (i + 1)
  ·rw [isR_bad (by omega)]
   exact ⟨fun h => absurd h hb, fun h => (rel_cmp hn r (i + 1)).2 h⟩
omit hk in
theorem cmp_bad {a : Opd} {s : RS} (h : 0 ≤ s.b) : ∀ (r : List (List UInt8)) (i : Nat), (cmpR l a s i r).1.b = s.b
 | [], i => fail_bad h
 | w :: r, i => by unfold cmpR; rw [isR_bad h]; exact cmp_bad h r (i + 1)
theorem rel_cd {s : RS} (hn : s.n < l.length) : Rel s (cdP l ⟨s.n, s.m⟩) (condR l s) :=
 (rel_opd hk hn).bind (g := fun p => cmpR l p.2 p.1 0 cmpsW) (fun hb s1 x h1 => rel_cmp hk (s := ⟨s1.n, s.b, s1.m⟩) (opd_adv hk (s := ⟨s.n, s.m⟩) hn _ _ h1).2 _ _) (fun p hp => cmp_bad hp _ _)
omit hk in
theorem num_bad {s : RS} (h : 0 ≤ s.b) : (numS l s).b = s.b := by
 have e : numO l s = true := by unfold numO; rw [decide_eq_true h]; rfl
 unfold numS; rw [if_pos e]; exact fail_bad h
theorem rel_num {s : RS} (hn : s.n < l.length) : Rel s (numP l ⟨s.n, s.m⟩) (numS l s, numV l s) := by
 refine ⟨fun hb => ?_, fun hb => num_bad hb⟩
 unfold numP numS numV numO
 rw [decide_eq_false (by omega), Bool.false_or]
 by_cases h : (nth l s.n).k = 2
 ·have e : (!((nth l s.n).k == 2)) = false := by rw [h]; rfl
  rw [e, if_pos h]
  have a2 := hk.on _ hn (by omega)
  simp only [Bool.false_eq_true, if_false]
  have es : ∀ q : RS, q.n = s.n → q.step l = ⟨s.n + 1, q.b, q.m⟩ := fun q e => by simp only [RS.step, e, if_pos a2]
  unfold limS PS.adv
  by_cases hv : numB (nth l s.n).v.n = true
  ·rw [if_pos hv, es (s.much (nth l s.n).a) rfl, hv]
   simp only [Bool.true_and, RS.much]
   split <;> rfl
  ·have hv' : numB (nth l s.n).v.n = false := by simpa using hv
   rw [if_neg hv, es s rfl, hv']; rfl
 ·have e : (!((nth l s.n).k == 2)) = true := by simpa using h
  rw [e, if_neg h]
  simp only [if_true]
  exact ⟨by simp only [RS.fail, if_pos hb], (hk.a0 _ hn).1⟩
omit hk in
theorem isP_ne {w w' : List UInt8} {s : PS} (h : isP l w s = true) (hne : w ≠ w') : isP l w' s = false := by
 unfold isP at *
 rw [Bool.and_eq_true] at h
 have e : (nth l s.n).t = w := by simpa using h.2
 rw [e]
 have : (w == w') = false := by simpa using hne
 rw [this, Bool.and_false]
theorem rel_sign : ∀ (f : Nat) (s : RS) (x : Ex), s.n < l.length → Rel s (signP l f ⟨s.n, s.m⟩ x) (signR l f s x)
 | 0, s, x, hn => ⟨fun _ => rfl, fun _ => rfl⟩
 | f + 1, s, x, hn => by
  unfold signP signR
  by_cases hb : s.b < 0
  ·rw [isR_good hb, isR_good hb, isR_good hb]
   have go : ∀ w, isP l w ⟨s.n, s.m⟩ = true → s.step l = ⟨s.n + 1, s.b, s.m⟩ ∧ s.n + 1 < l.length := fun w hw => by
    have a2 := is_adv hk (s := ⟨s.n, s.m⟩) hn hw
    exact ⟨by simp only [RS.step, if_pos a2], a2⟩
   by_cases h1 : isP l [42] ⟨s.n, s.m⟩ = true
   ·obtain ⟨e1, e2⟩ := go _ h1
    rw [if_pos h1, h1, Bool.true_or, Bool.true_or, if_pos rfl, isP_ne h1 (by decide : ([42] : List UInt8) ≠ [63]), isP_ne h1 (by decide : ([42] : List UInt8) ≠ [43]), e1]
    exact rel_sign f ⟨s.n + 1, s.b, s.m⟩ _ e2
   ·have h1' : isP l [42] ⟨s.n, s.m⟩ = false := by simpa using h1
    rw [if_neg h1, h1', Bool.false_or]
    by_cases h2 : isP l [43] ⟨s.n, s.m⟩ = true
    ·obtain ⟨e1, e2⟩ := go _ h2
     rw [if_pos h2, h2, Bool.true_or, if_pos rfl, isP_ne h2 (by decide : ([43] : List UInt8) ≠ [63]), e1]
     exact rel_sign f ⟨s.n + 1, s.b, s.m⟩ _ e2
    ·have h2' : isP l [43] ⟨s.n, s.m⟩ = false := by simpa using h2
     rw [if_neg h2, h2', Bool.false_or]
     by_cases h3 : isP l [63] ⟨s.n, s.m⟩ = true
     ·obtain ⟨e1, e2⟩ := go _ h3
      rw [if_pos h3, if_pos h3, if_pos h3, e1]
      exact rel_sign f ⟨s.n + 1, s.b, s.m⟩ _ e2
     ·rw [if_neg h3, if_neg h3]; exact ⟨fun _ => rfl, fun _ => rfl⟩
  ·rw [isR_bad (by omega), isR_bad (by omega), isR_bad (by omega)]
   exact ⟨fun h => absurd h hb, fun _ => rfl⟩
omit hk in
theorem sign_bad {s : RS} (h : 0 ≤ s.b) : ∀ (f : Nat) (x : Ex), (signR l f s x).1.b = s.b
 | 0, x => rfl
 | f + 1, x => by unfold signR; rw [isR_bad h, isR_bad h, isR_bad h]; rfl
/-- a rule of both -/
def RelR (l : List Tk) (n0 : Nat) (rd : PS → PR Ex) (it : RS → RS × Ex) : Prop := ∀ s : RS, n0 ≤ s.n → s.n < l.length → Rel s (rd ⟨s.n, s.m⟩) (it s)
omit hk in
theorem sep_bad {it : RS → RS × Ex} {w : List UInt8} {s : RS} (h : 0 ≤ s.b) : ∀ (f : Nat) (acc : List Ex), (sepR l it w f s acc).1.b = s.b
 | 0, acc => rfl
 | f + 1, acc => by unfold sepR; rw [isR_bad h]; rfl
theorem rel_sep {rd : PS → PR Ex} {it : RS → RS × Ex} {w : List UInt8} {n0 : Nat} (hr : RelR l n0 rd it) (ha : ∀ s : PS, n0 ≤ s.n → s.n < l.length → AdvP l s (rd s)) : ∀ (f g : Nat) (s : RS) (acc : List Ex), n0 ≤ s.n → s.n < l.length → l.length ≤ s.n + f → l.length ≤ s.n + g →
  Rel s (sepP l rd w f ⟨s.n, s.m⟩ acc) (sepR l it w g (it s).1 (acc ++ [(it s).2]))
 | 0, g, s, acc, h0, hn, hf, hg => by omega
 | f + 1, 0, s, acc, h0, hn, hf, hg => by omega
 | f + 1, g + 1, s, acc, h0, hn, hf, hg => by
  refine (hr s h0 hn).bind (g := fun p => sepR l it w (g + 1) p.1 (acc ++ [p.2])) (fun hb s1 x h1 => ?_) (fun p hp => sep_bad hp _ _)
  have a1 := ha ⟨s.n, s.m⟩ h0 hn _ _ h1
  simp only [sepR]
  rw [isR_good (l := l) (w := w) (s := ⟨s1.n, s.b, s1.m⟩) hb]
  by_cases hp : isP l w s1 = true
  ·rw [if_pos hp, if_pos hp]
   have a2 := is_adv hk a1.2 hp
   have es : (RS.step l ⟨s1.n, s.b, s1.m⟩) = ⟨s1.n + 1, s.b, s1.m⟩ := by simp only [RS.step, if_pos a2]
   rw [es]
   have h2 := a1.1
   simp only at h2
   exact rel_sep hr ha f g ⟨s1.n + 1, s.b, s1.m⟩ _ (by simp only; omega) a2 (by simp only; omega) (by simp only; omega)
  ·rw [if_neg hp, if_neg hp]; exact ⟨fun _ => rfl, fun h => by simp only at h; omega⟩
theorem rel_join {rd : PS → PR Ex} {it : RS → RS × Ex} {w : List UInt8} {k : Int} {n0 : Nat} (hr : RelR l n0 rd it) (ha : ∀ s : PS, n0 ≤ s.n → s.n < l.length → AdvP l s (rd s)) : RelR l n0 (joinP l rd w k) (joinR l it w k) := fun s h0 hn =>
 (rel_sep hk (w := w) hr ha (l.length + 1) (l.length + 1) s [] h0 hn (by omega) (by omega)).map (F := oneEx k)
omit hk in
theorem join_bad {it : RS → RS × Ex} {w : List UInt8} {k : Int} (hi : ∀ s : RS, 0 ≤ s.b → (it s).1.b = s.b) {s : RS} (h : 0 ≤ s.b) : (joinR l it w k s).1.b = s.b := by
 have := hi s h
 simp only [joinR]; rw [sep_bad (by omega)]; exact this
omit hk in
theorem item_bad : ∀ (f : Nat) (s : RS), 0 ≤ s.b → (itemR l f s).1.b = s.b
 | 0, s, h => rfl
 | f + 1, s, h => by
  unfold itemR; rw [isR_bad h]
  have := name_bad (l := l) h
  simp only [Bool.false_eq_true, if_false]; rw [sign_bad (by omega)]; exact this
theorem item_advP (f : Nat) (n0 : Nat) : ∀ s : PS, n0 ≤ s.n → s.n < l.length → AdvP l s (itemP l f s) := fun s _ h => (item_adv hk f s h).adv
theorem row_advP (f : Nat) (n0 : Nat) : ∀ s : PS, n0 ≤ s.n → s.n < l.length → AdvP l s (rowP l (itemP l f) s) := fun s _ h => (row_adv hk h fun s' _ h' => item_adv hk f s' h').adv
theorem rel_item : ∀ (f n0 : Nat), l.length ≤ n0 + f → RelR l n0 (itemP l f) (itemR l f)
 | 0, n0, hf => fun s h0 hn => by omega
 | f + 1, n0, hf => fun s h0 hn => by
  by_cases hb : s.b < 0
  ·unfold itemP itemR
   rw [isR_good hb]
   by_cases hp : isP l [40] ⟨s.n, s.m⟩ = true
   ·rw [if_pos hp, if_pos hp]
    have a2 := is_adv hk (s := ⟨s.n, s.m⟩) hn hp
    have es : s.step l = ⟨s.n + 1, s.b, s.m⟩ := by simp only [RS.step, if_pos a2]
    rw [es]
    refine ((rel_join hk (w := [124]) (k := 3) (rel_join hk (w := [46]) (k := 2) (rel_item f (n0 + 1) (by omega)) (item_advP hk f _)) (row_advP hk f _) ⟨s.n + 1, s.b, s.m⟩ (by simp only; omega) a2).bind (g := fun p => signR l (l.length + 1) (mustR l [41] p.1) p.2) (fun hb s1 x h1 => ?_) (fun p hp => ?_))
    ·have a3 := expr_adv hk (s := ⟨s.n + 1, s.m⟩) a2 (fun s' _ h' => item_adv hk f s' h') _ _ h1
     refine (rel_must hk (w := [41]) (s := ⟨s1.n, s.b, s1.m⟩) a3.1.2).bind (g := fun p => signR l (l.length + 1) p.1 x) (fun hb s2 _ h2 => ?_) (fun p hp => sign_bad hp _ _)
     have a4 := must_adv hk (s := s1) a3.1.2 _ _ h2
     exact rel_sign hk _ ⟨s2.n, s.b, s2.m⟩ x a4.2
    ·have := must_bad (l := l) (w := [41]) hp
     rw [sign_bad (by omega)]; exact this
   ·rw [if_neg hp, if_neg hp]
    refine (rel_name hk hn).bind (g := fun p => signR l (l.length + 1) p.1 (.mk 1 p.2 [])) (fun hb s1 x h1 => ?_) (fun p hp => sign_bad hp _ _)
    have a1 := name_adv hk (s := ⟨s.n, s.m⟩) hn _ _ h1
    exact rel_sign hk _ ⟨s1.n, s.b, s1.m⟩ _ a1.2
  ·exact ⟨fun h => absurd h hb, fun h => item_bad _ _ h⟩
theorem rel_ex {s : RS} (hn : s.n < l.length) : Rel s (exP l ⟨s.n, s.m⟩) (exR l s) :=
 rel_join hk (w := [124]) (k := 3) (rel_join hk (w := [46]) (k := 2) (rel_item hk (l.length + 1) 0 (by omega)) (item_advP hk _ 0)) (row_advP hk _ 0) s (Nat.zero_le _) hn
omit hk in
theorem ex_bad {s : RS} (h : 0 ≤ s.b) : (exR l s).1.b = s.b := join_bad (fun s h => join_bad (fun s h => item_bad _ s h) h) h
theorem exR_size {s : RS} (hn : s.n < l.length) (h : (exR l s).1.b < 0) : (exR l s).2.size ≤ 1000000 := by
 by_cases hb : s.b < 0
 ·have h1 := (rel_ex hk hn).1 hb
  cases hr : exP l ⟨s.n, s.m⟩ with
  | ok s1 x =>
   rw [hr] at h1; simp only at h1; rw [h1]
   have := exP_adv hk (s := ⟨s.n, s.m⟩) hn _ _ hr
   have := hk.few
   simp only at *; omega
  | err a => rw [hr] at h1; simp only at h1; omega
 ·have := ex_bad (l := l) (s := s) (by omega); omega
theorem rel_whole {s : RS} (hn : s.n < l.length) : Rel s (wholeP l ⟨s.n, s.m⟩) (wholeR l s) := by
 refine ((rel_ex hk hn).bind (g := fun p => (if (decide (p.1.b < 0) && decide (24 < p.2.size)) = true then p.1.much (nth l s.n).a else p.1, p.2)) (fun hb s1 x h1 => ?_) (fun p hp => ?_))
 ·refine ⟨fun _ => ?_, fun h => by simp only at h; omega⟩
  simp only [decide_eq_true hb, Bool.true_and]
  unfold limS
  by_cases h : 24 < x.size
  ·simp only [decide_eq_true h, if_true, Bool.true_and, RS.much]
   split <;> rfl
  ·simp only [decide_eq_false h, Bool.false_eq_true, if_false, Bool.false_and]
 ·simp only [decide_eq_false (show ¬ p.1.b < 0 by omega), Bool.false_and, Bool.false_eq_true, if_false]
end
end Go.Proofs.YtonchjamoblioaaGreatDoor
namespace Go.Proofs.YtonchjamoblioaaGreatDoor
open Go.Kin
set_option maxRecDepth 100000
set_option maxHeartbeats 0
theorem ritem_ok {l : List Tk} (hk : TkOk l) : ∀ (f : Nat) (s : RS), s.n < l.length → l.length ≤ s.n + f → FnM Laid Tryz.prog 212 134 [tksD l, iv s.n, iv s.b, iv s.m] [.lp 900 0] (.ret (rfC l (itemR l f s).1) (exD (itemR l f s).2))
 | 0, s, hn, h => by omega
 | f + 1, s, hn, h => ritem_step l s hk hn f fun q h1 h2 => ritem_ok hk f q h2 (by omega)
theorem rexp_ok {l : List Tk} (hk : TkOk l) (s : RS) (hn : s.n < l.length) : FnM Laid Tryz.prog 158 134 [tksD l, iv s.n, iv s.b, iv s.m] [.lp 900 0] (.ret (rfC l (exR l s).1) (exD (exR l s).2)) :=
 rexpr_ok l s hk hn (rowR l (itemR l (l.length + 1))) (fun q _ h => rrow_ok l q hk h _ (fun q2 _ h2 => ritem_ok hk _ q2 h2 (by omega)) (itemR_on _ _)) (joinR_on (itemR_on _ _))
theorem rwhole_ok (l : List Tk) (s : RS) (hk : TkOk l) (hn : s.n < l.length) : FnM Laid Tryz.prog 117 134 [tksD l, iv s.n, iv s.b, iv s.m] [.lp 900 0] (.ret (rfC l ((wholeR l s).1)) (exD (wholeR l s).2)) := by
 refine FnM_of Tryz.func117 Tryz.ntmps117 rfl (by as_aux_lemma => kernel_rfl) (Nat.le_of_ble_eq_true rfl) (fun R b0 hR => ?_)
 obtain ⟨_, b, cs, T, C⟩ := R
 obtain rfl : _ = Tryz.prog := hR.p
 have h1 := exR_on (l := l) s.n s (Nat.le_refl _) hn
 refine sreg te_ok ?_
 refine sq ?_
 apply Exec.regionL te_ok
 ·intro o Q hQ
  simp only [go_sem]
  repeat refine ob2 ?_
  refine kcallM 900 hR.inv te_ok rfl rfl rfl rfl rfl rfl rfl rfl rfl (rnext_ok l s hk hn) ?_
  simp only [go_sem]
  repeat refine ob2 ?_
  exact hQ
 refine sq ?_
 apply Exec.regionL te_ok
 ·intro o Q hQ
  simp only [go_sem]
  repeat refine ob2 ?_
  refine kcallM 900 hR.inv te_ok rfl rfl rfl rfl rfl rfl rfl rfl rfl (rexp_ok hk s hn) ?_
  simp only [go_sem]
  repeat refine ob2 ?_
  exact hQ
 refine sq ?_
 refine sq ?_
 have hsz : (exR l s).1.b < 0 → (exR l s).2.size ≤ 1000000 := exR_size hk hn
 apply Exec.regionL te_ok
 ·intro o Q hQ
  simp only [go_sem]
  repeat refine ob2 ?_
  refine kcallG hR.inv te_ok rfl rfl rfl rfl rfl rfl ob1 (fun hq => rsize_ok _ (hsz (by simpa using hq))) ?_
  simp only [go_sem]
  repeat refine ob2 ?_
  exact hQ
 refine Exec.cond_split rfl (fun h0 => ?_) (fun h0 => ?_)
 ·have h2 : wholeB l s = true := by rw [← h0]; unfold wholeB; congr 1; exact decide_eq_decide.2 (by omega)
  apply Exec.regionL te_ok
  ·intro o Q hQ
   simp only [go_sem]
   repeat refine ob2 ?_
   refine kcallM 900 hR.inv te_ok rfl rfl rfl rfl rfl rfl rfl rfl rfl (rmuch_ok l (exR l s).1 _) ?_
   simp only [go_sem]
   repeat refine ob2 ?_
   exact hQ
  refine sreg te_ok ?_
  refine Exec.retsMu hR te_ok rfl .nil rfl rfl rfl ?_ (.inr ⟨_, rfl⟩)
  refine ⟨_, _, rfl, ?_⟩
  simp only [go_sem, wholeR, if_pos h2]
 ·have h2 : ¬ (wholeB l s = true) := by rw [show wholeB l s = false from by rw [← h0]; unfold wholeB; congr 1; exact decide_eq_decide.2 (by omega)]; decide
  refine sk ?_
  refine sreg te_ok ?_
  refine Exec.retsMu hR te_ok rfl .nil rfl rfl rfl ?_ (.inr ⟨_, rfl⟩)
  refine ⟨_, _, rfl, ?_⟩
  simp only [go_sem, wholeR, if_neg h2]
end Go.Proofs.YtonchjamoblioaaGreatDoor
namespace Go.Proofs.YtonchjamoblioaaGreatDoor
open Go.Kin
set_option maxRecDepth 100000
set_option maxHeartbeats 0
section
variable {l : List Tk} {s : RS}
theorem patR_1 (h : isR l [61, 91] (vertexS l s) = true) : patR l s = (vertexS l (mustR l [93, 61, 62] (wholeR l ((vertexS l s).step l)).1), ⟨vertexT l s, vertexT l (mustR l [93, 61, 62] (wholeR l ((vertexS l s).step l)).1), true, [], [], (wholeR l ((vertexS l s).step l)).2⟩) := by unfold patR; rw [if_pos h]
theorem patR_2 (h : ¬ (isR l [61, 91] (vertexS l s) = true)) (h1 : isR l [97, 115] (nameS l (mustR l [45, 91] (vertexS l s))) = true) : patR l s = (vertexS l (mustR l [93, 45, 62] (nameS l ((nameS l (mustR l [45, 91] (vertexS l s))).step l))), ⟨vertexT l s, vertexT l (mustR l [93, 45, 62] (nameS l ((nameS l (mustR l [45, 91] (vertexS l s))).step l))), false, nameT l (mustR l [45, 91] (vertexS l s)), nameT l ((nameS l (mustR l [45, 91] (vertexS l s))).step l), .mk 0 [] []⟩) := by unfold patR; rw [if_neg h, if_pos h1]
theorem patR_3 (h : ¬ (isR l [61, 91] (vertexS l s) = true)) (h1 : ¬ (isR l [97, 115] (nameS l (mustR l [45, 91] (vertexS l s))) = true)) : patR l s = (vertexS l (mustR l [93, 45, 62] (nameS l (mustR l [45, 91] (vertexS l s)))), ⟨vertexT l s, vertexT l (mustR l [93, 45, 62] (nameS l (mustR l [45, 91] (vertexS l s)))), false, nameT l (mustR l [45, 91] (vertexS l s)), [], .mk 0 [] []⟩) := by unfold patR; rw [if_neg h, if_neg h1]
end
theorem rpattern_ok (l : List Tk) (s : RS) (hk : TkOk l) (hn : s.n < l.length) : FnM Laid Tryz.prog 108 134 [tksD l, iv s.n, iv s.b, iv s.m] [.lp 900 0] (.ret (rfC l ((patR l s).1)) (.ag (ptC (patR l s).2))) := by
 refine FnM_of Tryz.func108 Tryz.ntmps108 rfl (by as_aux_lemma => kernel_rfl) (Nat.le_of_ble_eq_true rfl) (fun R b0 hR => ?_)
 obtain ⟨_, b, cs, T, C⟩ := R
 obtain rfl : _ = Tryz.prog := hR.p
 have hv := vertexS_lt hn
 have hz : kdX (.mk 0 [] []) = .sl 3 0 0 (kdR []) := kd_eq _
 refine sreg te_ok ?_
 refine sreg te_ok ?_
 refine sq ?_
 apply Exec.regionL te_ok
 ·intro o Q hQ
  simp only [go_sem]
  repeat refine ob2 ?_
  refine kcallM 900 hR.inv te_ok rfl rfl rfl rfl rfl rfl rfl rfl rfl (rvertex_ok l s hk hn) ?_
  simp only [go_sem]
  repeat refine ob2 ?_
  exact hQ
 refine sq ?_
 refine sq ?_
 apply Exec.regionL te_ok
 ·intro o Q hQ
  simp only [go_sem]
  repeat refine ob2 ?_
  refine kcallM 900 hR.inv te_ok rfl rfl rfl rfl rfl rfl rfl rfl rfl (ris_ok l (vertexS l s) [61, 91] hk hv) ?_
  simp only [go_sem]
  repeat refine ob2 ?_
  exact hQ
 refine Exec.cond_split rfl (fun h0 => ?_) (fun h0 => ?_)
 ·have hw := wholeR_on (l := l) 0 ((vertexS l s).step l) (Nat.zero_le _) (step_lt hv)
  refine sq ?_
  apply Exec.regionL te_ok
  ·intro o Q hQ
   simp only [go_sem]
   repeat refine ob2 ?_
   refine kcallM 900 hR.inv te_ok rfl rfl rfl rfl rfl rfl rfl rfl rfl (rstep_ok l (vertexS l s) hk hv) ?_
   simp only [go_sem]
   repeat refine ob2 ?_
   exact hQ
  refine sreg te_ok ?_
  refine sq ?_
  apply Exec.regionL te_ok
  ·intro o Q hQ
   simp only [go_sem]
   repeat refine ob2 ?_
   refine kcallM 900 hR.inv te_ok rfl rfl rfl rfl rfl rfl rfl rfl rfl (rwhole_ok l ((vertexS l s).step l) hk (step_lt hv)) ?_
   simp only [go_sem]
   repeat refine ob2 ?_
   exact hQ
  apply Exec.regionL te_ok
  ·intro o Q hQ
   simp only [go_sem]
   repeat refine ob2 ?_
   refine kcallM 900 hR.inv te_ok rfl rfl rfl rfl rfl rfl rfl rfl rfl (rmust_ok l (wholeR l ((vertexS l s).step l)).1 [93, 61, 62] hk hw.2) ?_
   simp only [go_sem]
   repeat refine ob2 ?_
   exact hQ
  refine sq ?_
  apply Exec.regionL te_ok
  ·intro o Q hQ
   simp only [go_sem]
   repeat refine ob2 ?_
   refine kcallM 900 hR.inv te_ok rfl rfl rfl rfl rfl rfl rfl rfl rfl (rvertex_ok l (mustR l [93, 61, 62] (wholeR l ((vertexS l s).step l)).1) hk (must_lt hw.2)) ?_
   simp only [go_sem]
   repeat refine ob2 ?_
   exact hQ
  refine sreg te_ok ?_
  refine Exec.retsMu hR te_ok rfl .nil rfl rfl rfl ?_ (.inr ⟨_, rfl⟩)
  have hj := patR_1 h0
  rw [hj]
  refine ⟨_, _, rfl, ?_⟩
  simp only [go_sem]
 ·have hb0 : ¬ (isR l [61, 91] (vertexS l s) = true) := by rw [h0]; decide
  have hb2 : (nameS l (mustR l [45, 91] (vertexS l s))).n < l.length := nameS_lt (must_lt hv)
  refine sq ?_
  apply Exec.regionL te_ok
  ·intro o Q hQ
   simp only [go_sem]
   repeat refine ob2 ?_
   refine kcallM 900 hR.inv te_ok rfl rfl rfl rfl rfl rfl rfl rfl rfl (rmust_ok l (vertexS l s) [45, 91] hk hv) ?_
   simp only [go_sem]
   repeat refine ob2 ?_
   exact hQ
  refine sq ?_
  apply Exec.regionL te_ok
  ·intro o Q hQ
   simp only [go_sem]
   repeat refine ob2 ?_
   refine kcallM 900 hR.inv te_ok rfl rfl rfl rfl rfl rfl rfl rfl rfl (rname_ok l (mustR l [45, 91] (vertexS l s)) hk (must_lt hv)) ?_
   simp only [go_sem]
   repeat refine ob2 ?_
   exact hQ
  refine sq ?_
  refine sq ?_
  apply Exec.regionL te_ok
  ·intro o Q hQ
   simp only [go_sem]
   repeat refine ob2 ?_
   refine kcallM 900 hR.inv te_ok rfl rfl rfl rfl rfl rfl rfl rfl rfl (ris_ok l (nameS l (mustR l [45, 91] (vertexS l s))) [97, 115] hk hb2) ?_
   simp only [go_sem]
   repeat refine ob2 ?_
   exact hQ
  refine Exec.cond_split rfl (fun h1 => ?_) (fun h1 => ?_)
  ·have hb3 : (nameS l ((nameS l (mustR l [45, 91] (vertexS l s))).step l)).n < l.length := nameS_lt (step_lt hb2)
   refine sq ?_
   apply Exec.regionL te_ok
   ·intro o Q hQ
    simp only [go_sem]
    repeat refine ob2 ?_
    refine kcallM 900 hR.inv te_ok rfl rfl rfl rfl rfl rfl rfl rfl rfl (rstep_ok l (nameS l (mustR l [45, 91] (vertexS l s))) hk hb2) ?_
    simp only [go_sem]
    repeat refine ob2 ?_
    exact hQ
   apply Exec.regionL te_ok
   ·intro o Q hQ
    simp only [go_sem]
    repeat refine ob2 ?_
    refine kcallM 900 hR.inv te_ok rfl rfl rfl rfl rfl rfl rfl rfl rfl (rname_ok l ((nameS l (mustR l [45, 91] (vertexS l s))).step l) hk (step_lt hb2)) ?_
    simp only [go_sem]
    repeat refine ob2 ?_
    exact hQ
   apply Exec.regionL te_ok
   ·intro o Q hQ
    simp only [go_sem]
    repeat refine ob2 ?_
    refine kcallM 900 hR.inv te_ok rfl rfl rfl rfl rfl rfl rfl rfl rfl (rmust_ok l (nameS l ((nameS l (mustR l [45, 91] (vertexS l s))).step l)) [93, 45, 62] hk hb3) ?_
    simp only [go_sem]
    repeat refine ob2 ?_
    exact hQ
   refine sq ?_
   apply Exec.regionL te_ok
   ·intro o Q hQ
    simp only [go_sem]
    repeat refine ob2 ?_
    refine kcallM 900 hR.inv te_ok rfl rfl rfl rfl rfl rfl rfl rfl rfl (rvertex_ok l (mustR l [93, 45, 62] (nameS l ((nameS l (mustR l [45, 91] (vertexS l s))).step l))) hk (must_lt hb3)) ?_
    simp only [go_sem]
    repeat refine ob2 ?_
    exact hQ
   refine sreg te_ok ?_
   refine Exec.retsMu hR te_ok rfl .nil rfl rfl rfl ?_ (.inr ⟨_, rfl⟩)
   have hj := patR_2 hb0 h1
   rw [hj]
   refine ⟨_, _, rfl, ?_⟩
   simp only [go_sem, hz]
   exact ⟨rfl, rfl⟩
  ·have hb1 : ¬ (isR l [97, 115] (nameS l (mustR l [45, 91] (vertexS l s))) = true) := by rw [h1]; decide
   refine sk ?_
   apply Exec.regionL te_ok
   ·intro o Q hQ
    simp only [go_sem]
    repeat refine ob2 ?_
    refine kcallM 900 hR.inv te_ok rfl rfl rfl rfl rfl rfl rfl rfl rfl (rmust_ok l (nameS l (mustR l [45, 91] (vertexS l s))) [93, 45, 62] hk hb2) ?_
    simp only [go_sem]
    repeat refine ob2 ?_
    exact hQ
   refine sq ?_
   apply Exec.regionL te_ok
   ·intro o Q hQ
    simp only [go_sem]
    repeat refine ob2 ?_
    refine kcallM 900 hR.inv te_ok rfl rfl rfl rfl rfl rfl rfl rfl rfl (rvertex_ok l (mustR l [93, 45, 62] (nameS l (mustR l [45, 91] (vertexS l s)))) hk (must_lt hb2)) ?_
    simp only [go_sem]
    repeat refine ob2 ?_
    exact hQ
   refine sreg te_ok ?_
   refine Exec.retsMu hR te_ok rfl .nil rfl rfl rfl ?_ (.inr ⟨_, rfl⟩)
   have hj := patR_3 hb0 hb1
   rw [hj]
   refine ⟨_, _, rfl, ?_⟩
   simp only [go_sem, hz]
   exact ⟨rfl, rfl⟩
end Go.Proofs.YtonchjamoblioaaGreatDoor
namespace Go.Proofs
open Go.Shelf
def Tryz.lays137_ren : Go.Shelf.Ren := ⟨fun | 137 => 164 | 217 => 197 | 266 => 218 | n => n, fun | 9 => 9 | 5 => 5 | 3 => 3 | n => n, fun | n => n⟩
theorem Tryz.lays137 : Go.Proofs.Lays.n137 Tryz.prog Tryz.lays137_ren := {
 mixed := by kernel_rfl
 f137 := Tryz.func164.trans (congrArg some (by kernel_rfl))
 f217 := Tryz.func197.trans (congrArg some (by kernel_rfl))
 f266 := Tryz.func218.trans (congrArg some (by kernel_rfl))
 t3 := Tryz.underlying3
 a3 := Tryz.isAgg3
 z3 := Tryz.sizeOf3
 v3 := Tryz.zeroValue3
 t5 := Tryz.underlying5
 a5 := Tryz.isAgg5
 z5 := Tryz.sizeOf5
 v5 := Tryz.zeroValue5
 t9 := Tryz.underlying9
 a9 := Tryz.isAgg9
 z9 := Tryz.sizeOf9
 v9 := Tryz.zeroValue9 }
open Go.RowKit in
theorem Tryz.strings_IndexByte (s : ByteArray) (c : Int) (w : World) :
  Calls Tryz.prog 164 #[.string s, .int .u8 c] w fun e w' => e = .returned (.int .i64 (Lib.indexByte s.data.toList c.toNat.toUInt8)) ∧ w' = w := Any.strings_IndexByte Tryz.lays137 s c w
def Tryz.laysC172_ren : Go.Shelf.Ren := ⟨fun | 172 => 216 | 244 => 228 | 245 => 229 | 247 => 232 | 279 => 233 | 280 => 234 | 281 => 235 | 282 => 236 | 287 => 239 | 316 => 240 | 171 => 47 | 205 => 241 | 321 => 242 | 322 => 243 | 243 => 93 | 246 => 152 | 283 => 184 | 284 => 185 | 285 => 186 | 286 => 187 | 129 => 207 | 317 => 206 | 318 => 208 | 319 => 209 | 320 => 210 | 337 => 224 | 338 => 225 | n => n, fun | 9 => 9 | 3 => 3 | 75 => 186 | 76 => 187 | 4 => 4 | 5 => 5 | 167 => 230 | 37 => 182 | 0 => 0 | 85 => 231 | 2 => 2 | 168 => 233 | 53 => 191 | 175 => 247 | 46 => 209 | 210 => 251 | 127 => 203 | 145 => 258 | 143 => 256 | 21 => 21 | 171 => 190 | 173 => 194 | 212 => 206 | 51 => 207 | 20 => 20 | 213 => 208 | 232 => 228 | 233 => 229 | 80 => 169 | n => n, fun | 15 => 6 | 16 => 7 | 17 => 0 | 18 => 4 | 19 => 5 | n => n⟩
theorem Tryz.laysC172 : Go.Proofs.LaysC.n172 Tryz.prog Tryz.laysC172_ren := {
 mixed := by kernel_rfl
 f129 := Tryz.func207.trans (congrArg some (by kernel_rfl))
 f171 := Tryz.func47.trans (congrArg some (by kernel_rfl))
 f172 := Tryz.func216.trans (congrArg some (by kernel_rfl))
 f205 := Tryz.func241.trans (congrArg some (by kernel_rfl))
 f243 := Tryz.func93.trans (congrArg some (by kernel_rfl))
 f244 := Tryz.func228.trans (congrArg some (by kernel_rfl))
 f245 := Tryz.func229.trans (congrArg some (by kernel_rfl))
 f246 := Tryz.func152.trans (congrArg some (by kernel_rfl))
 f247 := Tryz.func232.trans (congrArg some (by kernel_rfl))
 f279 := Tryz.func233.trans (congrArg some (by kernel_rfl))
 f280 := Tryz.func234.trans (congrArg some (by kernel_rfl))
 f281 := Tryz.func235.trans (congrArg some (by kernel_rfl))
 f282 := Tryz.func236.trans (congrArg some (by kernel_rfl))
 f283 := Tryz.func184.trans (congrArg some (by kernel_rfl))
 f284 := Tryz.func185.trans (congrArg some (by kernel_rfl))
 f285 := Tryz.func186.trans (congrArg some (by kernel_rfl))
 f286 := Tryz.func187.trans (congrArg some (by kernel_rfl))
 f287 := Tryz.func239.trans (congrArg some (by kernel_rfl))
 f316 := Tryz.func240.trans (congrArg some (by kernel_rfl))
 f317 := Tryz.func206.trans (congrArg some (by kernel_rfl))
 f318 := Tryz.func208.trans (congrArg some (by kernel_rfl))
 f319 := Tryz.func209.trans (congrArg some (by kernel_rfl))
 f320 := Tryz.func210.trans (congrArg some (by kernel_rfl))
 f321 := Tryz.func242.trans (congrArg some (by kernel_rfl))
 f322 := Tryz.func243.trans (congrArg some (by kernel_rfl))
 f337 := Tryz.func224.trans (congrArg some (by kernel_rfl))
 f338 := Tryz.func225.trans (congrArg some (by kernel_rfl))
 t0 := Tryz.underlying0
 a0 := Tryz.isAgg0
 z0 := Tryz.sizeOf0
 v0 := Tryz.zeroValue0
 t2 := Tryz.underlying2
 a2 := Tryz.isAgg2
 z2 := Tryz.sizeOf2
 v2 := Tryz.zeroValue2
 t3 := Tryz.underlying3
 a3 := Tryz.isAgg3
 z3 := Tryz.sizeOf3
 v3 := Tryz.zeroValue3
 t4 := Tryz.underlying4
 a4 := Tryz.isAgg4
 z4 := Tryz.sizeOf4
 v4 := Tryz.zeroValue4
 t5 := Tryz.underlying5
 a5 := Tryz.isAgg5
 z5 := Tryz.sizeOf5
 v5 := Tryz.zeroValue5
 t9 := Tryz.underlying9
 a9 := Tryz.isAgg9
 z9 := Tryz.sizeOf9
 v9 := Tryz.zeroValue9
 t20 := Tryz.underlying20
 a20 := Tryz.isAgg20
 z20 := Tryz.sizeOf20
 v20 := Tryz.zeroValue20
 t21 := Tryz.underlying21
 a21 := Tryz.isAgg21
 z21 := Tryz.sizeOf21
 v21 := Tryz.zeroValue21
 t37 := Tryz.underlying182
 a37 := Tryz.isAgg182
 z37 := Tryz.sizeOf182
 v37 := Tryz.zeroValue182
 t46 := Tryz.underlying209
 a46 := Tryz.isAgg209
 z46 := Tryz.sizeOf209
 v46 := Tryz.zeroValue209
 t51 := Tryz.underlying207
 a51 := Tryz.isAgg207
 z51 := Tryz.sizeOf207
 v51 := Tryz.zeroValue207
 t53 := Tryz.underlying191
 a53 := Tryz.isAgg191
 z53 := Tryz.sizeOf191
 v53 := Tryz.zeroValue191
 t75 := Tryz.underlying186
 a75 := Tryz.isAgg186
 z75 := Tryz.sizeOf186
 v75 := Tryz.zeroValue186
 t76 := Tryz.underlying187
 a76 := Tryz.isAgg187
 z76 := Tryz.sizeOf187
 v76 := Tryz.zeroValue187
 t85 := Tryz.underlying231
 a85 := Tryz.isAgg231
 z85 := Tryz.sizeOf231
 v85 := Tryz.zeroValue231
 t127 := Tryz.underlying203
 a127 := Tryz.isAgg203
 z127 := Tryz.sizeOf203
 v127 := Tryz.zeroValue203
 t143 := Tryz.underlying256
 a143 := Tryz.isAgg256
 z143 := Tryz.sizeOf256
 v143 := Tryz.zeroValue256
 t145 := Tryz.underlying258
 a145 := Tryz.isAgg258
 z145 := Tryz.sizeOf258
 v145 := Tryz.zeroValue258
 t167 := Tryz.underlying230
 a167 := Tryz.isAgg230
 z167 := Tryz.sizeOf230
 v167 := Tryz.zeroValue230
 t168 := Tryz.underlying233
 a168 := Tryz.isAgg233
 z168 := Tryz.sizeOf233
 v168 := Tryz.zeroValue233
 t171 := Tryz.underlying190
 a171 := Tryz.isAgg190
 z171 := Tryz.sizeOf190
 v171 := Tryz.zeroValue190
 t173 := Tryz.underlying194
 a173 := Tryz.isAgg194
 z173 := Tryz.sizeOf194
 v173 := Tryz.zeroValue194
 t175 := Tryz.underlying247
 a175 := Tryz.isAgg247
 z175 := Tryz.sizeOf247
 v175 := Tryz.zeroValue247
 t210 := Tryz.underlying251
 a210 := Tryz.isAgg251
 z210 := Tryz.sizeOf251
 v210 := Tryz.zeroValue251
 t212 := Tryz.underlying206
 a212 := Tryz.isAgg206
 z212 := Tryz.sizeOf206
 v212 := Tryz.zeroValue206
 t213 := Tryz.underlying208
 a213 := Tryz.isAgg208
 z213 := Tryz.sizeOf208
 t232 := Tryz.underlying228
 a232 := Tryz.isAgg228
 z232 := Tryz.sizeOf228
 v232 := Tryz.zeroValue228
 t233 := Tryz.underlying229
 a233 := Tryz.isAgg229
 z233 := Tryz.sizeOf229
 v233 := Tryz.zeroValue229
 g15 := by kernel_rfl
 g16 := by kernel_rfl
 g17 := by kernel_rfl
 g18 := by kernel_rfl
 g19 := by kernel_rfl
 t80 := Tryz.underlying169
 a80 := Tryz.isAgg169
 z80 := Tryz.sizeOf169
 v80 := Tryz.zeroValue169
 i0 := by kernel_rfl
 i2 := by kernel_rfl
 i3 := by kernel_rfl
 i4 := by kernel_rfl
 i5 := by kernel_rfl
 i9 := by kernel_rfl
 i20 := by kernel_rfl
 i21 := by kernel_rfl
 i37 := by kernel_rfl
 i46 := by kernel_rfl
 i51 := by kernel_rfl
 i53 := by kernel_rfl
 i75 := by kernel_rfl
 i76 := by kernel_rfl
 i80 := by kernel_rfl
 i85 := by kernel_rfl
 i127 := by kernel_rfl
 i143 := by kernel_rfl
 i145 := by kernel_rfl
 i167 := by kernel_rfl
 i168 := by kernel_rfl
 i171 := by kernel_rfl
 i173 := by kernel_rfl
 i175 := by kernel_rfl
 i210 := by kernel_rfl
 i212 := by kernel_rfl
 i232 := by kernel_rfl
 i233 := by kernel_rfl
 m15 := by kernel_rfl
 m16 := by kernel_rfl
 m17 := by kernel_rfl
 m18 := by kernel_rfl
 m19 := by kernel_rfl
 c0 := by kernel_rfl
 c2 := by kernel_rfl
 c3 := by kernel_rfl
 c4 := by kernel_rfl
 c5 := by kernel_rfl
 c9 := by kernel_rfl
 c20 := by kernel_rfl
 c21 := by kernel_rfl
 c37 := by kernel_rfl
 c46 := by kernel_rfl
 c51 := by kernel_rfl
 c53 := by kernel_rfl
 c75 := by kernel_rfl
 c76 := by kernel_rfl
 c80 := by kernel_rfl
 c85 := by kernel_rfl
 c127 := by kernel_rfl
 c143 := by kernel_rfl
 c145 := by kernel_rfl
 c167 := by kernel_rfl
 c168 := by kernel_rfl
 c171 := by kernel_rfl
 c173 := by kernel_rfl
 c175 := by kernel_rfl
 c210 := by kernel_rfl
 c212 := by kernel_rfl
 c213 := by kernel_rfl
 c232 := by kernel_rfl
 c233 := by kernel_rfl }
open Go.RowKit in
theorem Tryz.strconv_Atoi_ok (s : ByteArray) (hmax : s.size ≤ 9223372036854775806) (v : Int) (h : Lib.atoiAll s.data.toList = .ok v) (w : World) :
  Calls Tryz.prog 216 #[.string s] w fun e w' => e = .returned (.tuple #[.int .i64 v, .nilIface]) ∧ (w' = w ∨ ∃ t, w' = Lib.bytesWorld w 5 t) := Any.strconv_Atoi_ok Tryz.laysC172 s hmax v h w
open Go.RowKit in
theorem Tryz.strconv_Atoi_range_var (s : ByteArray) (hlim : s.size ≤ 281474976710656) (h : Lib.atoiAll s.data.toList = .range) (tp : TypeId) (p : Value) (w : World) (hvar : w.var? Tryz.prog "strconv.ErrRange" = some #[.iface tp p]) :
  Calls Tryz.prog 216 #[.string s] w fun e w' => ∃ N, e = .returned (.tuple #[.int .i64 (Lib.atoiSat s.data.toList), .iface 233 (.pointer (some ⟨N, 0, none⟩))]) ∧ w.heap.size ≤ N ∧ w'.heap[N]? = some (.cells #[.string ⟨#[65, 116, 111, 105]⟩, .string s, .iface tp p] 251 (0, 0)) ∧ Below w.heap.size w w' := Any.strconv_Atoi_range_var Tryz.laysC172 s hlim h tp p w hvar
def Tryz.lays99_ren : Go.Shelf.Ren := ⟨fun | 99 => 199 | 206 => 221 | n => n, fun | 9 => 9 | 4 => 4 | 3 => 3 | n => n, fun | n => n⟩
theorem Tryz.lays99 : Go.Proofs.Lays.n99 Tryz.prog Tryz.lays99_ren := {
 mixed := by kernel_rfl
 f99 := Tryz.func199.trans (congrArg some (by kernel_rfl))
 f206 := Tryz.func221.trans (congrArg some (by kernel_rfl))
 t3 := Tryz.underlying3
 a3 := Tryz.isAgg3
 z3 := Tryz.sizeOf3
 v3 := Tryz.zeroValue3
 t4 := Tryz.underlying4
 a4 := Tryz.isAgg4
 z4 := Tryz.sizeOf4
 v4 := Tryz.zeroValue4
 t9 := Tryz.underlying9
 a9 := Tryz.isAgg9
 z9 := Tryz.sizeOf9
 v9 := Tryz.zeroValue9 }
open Go.RowKit Go.Lib in
theorem Tryz.strings_HasPrefix (s p : ByteArray) (w : World) :
  Calls Tryz.prog 199 #[.string s, .string p] w fun e w' => e = .returned (.bool (Lib.hasPrefix s.data.toList p.data.toList)) ∧ w' = w := Any.strings_HasPrefix Tryz.lays99 s p w
def Tryz.lays101_ren : Go.Shelf.Ren := ⟨fun | 101 => 215 | 208 => 227 | 206 => 221 | n => n, fun | 9 => 9 | 4 => 4 | 3 => 3 | n => n, fun | n => n⟩
theorem Tryz.lays101 : Go.Proofs.Lays.n101 Tryz.prog Tryz.lays101_ren := {
 mixed := by kernel_rfl
 f101 := Tryz.func215.trans (congrArg some (by kernel_rfl))
 f206 := Tryz.func221.trans (congrArg some (by kernel_rfl))
 f208 := Tryz.func227.trans (congrArg some (by kernel_rfl))
 t3 := Tryz.underlying3
 a3 := Tryz.isAgg3
 z3 := Tryz.sizeOf3
 v3 := Tryz.zeroValue3
 t4 := Tryz.underlying4
 a4 := Tryz.isAgg4
 z4 := Tryz.sizeOf4
 v4 := Tryz.zeroValue4
 t9 := Tryz.underlying9
 a9 := Tryz.isAgg9
 z9 := Tryz.sizeOf9
 v9 := Tryz.zeroValue9 }
open Go.RowKit Go.Lib in
theorem Tryz.strings_TrimPrefix (s p : ByteArray) (w : World) :
  Calls Tryz.prog 215 #[.string s, .string p] w fun e w' => e = .returned (.string ⟨(Lib.trimPrefix s.data.toList p.data.toList).toArray⟩) ∧ w' = w := Any.strings_TrimPrefix Tryz.lays101 s p w
def Tryz.lays102_ren : Go.Shelf.Ren := ⟨fun | 102 => 214 | 209 => 226 | 207 => 231 | n => n, fun | 9 => 9 | 4 => 4 | 3 => 3 | n => n, fun | n => n⟩
theorem Tryz.lays102 : Go.Proofs.Lays.n102 Tryz.prog Tryz.lays102_ren := {
 mixed := by kernel_rfl
 f102 := Tryz.func214.trans (congrArg some (by kernel_rfl))
 f207 := Tryz.func231.trans (congrArg some (by kernel_rfl))
 f209 := Tryz.func226.trans (congrArg some (by kernel_rfl))
 t3 := Tryz.underlying3
 a3 := Tryz.isAgg3
 z3 := Tryz.sizeOf3
 v3 := Tryz.zeroValue3
 t4 := Tryz.underlying4
 a4 := Tryz.isAgg4
 z4 := Tryz.sizeOf4
 v4 := Tryz.zeroValue4
 t9 := Tryz.underlying9
 a9 := Tryz.isAgg9
 z9 := Tryz.sizeOf9
 v9 := Tryz.zeroValue9 }
open Go.RowKit Go.Lib in
theorem Tryz.strings_TrimSuffix (s p : ByteArray) (w : World) (hs : s.size ≤ 9223372036854775807) :
  Calls Tryz.prog 214 #[.string s, .string p] w fun e w' => e = .returned (.string ⟨(Lib.trimSuffix s.data.toList p.data.toList).toArray⟩) ∧ w' = w := Any.strings_TrimSuffix Tryz.lays102 s p w hs
def Tryz.lays157_ren : Go.Shelf.Ren := ⟨fun | 157 => 198 | 229 => 219 | 199 => 220 | 261 => 230 | 311 => 237 | 312 => 238 | n => n, fun | 9 => 9 | 31 => 59 | 3 => 3 | 5 => 5 | 4 => 4 | 119 => 216 | 0 => 0 | 40 => 177 | 152 => 223 | 21 => 21 | 154 => 225 | 51 => 207 | 141 => 227 | 196 => 239 | 193 => 236 | 198 => 242 | 49 => 240 | 194 => 237 | 201 => 245 | 226 => 253 | 46 => 209 | 227 => 254 | n => n, fun | 0 => 1 | 6 => 3 | n => n⟩
theorem Tryz.lays157 : Go.Proofs.Lays.n157 Tryz.prog Tryz.lays157_ren := {
 mixed := by kernel_rfl
 f157 := Tryz.func198.trans (congrArg some (by kernel_rfl))
 f199 := Tryz.func220.trans (congrArg some (by kernel_rfl))
 f229 := Tryz.func219.trans (congrArg some (by kernel_rfl))
 f261 := Tryz.func230.trans (congrArg some (by kernel_rfl))
 f311 := Tryz.func237.trans (congrArg some (by kernel_rfl))
 f312 := Tryz.func238.trans (congrArg some (by kernel_rfl))
 t0 := Tryz.underlying0
 a0 := Tryz.isAgg0
 z0 := Tryz.sizeOf0
 v0 := Tryz.zeroValue0
 t3 := Tryz.underlying3
 a3 := Tryz.isAgg3
 z3 := Tryz.sizeOf3
 v3 := Tryz.zeroValue3
 t4 := Tryz.underlying4
 a4 := Tryz.isAgg4
 z4 := Tryz.sizeOf4
 v4 := Tryz.zeroValue4
 t5 := Tryz.underlying5
 a5 := Tryz.isAgg5
 z5 := Tryz.sizeOf5
 v5 := Tryz.zeroValue5
 t9 := Tryz.underlying9
 a9 := Tryz.isAgg9
 z9 := Tryz.sizeOf9
 v9 := Tryz.zeroValue9
 t21 := Tryz.underlying21
 a21 := Tryz.isAgg21
 z21 := Tryz.sizeOf21
 v21 := Tryz.zeroValue21
 t31 := Tryz.underlying59
 a31 := Tryz.isAgg59
 z31 := Tryz.sizeOf59
 v31 := Tryz.zeroValue59
 t40 := Tryz.underlying177
 a40 := Tryz.isAgg177
 z40 := Tryz.sizeOf177
 v40 := Tryz.zeroValue177
 t46 := Tryz.underlying209
 a46 := Tryz.isAgg209
 z46 := Tryz.sizeOf209
 v46 := Tryz.zeroValue209
 t49 := Tryz.underlying240
 a49 := Tryz.isAgg240
 z49 := Tryz.sizeOf240
 v49 := Tryz.zeroValue240
 t51 := Tryz.underlying207
 a51 := Tryz.isAgg207
 z51 := Tryz.sizeOf207
 v51 := Tryz.zeroValue207
 t119 := Tryz.underlying216
 a119 := Tryz.isAgg216
 z119 := Tryz.sizeOf216
 t141 := Tryz.underlying227
 a141 := Tryz.isAgg227
 z141 := Tryz.sizeOf227
 v141 := Tryz.zeroValue227
 t152 := Tryz.underlying223
 a152 := Tryz.isAgg223
 z152 := Tryz.sizeOf223
 v152 := Tryz.zeroValue223
 t154 := Tryz.underlying225
 a154 := Tryz.isAgg225
 z154 := Tryz.sizeOf225
 v154 := Tryz.zeroValue225
 t193 := Tryz.underlying236
 a193 := Tryz.isAgg236
 z193 := Tryz.sizeOf236
 v193 := Tryz.zeroValue236
 t194 := Tryz.underlying237
 a194 := Tryz.isAgg237
 z194 := Tryz.sizeOf237
 v194 := Tryz.zeroValue237
 t196 := Tryz.underlying239
 a196 := Tryz.isAgg239
 z196 := Tryz.sizeOf239
 v196 := Tryz.zeroValue239
 t198 := Tryz.underlying242
 a198 := Tryz.isAgg242
 z198 := Tryz.sizeOf242
 v198 := Tryz.zeroValue242
 t201 := Tryz.underlying245
 a201 := Tryz.isAgg245
 z201 := Tryz.sizeOf245
 v201 := Tryz.zeroValue245
 t226 := Tryz.underlying253
 a226 := Tryz.isAgg253
 z226 := Tryz.sizeOf253
 v226 := Tryz.zeroValue253
 t227 := Tryz.underlying254
 a227 := Tryz.isAgg254
 z227 := Tryz.sizeOf254
 v227 := Tryz.zeroValue254
 g0 := by kernel_rfl
 g6 := by kernel_rfl }
open Go.RowKit Go.Lib in
theorem Tryz.strings_Fields (s : ByteArray) (w : World) (hs : s.size < 4294967281) (hascii : ∀ (j : Nat) b, s.data.toList[j]? = some b → b.toNat < 128) (htab : Lib.TabIs Tryz.prog w "strings.asciiSpace" .u8 Lib.asciiSpaceTab) :
  Calls Tryz.prog 198 #[.string s] w fun e w' =>
   e = .returned (.slice (some ⟨w.heap.size, 0, none⟩) (Lib.fields s.data.toList).length (Lib.fields s.data.toList).length) ∧ w' = w.alloc (.cells ((Lib.fields s.data.toList).map fun l => Value.string ⟨l.toArray⟩).toArray 9) := Any.strings_Fields Tryz.lays157 (by kernel_rfl) (by kernel_rfl) s w hs hascii htab
open Go.RowKit in
theorem Tryz.strconv_Atoi_bad (s : ByteArray) (hlim : s.size ≤ 281474976710656) (h1 : ∀ v, Lib.atoiAll s.data.toList ≠ .ok v) (h2 : Lib.atoiAll s.data.toList ≠ .range) (tp : TypeId) (p : Value) (w : World) (hvar : w.var? Tryz.prog "strconv.ErrSyntax" = some #[.iface tp p]) :
  Calls Tryz.prog 216 #[.string s] w fun e w' => ∃ N, e = .returned (.tuple #[.int .i64 0, .iface 233 (.pointer (some ⟨N, 0, none⟩))]) ∧ w.heap.size ≤ N ∧ w'.heap[N]? = some (.cells #[.string ⟨#[65, 116, 111, 105]⟩, .string s, .iface tp p] 251 (0, 0)) ∧ Below w.heap.size w w' := by
 cases e : Lib.atoiAll s.data.toList
 ·exact absurd e (h1 _)
 ·exact Any.strconv_Atoi_syntax_var Tryz.laysC172 s hlim e tp p w hvar
 ·exact absurd e h2
end Go.Proofs
