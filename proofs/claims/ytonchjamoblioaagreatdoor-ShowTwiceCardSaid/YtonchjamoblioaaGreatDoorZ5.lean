/- Steps of a function body on data, and contracts of the functions of the seat, walked. -/
import Derived.Test.YtonchjamoblioaaGreatDoorKAttr
import Derived.Test.YtonchjamoblioaaGreatDoorZ1
import Derived.Test.YtonchjamoblioaaGreatDoorVDef
set_option linter.unusedSimpArgs false
set_option linter.unusedVariables false
set_option linter.unusedSectionVars false
namespace Go.Kin
/-! ### expressions of paths -/
inductive Ex where
  | mk (k : Int) (s : List UInt8) (kids : List Ex)
namespace Ex
def k : Ex → Int | .mk k _ _ => k
def s : Ex → List UInt8 | .mk _ s _ => s
def kids : Ex → List Ex | .mk _ _ ks => ks
end Ex
instance : Inhabited Ex := ⟨.mk 0 [] []⟩
noncomputable instance : DecidableEq Ex := fun _ _ => Classical.propDecidable _
theorem Ex.eta (x : Ex) : x = .mk x.k x.s x.kids := by cases x; rfl
theorem Ex.ext {x y : Ex} (h1 : x.k = y.k) (h2 : x.s = y.s) (h3 : x.kids = y.kids) : x = y := by
  rw [x.eta, y.eta, h1, h2, h3]
theorem Ex.ind {p : Ex → Prop} (h : ∀ x, (∀ y ∈ x.kids, p y) → p x) : ∀ x, p x
  | .mk k s ks => h _ fun y _hy => Ex.ind h y
termination_by x => SizeOf.sizeOf x
decreasing_by
  have hm : y ∈ ks := _hy
  have := List.sizeOf_lt_of_mem hm
  simp only [Ex.mk.sizeOf_spec]
  omega
mutual
/-- how many parts it has -/
def Ex.size : Ex → Nat
  | .mk _ _ ks => 1 + Ex.sizes ks
def Ex.sizes : List Ex → Nat
  | [] => 0
  | x :: r => x.size + Ex.sizes r
end
theorem Ex.size_eq (x : Ex) : x.size = 1 + Ex.sizes x.kids := by cases x; rfl
theorem Ex.size_pos (x : Ex) : 1 ≤ x.size := by rw [x.size_eq]; omega
theorem Ex.sizes_app : ∀ (x y : List Ex), Ex.sizes (x ++ y) = Ex.sizes x + Ex.sizes y
  | [], y => by simp [Ex.sizes]
  | a :: x, y => by simp [Ex.sizes, Ex.sizes_app x y]; omega
theorem Ex.sizes_take {l : List Ex} {i : Nat} (h : i < l.length) : Ex.sizes (l.take (i + 1)) = Ex.sizes (l.take i) + (nth l i).size := by
  rw [take_succ_nth h, Ex.sizes_app]; simp [Ex.sizes]
theorem Ex.sizes_mem {y : Ex} : ∀ {l : List Ex}, y ∈ l → y.size ≤ Ex.sizes l
  | x :: r, h => by
    simp only [Ex.sizes]
    rcases List.mem_cons.1 h with rfl | h
    · omega
    · have := Ex.sizes_mem h; omega
theorem Ex.sizes_le (l : List Ex) (i : Nat) : Ex.sizes (l.take i) ≤ Ex.sizes l := by
  have := Ex.sizes_app (l.take i) (l.drop i)
  rw [List.take_append_drop] at this; omega
theorem Ex.len_le : ∀ (l : List Ex), l.length ≤ Ex.sizes l
  | [] => by simp [Ex.sizes]
  | x :: r => by have := Ex.len_le r; have := x.size_pos; simp [Ex.sizes]; omega
mutual
/-- how many parts it has, as far as the law counts them -/
def Ex.lim : Ex → Nat → Nat
  | .mk _ _ ks, d => if 60 < d then 401 else Ex.limL ks (d + 1) 1
def Ex.limL : List Ex → Nat → Nat → Nat
  | [], _, n => n
  | x :: r, d, n => if n ≤ 400 then Ex.limL r d (n + x.lim d) else n
end
theorem Ex.lim_eq (x : Ex) (d : Nat) : x.lim d = if 60 < d then 401 else Ex.limL x.kids (d + 1) 1 := by cases x; simp [Ex.lim, Ex.kids]
theorem Ex.limL_step {l : List Ex} {i d n : Nat} (h : i < l.length) (hn : n ≤ 400) : Ex.limL (l.drop i) d n = Ex.limL (l.drop (i + 1)) d (n + (nth l i).lim d) := by
  rw [drop_nth h]; simp only [Ex.limL, if_pos hn]
theorem Ex.limL_stop {l : List Ex} {i d n : Nat} (h : l.length ≤ i ∨ 400 < n) : Ex.limL (l.drop i) d n = n := by
  rcases h with h | h
  · rw [List.drop_eq_nil_of_le h]; rfl
  · cases l.drop i with
    | nil => rfl
    | cons x r => simp only [Ex.limL]; rw [if_neg (by omega)]
theorem Ex.limL_bd {B d : Nat} : ∀ (l : List Ex) (n : Nat), (∀ x ∈ l, x.lim d ≤ B) → n ≤ 400 + B → Ex.limL l d n ≤ 400 + B
  | [], _, _, h => h
  | x :: r, n, hb, h => by
    simp only [Ex.limL]
    split
    · have := hb x List.mem_cons_self
      exact Ex.limL_bd r _ (fun y hy => hb y (List.mem_cons_of_mem _ hy)) (by omega)
    · exact h
theorem Ex.lim_bd : ∀ (m : Nat) (x : Ex) (d : Nat), 61 - d = m → d ≤ 61 → x.lim d ≤ 401 * (m + 1)
  | 0, x, d, h, hd => by rw [x.lim_eq, if_pos (by omega)]; omega
  | m + 1, x, d, h, hd => by
    rw [x.lim_eq]
    split
    · omega
    · generalize hB : 401 * (m + 1) = B
      have h2 := Ex.limL_bd (B := B) (d := d + 1) x.kids 1 (fun y _ => hB ▸ Ex.lim_bd m y (d + 1) (by omega) (by omega)) (by omega)
      have h3 : 401 * (m + 1 + 1) = B + 401 := by rw [← hB]; omega
      rw [h3]
      exact Nat.le_trans h2 (by omega)
theorem Ex.lim_le (x : Ex) {d : Nat} (h : d ≤ 61) : x.lim d ≤ 100000 := by
  have := Ex.lim_bd (61 - d) x d rfl h
  have : 401 * (61 - d + 1) ≤ 401 * 62 := Nat.mul_le_mul_left _ (by omega)
  omega
/-! #### as data -/
mutual
/-- the data of an expression's kids -/
def kdX : Ex → D
  | .mk _ _ ks => .sl 3 ks.length ks.length (kdR ks)
def kdR : List Ex → Nat → List D
  | [], _ => []
  | .mk k s ks :: _, 0 => [.v (.int .i64 k), .v (.string (mkS s)), .sl 3 ks.length ks.length (kdR ks)]
  | _ :: r, i + 1 => kdR r i
end
theorem kd_eq (x : Ex) : kdX x = .sl 3 x.kids.length x.kids.length (kdR x.kids) := by cases x; simp [kdX, Ex.kids]
abbrev exC (x : Ex) : List D := [.v (.int .i64 x.k), .v (.string (mkS x.s)), kdX x]
abbrev exD (x : Ex) : D := .ag [.v (.int .i64 x.k), .v (.string (mkS x.s)), kdX x]
abbrev exsD (l : List Ex) : D := .sl 3 l.length l.length (kdR l)
theorem kdR_at : ∀ {l : List Ex} {i : Nat}, i < l.length → kdR l i = exC (nth l i)
  | [], _, h => by simp at h
  | .mk k s ks :: r, 0, _ => by simp [kdR, exC, nth, Ex.k, Ex.s, kdX]
  | x :: r, i + 1, h => by
    have := kdR_at (l := r) (i := i) (by simpa using h)
    cases x
    simp only [kdR]
    rw [this]; rfl
end Go.Kin
namespace Go.Proofs.YtonchjamoblioaaGreatDoor
open Go.Kin
set_option maxRecDepth 100000
set_option maxHeartbeats 0
attribute [go_sem] exC exD exsD
theorem lfD_kd (x : Ex) : lfD (kdX x) = true := by rw [kd_eq]; rfl
attribute [go_sem ↓] lfD_kd
theorem esize_step (x : Ex) (d : Nat) (hd : d ≤ 61) (hx0 : x.kids.length ≤ 140737488355328) (ihx : ∀ y ∈ x.kids, d + 1 ≤ 61 → FnOK Laid Tryz.prog 12 [exD y, iv ((d + 1 : Nat) : Int)] (iv (y.lim (d + 1)))) : FnOK Laid Tryz.prog 12 [exD x, iv d] (iv (x.lim d)) := by
 refine FnOK_of laid_stable Tryz.func12 Tryz.ntmps12 rfl (by as_aux_lemma => kernel_rfl) (Nat.le_of_ble_eq_true rfl) (fun R hR => ?_)
 obtain ⟨_, b, cs, T, C⟩ := R
 obtain rfl : _ = Tryz.prog := hR.p
 have hk := kd_eq x
 have hse := x.lim_eq d
 refine sq ?_
 apply Exec.regionL te_ok
 ·intro u' Q hQ
  simp only [go_sem, hk]
  repeat refine ob2 ?_
  exact hQ
 refine sq ?_
 apply Exec.regionL te_ok
 ·intro u' Q hQ
  simp only [go_sem, hk]
  repeat refine ob2 ?_
  exact hQ
 refine sq ?_
 refine sq ?_
 apply Exec.regionL te_ok
 ·intro u' Q hQ
  simp only [go_sem, hk]
  repeat refine ob2 ?_
  exact hQ
 refine Exec.cond_split rfl (fun h0 => ?_) (fun h0 => ?_)
 ·refine sq ?_
  apply Exec.regionL te_ok
  ·intro u' Q hQ
   simp only [go_sem, hk]
   repeat refine ob2 ?_
   exact hQ
  refine Exec.rets hR te_ok rfl rfl rfl (LeX.le ?_) (.inr ⟨_, rfl⟩)
  simp only [go_sem]
  rw [hse, if_pos (by simp at h0; omega)]
  rfl
 ·have hd2 : d ≤ 60 := by simp at h0; omega
  refine sk ?_
  refine sq ?_
  refine sq ?_
  apply Exec.regionL te_ok
  ·intro u' Q hQ
   simp only [go_sem, hk]
   repeat refine ob2 ?_
   exact hQ
  refine Exec.block ?_
  apply Exec.loopU [1, 2] (X := Nat × Nat) (fun ⟨i, n⟩ => [(6, .d (iv i)), (5, .d (iv n))]) (fun ⟨i, n⟩ => []) (fun ⟨i, n⟩ => []) (fun ⟨i, n⟩ => x.kids.length - i) (fun ⟨i, n⟩ => i ≤ x.kids.length ∧ Ex.limL x.kids (d + 1) 1 = Ex.limL (x.kids.drop i) (d + 1) n ∧ n ≤ 100400) (0, 1)
  case h0 =>
   exact ⟨Nat.zero_le _, rfl, by omega⟩
  case hw =>
   simp only [go_sem]; rfl
  case body =>
   rintro ⟨i, n⟩ hx ih0
   try simp only at hx
   apply Exec.norm
   ·simp only [go_sem, hk]
    rfl
   refine sq ?_
   refine sq ?_
   apply Exec.regionL te_ok
   ·intro u' Q hQ
    simp only [go_sem, hk]
    repeat refine ob2 ?_
    exact hQ
   refine Exec.cond_split rfl (fun h1 => ?_) (fun h1 => ?_)
   ·have hit : i < x.kids.length ∧ n ≤ 400 := by simp at h1; omega
    obtain ⟨hi, hn⟩ := hit
    have ha := kdR_at hi
    have hlb := Ex.lim_le (nth x.kids i) (d := d + 1) (by omega)
    have w2 : IntKind.i64.wrap ((i : Int) + 1) = ((i + 1 : Nat) : Int) := by rw [wrap_id (by omega)]; omega
    have w3 : IntKind.i64.wrap ((n : Int) + (((nth x.kids i).lim (d + 1) : Nat) : Int)) = ((n + (nth x.kids i).lim (d + 1) : Nat) : Int) := by rw [wrap_id (by omega)]; omega
    have w4 : IntKind.i64.wrap ((d : Int) + 1) = ((d + 1 : Nat) : Int) := by rw [wrap_id (by omega)]; omega
    refine sk ?_
    refine sq ?_
    refine Exec.block ?_
    apply Exec.regionL te_ok
    ·intro u' Q hQ
     simp only [go_sem, hk, ha, w2, w3, w4]
     repeat refine ob2 ?_
     refine kcall hR.inv te_ok rfl rfl rfl rfl rfl rfl (ihx _ (nth_mem hi) (by omega)) ?_
     simp only [go_sem, hk, ha, w2, w3, w4]
     repeat refine ob2 ?_
     exact hQ
    refine Exec.inBlock ?_
    apply Exec.regionL te_ok
    ·intro u' Q hQ
     simp only [go_sem, hk, ha, w2, w3, w4]
     repeat refine ob2 ?_
     exact hQ
    refine Exec.back (ih0 (i + 1, n + (nth x.kids i).lim (d + 1)) ?_ ?_) ?_ ?_ ?_ ?_ ?_ ?_ ?_
    ·try simp only
     have hlb := Ex.lim_le (nth x.kids i) (d := d + 1) (by omega)
     exact ⟨by omega, by rw [hx.2.1, Ex.limL_step hi hn], by omega⟩
    ·try simp only
     omega
    ·rfl
    ·rfl
    ·(simp only [go_sem, hk, ha, w2, w3, w4])
    ·(simp only [go_sem, hk, ha, w2, w3, w4])
    ·(simp only [go_sem, hk, ha, w2, w3, w4])
    ·simp only [go_sem, hk, ha, w2, w3, w4]
    ·rfl
   ·refine Exec.exit rfl ?_
    refine sq ?_
    apply Exec.regionL te_ok
    ·intro u' Q hQ
     simp only [go_sem, hk]
     repeat refine ob2 ?_
     exact hQ
    refine Exec.rets hR te_ok rfl rfl rfl (LeX.le ?_) (.inr ⟨_, rfl⟩)
    simp only [go_sem]
    rw [hse, if_neg (by omega), hx.2.1, Ex.limL_stop (by simp at h1; omega)]
/-- all lists of kids are short -/
def Ex.fits (B : Nat) (x : Ex) : Prop := x.kids.length ≤ B
theorem esize_ok (B : Ex → Prop) (hB : ∀ x, B x → x.kids.length ≤ 140737488355328 ∧ ∀ y ∈ x.kids, B y) (x : Ex) (h : B x) (d : Nat) (hd : d ≤ 61) : FnOK Laid Tryz.prog 12 [exD x, iv d] (iv (x.lim d)) := by
 refine Ex.ind (p := fun x => B x → ∀ d : Nat, d ≤ 61 → FnOK Laid Tryz.prog 12 [exD x, iv d] (iv (x.lim d))) (fun x ih h d hd => ?_) x h d hd
 exact esize_step x d hd (hB x h).1 fun y hy hd2 => ih y hy ((hB x h).2 y hy) (d + 1) hd2
theorem ex_eq (x y : Ex) : (x.k == y.k && (x.s == y.s && decide (x.kids = y.kids))) = decide (x = y) := by
 by_cases h : x = y
 ·subst h; simp
 ·rw [decide_eq_false h]
  by_cases h1 : x.k = y.k
  ·by_cases h2 : x.s = y.s
   ·have : ¬ x.kids = y.kids := fun h3 => h (Ex.ext h1 h2 h3)
    simp [this]
   ·simp [h2]
  ·simp [h1]
end Go.Proofs.YtonchjamoblioaaGreatDoor
namespace Go.Kin
open Go.RowKit
/-! ### shapes of slices within slices -/
theorem LeDs.rdc {w : World} {Z : Nat → Prop} : ∀ {ds ds' : List D} {b off : Nat}, LeDs ds ds' → RdC w Z b off ds → RdC w Z b off ds'
  | [], [], _, _, _, h => h
  | d :: ds, d' :: ds', b, off, hl, h => by
    simp only [LeDs] at hl
    simp only [RdC] at h ⊢
    obtain ⟨⟨v, h1, h2⟩, h3⟩ := h
    exact ⟨⟨v, h1, hl.1 w Z v h2⟩, LeDs.rdc hl.2 h3⟩
  | [], _ :: _, _, _, hl, _ => hl.elim
  | _ :: _, [], _, _, hl, _ => hl.elim
theorem LeDs.len : ∀ {ds ds' : List D}, LeDs ds ds' → ds.length = ds'.length
  | [], [], _ => rfl
  | d :: ds, d' :: ds', h => by simp only [LeDs] at h; simp [LeDs.len h.2]
  | [], _ :: _, h => h.elim
  | _ :: _, [], h => h.elim
theorem LeD.rows {k n : Nat} {row row' : Nat → List D} (h : ∀ i, i < n → LeDs (row i) (row' i) ∧ lfR (row' i) = true) : LeD (.sl k n n row) (.sl k n n row') := fun w Z v hv => by
  simp only [RdV] at hv ⊢
  obtain ⟨a, c, h1, h2, h3, h4, h5⟩ := hv
  refine ⟨a, c, h1, h2, h3, h4, h5.imp id ?_⟩
  rintro ⟨b, off, rfl, hz, he⟩
  exact ⟨b, off, rfl, hz, fun i hi => ⟨by rw [← (h i hi).1.len]; exact (he i hi).1, (h i hi).2, (h i hi).1.rdc (he i hi).2.2⟩⟩
theorem LeDs.refl : ∀ (ds : List D), LeDs ds ds
  | [] => trivial
  | d :: ds => ⟨LeD.refl d, LeDs.refl ds⟩
end Go.Kin
namespace Go.Kin
/-! ### expressions that are lent: behind each list of kids lie marks -/
def mkI (a i : Int) : Int := 1000003 * (a + 7) + i
mutual
def kdL : Ex → D
  | .mk _ _ ks => .sl 3 ks.length (ks.length + 12) (lenR ks)
def lenR : List Ex → Nat → List D
  | [], i => [.v (.int .i64 (mkI 1 i)), .v (.string (mkS [])), .v (.slice none 0 0)]
  | .mk k s ks :: _, 0 => [.v (.int .i64 k), .v (.string (mkS s)), .sl 3 ks.length (ks.length + 12) (lenR ks)]
  | _ :: r, i + 1 => lenR r i
end
abbrev exLC (x : Ex) : List D := [.v (.int .i64 x.k), .v (.string (mkS x.s)), kdL x]
abbrev exLD (x : Ex) : D := .ag [.v (.int .i64 x.k), .v (.string (mkS x.s)), kdL x]
abbrev exsLD (l : List Ex) : D := .sl 3 l.length (l.length + 12) (lenR l)
abbrev mkC (a i : Int) : List D := [.v (.int .i64 (mkI a i)), .v (.string (mkS [])), .v (.slice none 0 0)]
abbrev mkEx (a i : Int) : Ex := .mk (mkI a i) [] []
/-- one row, wherever -/
def lenI (l : List Ex) (i : Nat) : Int := if i < l.length then (nth l i).k else mkI 1 ((i - l.length : Nat) : Int)
def lenS (l : List Ex) (i : Nat) : List UInt8 := if i < l.length then (nth l i).s else []
def lenD (l : List Ex) (i : Nat) : D := if i < l.length then kdL (nth l i) else .v (.slice none 0 0)
theorem exD_lf (x : Ex) : lfR (exC x) = true := by simp [exC, lfR, lfD, kd_eq]
end Go.Kin
namespace Go.Proofs.YtonchjamoblioaaGreatDoor
open Go.Kin
set_option maxRecDepth 100000
set_option maxHeartbeats 0
attribute [go_sem] exLC exLD exsLD mkC mkEx
theorem leaf_kd (x : Ex) : leafSV (.d (kdX x)) = true := by rw [kd_eq]; rfl
attribute [go_sem ↓] leaf_kd
theorem catR_row {row : Nat → List D} {n : Nat} {r : List D} (h : row n = r) (q : Nat) (hq : q < n + 1) : catR n row (lstR [r]) q = row q := by
 unfold catR
 by_cases hj : q < n
 ·rw [if_pos hj]
 ·obtain rfl : q = n := by omega
  rw [if_neg hj, h]; simp [lstR]
end Go.Proofs.YtonchjamoblioaaGreatDoor
namespace Go.Kin
/-! ### queries -/
structure Opd where
 k : Int
 n : List UInt8
 key : List UInt8
 vk : Int
 vn : Int
 vs : List UInt8
 deriving Inhabited, DecidableEq
structure Cd where
 op : Int
 l : Opd
 r : Opd
 deriving Inhabited, DecidableEq
structure Pt where
 a : List UInt8
 z : List UInt8
 path : Bool
 lab : List UInt8
 name : List UInt8
 e : Ex
 deriving Inhabited
noncomputable instance : DecidableEq Pt := fun _ _ => Classical.propDecidable _
structure Qu where
 p : List Pt
 c : List Cd
 r : List Opd
 range : Int
 slide : Int
 deriving Inhabited
noncomputable instance : DecidableEq Qu := fun _ _ => Classical.propDecidable _
abbrev opC (o : Opd) : List D := [.v (.int .i64 o.k), .v (.string (mkS o.n)), .v (.string (mkS o.key)), .v (.int .i64 o.vk), .v (.int .i64 o.vn), .v (.string (mkS o.vs))]
abbrev cdC (c : Cd) : List D := [.v (.int .i64 c.op), .v (.int .i64 c.l.k), .v (.string (mkS c.l.n)), .v (.string (mkS c.l.key)), .v (.int .i64 c.l.vk), .v (.int .i64 c.l.vn), .v (.string (mkS c.l.vs)),
 .v (.int .i64 c.r.k), .v (.string (mkS c.r.n)), .v (.string (mkS c.r.key)), .v (.int .i64 c.r.vk), .v (.int .i64 c.r.vn), .v (.string (mkS c.r.vs))]
abbrev ptC (p : Pt) : List D := [.v (.string (mkS p.a)), .v (.string (mkS p.z)), .v (.bool p.path), .v (.string (mkS p.lab)), .v (.string (mkS p.name)), .v (.int .i64 p.e.k), .v (.string (mkS p.e.s)), kdX p.e]
abbrev ptLC (p : Pt) : List D := [.v (.string (mkS p.a)), .v (.string (mkS p.z)), .v (.bool p.path), .v (.string (mkS p.lab)), .v (.string (mkS p.name)), .v (.int .i64 p.e.k), .v (.string (mkS p.e.s)), kdL p.e]
abbrev ptsD (l : List Pt) : D := .sl 8 l.length l.length fun i => ptC (nth l i)
abbrev cdsD (l : List Cd) : D := .sl 13 l.length l.length fun i => cdC (nth l i)
abbrev opsD (l : List Opd) : D := .sl 6 l.length l.length fun i => opC (nth l i)
abbrev quD (q : Qu) : D := .ag [ptsD q.p, cdsD q.c, opsD q.r, .v (.int .i64 q.range), .v (.int .i64 q.slide)]
/-! #### lent -/
def lentR {α : Type} [Inhabited α] (f : α → List D) (m : Nat → List D) (l : List α) (i : Nat) : List D := if i < l.length then f (nth l i) else m (i - l.length)
abbrev opMk (i : Nat) : List D := [.v (.int .i64 0), .v (.string (mkS [])), .v (.string (mkS [])), .v (.int .i64 0), .v (.int .i64 (mkI 1 i)), .v (.string (mkS []))]
abbrev cdMk (i : Nat) : List D := [.v (.int .i64 (mkI 1 i)), .v (.int .i64 0), .v (.string (mkS [])), .v (.string (mkS [])), .v (.int .i64 0), .v (.int .i64 0), .v (.string (mkS [])),
 .v (.int .i64 0), .v (.string (mkS [])), .v (.string (mkS [])), .v (.int .i64 0), .v (.int .i64 0), .v (.string (mkS []))]
abbrev ptMk (i : Nat) : List D := [.v (.string (mkS [])), .v (.string (mkS [])), .v (.bool false), .v (.string (mkS [109])), .v (.string (mkS [])), .v (.int .i64 (mkI 1 i)), .v (.string (mkS [])), .v (.slice none 0 0)]
abbrev ptsLD (l : List Pt) : D := .sl 8 l.length (l.length + 12) (lentR ptLC ptMk l)
abbrev cdsLD (l : List Cd) : D := .sl 13 l.length (l.length + 12) (lentR cdC cdMk l)
abbrev opsLD (l : List Opd) : D := .sl 6 l.length (l.length + 12) (lentR opC opMk l)
abbrev quLD (q : Qu) : D := .ag [ptsLD q.p, cdsLD q.c, opsLD q.r, .v (.int .i64 q.range), .v (.int .i64 q.slide)]
theorem ptC_lf (p : Pt) : lfR (ptC p) = true := by simp [lfR, lfD, kd_eq]
abbrev mkPt (i : Nat) : Pt := ⟨[], [], false, [109], [], mkEx 1 i⟩
theorem op_eq (x y : Opd) : (x.k == y.k && (x.n == y.n && (x.key == y.key && (x.vk == y.vk && (x.vn == y.vn && x.vs == y.vs))))) = decide (x = y) := by
 cases x; cases y; rw [Bool.eq_iff_iff]; simp
end Go.Kin
namespace Go.Proofs.YtonchjamoblioaaGreatDoor
open Go.Kin
set_option maxRecDepth 100000
set_option maxHeartbeats 0
attribute [go_sem] opC cdC ptC ptLC ptsD cdsD opsD quD opMk cdMk ptMk ptsLD cdsLD opsLD quLD mkPt
abbrev opD (o : Opd) : D := .ag (opC o)
abbrev cdD (c : Cd) : D := .ag (cdC c)
abbrev ptD (p : Pt) : D := .ag (ptC p)
abbrev ptLD (p : Pt) : D := .ag (ptLC p)
attribute [go_sem] opD cdD ptD ptLD
theorem leX_kd (x : Ex) : LeX (kdX x) (kdX x) = True := by rw [kd_eq]; simp [LeX]
attribute [go_sem ↓] leX_kd
theorem pt_eq (x y : Pt) : (x.a == y.a && (x.z == y.z && (x.path == y.path && (x.lab == y.lab && (x.name == y.name && decide (x.e = y.e)))))) = decide (x = y) := by
 cases x; cases y; rw [Bool.eq_iff_iff]; simp
theorem cdx (x y : Cd) : x = y ↔ (x.op = y.op ∧ x.l.k = y.l.k ∧ x.l.n = y.l.n ∧ x.l.key = y.l.key ∧ x.l.vk = y.l.vk ∧ x.l.vn = y.l.vn ∧ x.l.vs = y.l.vs ∧ x.r.k = y.r.k ∧ x.r.n = y.r.n ∧ x.r.key = y.r.key ∧ x.r.vk = y.r.vk ∧ x.r.vn = y.r.vn ∧ x.r.vs = y.r.vs) := by
 obtain ⟨o, ⟨_, _, _, _, _, _⟩, ⟨_, _, _, _, _, _⟩⟩ := x; obtain ⟨o2, ⟨_, _, _, _, _, _⟩, ⟨_, _, _, _, _, _⟩⟩ := y; simp [and_assoc]
theorem qu_eq (x y : Qu) : (decide (x.p = y.p) && (decide (x.c = y.c) && (decide (x.r = y.r) && (x.range == y.range && x.slide == y.slide)))) = decide (x = y) := by
 cases x; cases y; rw [Bool.eq_iff_iff]; simp
def ptLim : List Pt → Nat → Nat
 | [], n => n
 | p :: r, n => if n ≤ 400 then ptLim r (n + p.e.lim 0) else n
def _root_.Go.Kin.Qu.lim (q : Qu) : Nat := ptLim q.p (q.p.length + q.c.length + q.r.length)
theorem ptLim_step {l : List Pt} {i n : Nat} (h : i < l.length) (hn : n ≤ 400) : ptLim (l.drop i) n = ptLim (l.drop (i + 1)) (n + (nth l i).e.lim 0) := by
 rw [drop_nth h]; simp only [ptLim, if_pos hn]
theorem ptLim_stop {l : List Pt} {i n : Nat} (h : l.length ≤ i ∨ 400 < n) : ptLim (l.drop i) n = n := by
 rcases h with h | h
 ·rw [List.drop_eq_nil_of_le h]; rfl
 ·cases l.drop i with
  | nil => rfl
  | cons x r => simp only [ptLim]; rw [if_neg (by omega)]
theorem size_ok (B : Ex → Prop) (hB : ∀ x, B x → x.kids.length ≤ 140737488355328 ∧ ∀ y ∈ x.kids, B y) (q : Qu) (h1 : q.p.length ≤ 140737488355328) (h2 : q.c.length ≤ 140737488355328) (h3 : q.r.length ≤ 140737488355328) (hb : ∀ p ∈ q.p, B p.e) : FnOK Laid Tryz.prog 11 [quD q] (iv q.lim) := by
 refine FnOK_of laid_stable Tryz.func11 Tryz.ntmps11 rfl (by as_aux_lemma => kernel_rfl) (Nat.le_of_ble_eq_true rfl) (fun R hR => ?_)
 obtain ⟨_, b, cs, T, C⟩ := R
 obtain rfl : _ = Tryz.prog := hR.p
 have w5 : IntKind.i64.wrap ((q.p.length : Int) + (q.c.length : Int)) = ((q.p.length + q.c.length : Nat) : Int) := by rw [wrap_id (by omega)]; omega
 have w6 : IntKind.i64.wrap (((q.p.length + q.c.length : Nat) : Int) + (q.r.length : Int)) = ((q.p.length + q.c.length + q.r.length : Nat) : Int) := by rw [wrap_id (by omega)]; omega
 refine sq ?_
 apply Exec.regionL te_ok
 ·intro u' Q hQ
  simp only [go_sem, w5, w6]
  repeat refine ob2 ?_
  exact hQ
 refine sq ?_
 apply Exec.regionL te_ok
 ·intro u' Q hQ
  simp only [go_sem, w5, w6]
  repeat refine ob2 ?_
  exact hQ
 refine sq ?_
 refine sq ?_
 apply Exec.regionL te_ok
 ·intro u' Q hQ
  simp only [go_sem, w5, w6]
  repeat refine ob2 ?_
  exact hQ
 refine Exec.block ?_
 apply Exec.loopU [1] (X := Nat × Nat) (fun ⟨i, n⟩ => [(4, .d (iv i)), (3, .d (iv n))]) (fun ⟨i, n⟩ => []) (fun ⟨i, n⟩ => []) (fun ⟨i, n⟩ => q.p.length - i) (fun ⟨i, n⟩ => i ≤ q.p.length ∧ q.lim = ptLim (q.p.drop i) n ∧ n ≤ 422212465065984 + 100000 * i) (0, q.p.length + q.c.length + q.r.length)
 case h0 =>
  exact ⟨Nat.zero_le _, rfl, by omega⟩
 case hw =>
  simp only [go_sem]
 case body =>
  rintro ⟨i, n⟩ hx ih0
  try simp only at hx
  apply Exec.norm
  ·simp only [go_sem, w5, w6]
   rfl
  refine sq ?_
  refine sq ?_
  apply Exec.regionL te_ok
  ·intro u' Q hQ
   simp only [go_sem, w5, w6]
   repeat refine ob2 ?_
   exact hQ
  refine Exec.cond_split rfl (fun h0 => ?_) (fun h0 => ?_)
  ·have hit : i < q.p.length ∧ n ≤ 400 := by simp at h0; omega
   obtain ⟨hi, hn⟩ := hit
   have hlb := Ex.lim_le (nth q.p i).e (d := 0) (by omega)
   have w2 : IntKind.i64.wrap ((i : Int) + 1) = ((i + 1 : Nat) : Int) := by rw [wrap_id (by omega)]; omega
   have w3 : IntKind.i64.wrap ((n : Int) + (((nth q.p i).e.lim 0 : Nat) : Int)) = ((n + (nth q.p i).e.lim 0 : Nat) : Int) := by rw [wrap_id (by omega)]; omega
   refine sk ?_
   refine sq ?_
   refine Exec.block ?_
   apply Exec.regionL te_ok
   ·intro u' Q hQ
    simp only [go_sem, w5, w6, w2, w3]
    repeat refine ob2 ?_
    refine kcall hR.inv te_ok rfl rfl rfl rfl rfl rfl (esize_ok B hB _ (hb _ (nth_mem hi)) 0 (by omega)) ?_
    simp only [go_sem, w5, w6, w2, w3]
    repeat refine ob2 ?_
    exact hQ
   refine Exec.inBlock ?_
   apply Exec.regionL te_ok
   ·intro u' Q hQ
    simp only [go_sem, w5, w6, w2, w3]
    repeat refine ob2 ?_
    exact hQ
   refine Exec.back (ih0 (i + 1, n + (nth q.p i).e.lim 0) ?_ ?_) ?_ ?_ ?_ ?_ ?_ ?_ ?_
   ·try simp only
    exact ⟨by omega, by rw [hx.2.1, ptLim_step hi hn], by omega⟩
   ·try simp only
    omega
   ·rfl
   ·rfl
   ·(simp only [go_sem, w5, w6, w2, w3])
   ·(simp only [go_sem, w5, w6, w2, w3])
   ·(simp only [go_sem, w5, w6, w2, w3])
   ·simp only [go_sem, w5, w6, w2, w3]
   ·rfl
  ·refine Exec.exit rfl ?_
   refine sq ?_
   apply Exec.regionL te_ok
   ·intro u' Q hQ
    simp only [go_sem, w5, w6]
    repeat refine ob2 ?_
    exact hQ
   refine Exec.rets hR te_ok rfl rfl rfl (LeX.le ?_) (.inr ⟨_, rfl⟩)
   simp only [go_sem]
   rw [hx.2.1, ptLim_stop (by simp at h0; omega)]
end Go.Proofs.YtonchjamoblioaaGreatDoor
namespace Go.Proofs.YtonchjamoblioaaGreatDoor
open Go.Kin
/-! ### when an expression, an operand, a query is right -/
inductive FitX : Ex → Prop
  | mk {x : Ex} (h1 : x.s.length ≤ 140737488355328) (h2 : x.kids.length ≤ 140737488355328) (h3 : ∀ y ∈ x.kids, FitX y) : FitX x
theorem FitX.s {x : Ex} (h : FitX x) : x.s.length ≤ 140737488355328 := by cases h; assumption
theorem FitX.k {x : Ex} (h : FitX x) : x.kids.length ≤ 140737488355328 := by cases h; assumption
theorem FitX.y {x y : Ex} (h : FitX x) (hy : y ∈ x.kids) : FitX y := by cases h with | mk a b c => exact c y hy
/-- one part of an expression is as it should be -/
def partR (x : Ex) : Bool :=
  if x.k = 1 then (x.kids.length == 0 && freeB x.s)
  else if x.k = 2 ∨ x.k = 3 then (decide (1 < x.kids.length) && x.s == [])
  else if x.k = 4 ∨ x.k = 5 ∨ x.k = 6 then (x.kids.length == 1 && x.s == [])
  else false
mutual
def exOk : Ex → Bool
  | .mk k s ks => partR (.mk k s ks) && exsOk ks
def exsOk : List Ex → Bool
  | [] => true
  | x :: r => exOk x && exsOk r
end
theorem exOk_eq (x : Ex) : exOk x = (partR x && exsOk x.kids) := by cases x; simp [exOk, Ex.kids]
def exRight (x : Ex) : Bool := decide (x.size ≤ 24) && exOk x
theorem partR_1 {x : Ex} (h : x.k = 1) : exOk x = (freeB x.s && x.kids.length == 0) := by
  rw [exOk_eq]; unfold partR; rw [if_pos h]
  cases hk : x.kids with
  | nil => simp [exsOk]
  | cons a r => simp
theorem partR_2 {x : Ex} (h : x.k = 2 ∨ x.k = 3) : exOk x = (decide (1 < x.kids.length) && (x.s == [] && exsOk x.kids)) := by
  rw [exOk_eq]; unfold partR; rw [if_neg (by omega), if_pos h, Bool.and_assoc]
theorem partR_4 {x : Ex} (h : x.k = 4 ∨ x.k = 5 ∨ x.k = 6) : exOk x = (x.kids.length == 1 && (x.s == [] && exsOk x.kids)) := by
  rw [exOk_eq]; unfold partR; rw [if_neg (by omega), if_neg (by omega), if_pos h, Bool.and_assoc]
theorem partR_0 {x : Ex} (h : ¬ x.k = 1) (h2 : ¬ (x.k = 2 ∨ x.k = 3)) (h4 : ¬ (x.k = 4 ∨ x.k = 5 ∨ x.k = 6)) : exOk x = false := by
  rw [exOk_eq]; unfold partR; rw [if_neg h, if_neg h2, if_neg h4]; rfl
/-- an operand -/
def opR (o : Opd) : Bool :=
  if o.k = 1 then (freeB o.n && (o.key == [] && (o.vk == 0 && (o.vn == 0 && o.vs == []))))
  else if o.k = 2 then (freeB o.n && (freeB o.key && (o.vk == 0 && (o.vn == 0 && o.vs == []))))
  else if o.k = 3 then (o.n == [] && (o.key == [] && rightV o.vk o.vn o.vs))
  else false
structure FitO (o : Opd) : Prop where
  n : o.n.length ≤ 140737488355328
  key : o.key.length ≤ 140737488355328
  vs : o.vs.length ≤ 140737488355328
def cdR (c : Cd) : Bool := decide (1 ≤ c.op) && (decide (c.op ≤ 6) && (opR c.l && opR c.r))
structure FitC (c : Cd) : Prop where
  l : FitO c.l
  r : FitO c.r
abbrev zEx : Ex := .mk 0 [] []
noncomputable def ptR (p : Pt) : Bool :=
  freeB p.a && (freeB p.z && (if p.path then (p.lab == [] && (p.name == [] && exRight p.e)) else (freeB p.lab && ((p.name == [] || freeB p.name) && decide (p.e = zEx)))))
structure FitP (p : Pt) : Prop where
  a : p.a.length ≤ 140737488355328
  z : p.z.length ≤ 140737488355328
  lab : p.lab.length ≤ 140737488355328
  name : p.name.length ≤ 140737488355328
  e : FitX p.e
  sz : p.e.size ≤ 1000000
noncomputable def quR (q : Qu) : Bool :=
  (decide (1 ≤ q.p.length) && decide (q.p.length ≤ 4)) && (decide (q.c.length ≤ 6) && ((decide (1 ≤ q.r.length) && decide (q.r.length ≤ 4)) &&
  ((decide (1 ≤ q.range) && decide (q.range ≤ 1048576)) && ((decide (1 ≤ q.slide) && decide (q.slide ≤ 1048576)) &&
  (q.p.all ptR && (q.c.all cdR && q.r.all (fun o => o.k != 3 && opR o)))))))
structure FitQ (q : Qu) : Prop where
  p : q.p.length ≤ 140737488355328
  c : q.c.length ≤ 140737488355328
  r : q.r.length ≤ 140737488355328
  pa : ∀ p ∈ q.p, FitP p
  ca : ∀ c ∈ q.c, FitC c
  ra : ∀ o ∈ q.r, FitO o
end Go.Proofs.YtonchjamoblioaaGreatDoor
namespace Go.Proofs.YtonchjamoblioaaGreatDoor
open Go.Kin
set_option maxRecDepth 100000
set_option maxHeartbeats 0
theorem czN (n : Nat) : ((n : Int) == 0) = (n == 0) := by rw [Bool.eq_iff_iff]; simp
theorem c1N (n : Nat) : ((n : Int) == 1) = (n == 1) := by rw [Bool.eq_iff_iff]; simp; omega
theorem l1N (n : Nat) : decide (1 < (n : Int)) = decide (1 < n) := by rw [Bool.eq_iff_iff]; simp; omega
theorem part_ok (x : Ex) (hs : x.s.length ≤ 140737488355328) (hx0 : x.kids.length ≤ 140737488355328) : FnOK Laid Tryz.prog 76 [exD x] (bv (partR x)) := by
 refine FnOK_of laid_stable Tryz.func76 Tryz.ntmps76 rfl (by as_aux_lemma => kernel_rfl) (Nat.le_of_ble_eq_true rfl) (fun R hR => ?_)
 obtain ⟨_, b, cs, T, C⟩ := R
 obtain rfl : _ = Tryz.prog := hR.p
 have hk := kd_eq x
 refine sq ?_
 apply Exec.regionL te_ok
 ·intro u' Q hQ
  simp only [go_sem, hk, czN, c1N, l1N]
  repeat refine ob2 ?_
  exact hQ
 refine sq ?_
 refine sq ?_
 apply Exec.regionL te_ok
 ·intro u' Q hQ
  simp only [go_sem, hk, czN, c1N, l1N]
  repeat refine ob2 ?_
  exact hQ
 refine sq ?_
 apply Exec.regionL te_ok
 ·intro u' Q hQ
  simp only [go_sem, hk, czN, c1N, l1N]
  repeat refine ob2 ?_
  exact hQ
 refine Exec.block ?_
 refine sq ?_
 apply Exec.regionL te_ok
 ·intro u' Q hQ
  simp only [go_sem, hk, czN, c1N, l1N]
  repeat refine ob2 ?_
  exact hQ
 refine Exec.cond_split rfl (fun h0 => ?_) (fun h0 => ?_)
 ·refine sq ?_
  apply Exec.regionL te_ok
  ·intro u' Q hQ
   simp only [go_sem, hk, czN, c1N, l1N]
   repeat refine ob2 ?_
   refine kcallG hR.inv te_ok rfl rfl rfl rfl rfl rfl ob1 (fun hq => free_ok x.s hs) ?_
   simp only [go_sem, hk, czN, c1N, l1N]
   repeat refine ob2 ?_
   exact hQ
  refine Exec.rets hR te_ok rfl rfl rfl (LeX.le ?_) (.inr ⟨_, rfl⟩)
  simp only [go_sem, partR, czN, c1N, l1N]
  simp_all
 ·refine sq ?_
  refine sq ?_
  apply Exec.regionL te_ok
  ·intro u' Q hQ
   simp only [go_sem, hk, czN, c1N, l1N]
   repeat refine ob2 ?_
   exact hQ
  apply Exec.join [1, 3, 8, 18] rfl
  case hx =>
   intro h1 hK
   refine sk ?_
   exact hK
  case hy =>
   intro h1 hK
   apply Exec.regionL te_ok
   ·intro u' Q hQ
    simp only [go_sem, hk, czN, c1N, l1N]
    repeat refine ob2 ?_
    exact hQ
   exact hK
  case hN => rfl
  case hdf => rfl
  case hF => simp only [go_sem]
  case hP => rfl
  apply Exec.norm
  ·simp only [go_sem, hk, czN, c1N, l1N]
   rfl
  refine Exec.cond_split rfl (fun h2 => ?_) (fun h2 => ?_)
  ·refine sq ?_
   apply Exec.regionL te_ok
   ·intro u' Q hQ
    simp only [go_sem, hk, czN, c1N, l1N]
    repeat refine ob2 ?_
    exact hQ
   refine Exec.rets hR te_ok rfl rfl rfl (LeX.le ?_) (.inr ⟨_, rfl⟩)
   simp only [go_sem, partR, czN, c1N, l1N]
   simp_all
  ·refine sq ?_
   refine sq ?_
   apply Exec.regionL te_ok
   ·intro u' Q hQ
    simp only [go_sem, hk, czN, c1N, l1N]
    repeat refine ob2 ?_
    exact hQ
   apply Exec.join [1, 3, 28] rfl
   case hx =>
    intro h3 hK
    refine sk ?_
    exact hK
   case hy =>
    intro h3 hK
    refine sq ?_
    apply Exec.regionL te_ok
    ·intro u' Q hQ
     simp only [go_sem, hk, czN, c1N, l1N]
     repeat refine ob2 ?_
     exact hQ
    apply Exec.join [1, 3, 28] rfl
    case hx =>
     intro h4 hK
     refine sk ?_
     exact hK
    case hy =>
     intro h4 hK
     apply Exec.regionL te_ok
     ·intro u' Q hQ
      simp only [go_sem, hk, czN, c1N, l1N]
      repeat refine ob2 ?_
      exact hQ
     exact hK
    case hN => rfl
    case hdf => rfl
    case hF => simp only [go_sem]
    case hP => rfl
    apply Exec.norm
    ·simp only [go_sem, hk, czN, c1N, l1N]
     rfl
    exact hK
   case hN => rfl
   case hdf => rfl
   case hF => simp only [go_sem]
   case hP => rfl
   apply Exec.norm
   ·simp only [go_sem, hk, czN, c1N, l1N]
    rfl
   refine Exec.cond_split rfl (fun h5 => ?_) (fun h5 => ?_)
   ·refine sq ?_
    apply Exec.regionL te_ok
    ·intro u' Q hQ
     simp only [go_sem, hk, czN, c1N, l1N]
     repeat refine ob2 ?_
     exact hQ
    refine Exec.rets hR te_ok rfl rfl rfl (LeX.le ?_) (.inr ⟨_, rfl⟩)
    simp only [go_sem, partR, czN, c1N, l1N]
    simp_all
   ·refine sk ?_
    refine Exec.inBlock ?_
    refine sq ?_
    apply Exec.regionL te_ok
    ·intro u' Q hQ
     simp only [go_sem, hk, czN, c1N, l1N]
     repeat refine ob2 ?_
     exact hQ
    refine Exec.rets hR te_ok rfl rfl rfl (LeX.le ?_) (.inr ⟨_, rfl⟩)
    simp only [go_sem, partR, czN, c1N, l1N]
    simp_all
theorem eqf_ok (l m : List Ex) (hl : l.length ≤ 140737488355328) (ihx : ∀ x ∈ l, ∀ y, FnOK Laid Tryz.prog 37 [exD x, exD y] (bv (decide (x = y)))) : FnOK Laid Tryz.prog 77 [exsD l, exsD m, .fn 37 []] (bv (decide (l = m))) := by
 refine FnOK_of laid_stable Tryz.func77 Tryz.ntmps77 rfl (by as_aux_lemma => kernel_rfl) (Nat.le_of_ble_eq_true rfl) (fun R hR => ?_)
 obtain ⟨_, b, cs, T, C⟩ := R
 obtain rfl : _ = Tryz.prog := hR.p
 refine sreg te_ok ?_
 refine sq ?_
 refine sreg te_ok ?_
 refine Exec.cond_split rfl (fun h0 => ?_) (fun h0 => ?_)
 ·refine sreg te_ok ?_
  refine Exec.rets hR te_ok rfl rfl rfl (LeX.le ?_) (.inr ⟨_, rfl⟩)
  simp only [go_sem]
  have : l ≠ m := fun e => by subst e; simp at h0
  simp [this]
 ·have hlm : l.length = m.length := by simp at h0; omega
  refine sk ?_
  refine sq ?_
  refine sreg te_ok ?_
  refine Exec.block ?_
  apply Exec.loopU [1, 2, 15, 16] (X := Nat) (fun i => [(17, .d (iv i))]) (fun i => []) (fun i => []) (fun i => l.length - i) (fun i => i ≤ l.length ∧ l.take i = m.take i) 0
  case h0 =>
   simp
  case hw =>
   simp only [go_sem]
  case body =>
   rintro i hx ih0
   try simp only at hx
   apply Exec.norm
   ·simp only [go_sem]
    rfl
   refine sreg te_ok ?_
   refine sq ?_
   refine Exec.cond_split rfl (fun h1 => ?_) (fun h1 => ?_)
   ·have hi : i < l.length := by simp at h1; omega
    have ha := kdR_at hi
    have ha2 := kdR_at (show i < m.length by omega)
    have w2 : IntKind.i64.wrap ((i : Int) + 1) = ((i + 1 : Nat) : Int) := by rw [wrap_id (by omega)]; omega
    refine sk ?_
    refine sq ?_
    refine Exec.block ?_
    refine sq ?_
    apply Exec.regionL te_ok
    ·intro u' Q hQ
     simp only [go_sem, ha, ha2, w2]
     repeat refine ob2 ?_
     exact hQ
    refine sq ?_
    apply Exec.regionL te_ok
    ·intro u' Q hQ
     simp only [go_sem, ha, ha2, w2]
     repeat refine ob2 ?_
     exact hQ
    refine sq ?_
    apply Exec.regionL te_ok
    ·intro u' Q hQ
     simp only [go_sem, ha, ha2, w2]
     repeat refine ob2 ?_
     refine kcall hR.inv te_ok rfl rfl rfl rfl rfl rfl (ihx _ (nth_mem hi) _) ?_
     simp only [go_sem, ha, ha2, w2]
     repeat refine ob2 ?_
     exact hQ
    refine Exec.cond_split rfl (fun h2 => ?_) (fun h2 => ?_)
    ·refine sq ?_
     apply Exec.regionL te_ok
     ·intro u' Q hQ
      simp only [go_sem, ha, ha2, w2]
      repeat refine ob2 ?_
      exact hQ
     refine Exec.rets hR te_ok rfl rfl rfl (LeX.le ?_) (.inr ⟨_, rfl⟩)
     simp only [go_sem]
     have : l ≠ m := fun e => by subst e; simp at h2
     simp [this]
    ·refine sk ?_
     refine Exec.inBlock ?_
     apply Exec.regionL te_ok
     ·intro u' Q hQ
      simp only [go_sem, ha, ha2, w2]
      repeat refine ob2 ?_
      exact hQ
     refine Exec.back (ih0 (i + 1) ?_ ?_) ?_ ?_ ?_ ?_ ?_ ?_ ?_
     ·try simp only
      exact ⟨by omega, (same_step hlm hi hx.2).2 (by simpa using h2)⟩
     ·try simp only
      omega
     ·rfl
     ·rfl
     ·(simp only [go_sem, ha, ha2, w2])
     ·(simp only [go_sem, ha, ha2, w2])
     ·(simp only [go_sem, ha, ha2, w2])
     ·simp only [go_sem, ha, ha2, w2]
     ·rfl
   ·refine Exec.exit rfl ?_
    refine sreg te_ok ?_
    refine Exec.rets hR te_ok rfl rfl rfl (LeX.le ?_) (.inr ⟨_, rfl⟩)
    simp only [go_sem]
    have : l = m := by have := hx.2; simp at h1; rw [List.take_of_length_le (by omega), List.take_of_length_le (by omega)] at this; exact this
    simp [this]
theorem xsame_step (x y : Ex) (hx0 : x.kids.length ≤ 140737488355328) (ihx : ∀ x2 ∈ x.kids, ∀ y, FnOK Laid Tryz.prog 37 [exD x2, exD y] (bv (decide (x2 = y)))) : FnOK Laid Tryz.prog 37 [exD x, exD y] (bv (decide (x = y))) := by
 refine FnOK_of laid_stable Tryz.func37 Tryz.ntmps37 rfl (by as_aux_lemma => kernel_rfl) (Nat.le_of_ble_eq_true rfl) (fun R hR => ?_)
 obtain ⟨_, b, cs, T, C⟩ := R
 obtain rfl : _ = Tryz.prog := hR.p
 have hk := kd_eq x
 have hk2 := kd_eq y
 refine sq ?_
 apply Exec.regionL te_ok
 ·intro u' Q hQ
  simp only [go_sem, hk, hk2]
  repeat refine ob2 ?_
  exact hQ
 refine sq ?_
 apply Exec.regionL te_ok
 ·intro u' Q hQ
  simp only [go_sem, hk, hk2]
  repeat refine ob2 ?_
  refine kcallG hR.inv te_ok rfl rfl rfl rfl rfl rfl ob1 (fun hq => eqf_ok x.kids y.kids hx0 ihx) ?_
  simp only [go_sem, hk, hk2]
  repeat refine ob2 ?_
  exact hQ
 refine Exec.rets hR te_ok rfl rfl rfl (LeX.le ?_) (.inr ⟨_, rfl⟩)
 simp only [go_sem]
 rw [← ex_eq]
 cases (x.k == y.k) <;> cases (x.s == y.s) <;> simp
theorem xsame_ok (x y : Ex) (hfx : FitX x) : FnOK Laid Tryz.prog 37 [exD x, exD y] (bv (decide (x = y))) := by
 refine Ex.ind (p := fun x => FitX x → ∀ y, FnOK Laid Tryz.prog 37 [exD x, exD y] (bv (decide (x = y)))) (fun x ih h y => xsame_step x y h.k fun x2 h2 => ih x2 h2 (h.y h2)) x hfx y
end Go.Proofs.YtonchjamoblioaaGreatDoor
