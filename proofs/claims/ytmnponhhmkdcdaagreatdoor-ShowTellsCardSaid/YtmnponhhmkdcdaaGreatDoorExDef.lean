/- Contracts of functions of the seat, walked. -/
import Derived.Test.YtmnponhhmkdcdaaGreatDoorKAttr
import Derived.Test.YtmnponhhmkdcdaaGreatDoorLxDef
namespace Go.Kin
/-! ### expressions of paths -/
inductive Ex where
  | mk (k : Int) (s : List UInt8) (kids : List Ex)
namespace Ex
def k : Ex → Int | .mk k _ _ => k
def s : Ex → List UInt8 | .mk _ s _ => s
def kids : Ex → List Ex | .mk _ _ ks => ks
end Ex
instance : Inhabited Ex := ⟨.mk 0 [] []⟩
noncomputable instance : DecidableEq Ex := fun _ _ => Classical.propDecidable _
theorem Ex.eta (x : Ex) : x = .mk x.k x.s x.kids := by cases x; rfl
theorem Ex.ext {x y : Ex} (h1 : x.k = y.k) (h2 : x.s = y.s) (h3 : x.kids = y.kids) : x = y := by
  rw [x.eta, y.eta, h1, h2, h3]
theorem Ex.ind {p : Ex → Prop} (h : ∀ x, (∀ y ∈ x.kids, p y) → p x) : ∀ x, p x
  | .mk k s ks => h _ fun y _hy => Ex.ind h y
termination_by x => SizeOf.sizeOf x
decreasing_by
  have hm : y ∈ ks := _hy
  have := List.sizeOf_lt_of_mem hm
  simp only [Ex.mk.sizeOf_spec]
  omega
mutual
/-- how many parts it has -/
def Ex.size : Ex → Nat
  | .mk _ _ ks => 1 + Ex.sizes ks
def Ex.sizes : List Ex → Nat
  | [] => 0
  | x :: r => x.size + Ex.sizes r
end
theorem Ex.size_eq (x : Ex) : x.size = 1 + Ex.sizes x.kids := by cases x; rfl
theorem Ex.size_pos (x : Ex) : 1 ≤ x.size := by rw [x.size_eq]; omega
theorem Ex.sizes_app : ∀ (x y : List Ex), Ex.sizes (x ++ y) = Ex.sizes x + Ex.sizes y
  | [], y => by simp [Ex.sizes]
  | a :: x, y => by simp [Ex.sizes, Ex.sizes_app x y]; omega
theorem Ex.sizes_take {l : List Ex} {i : Nat} (h : i < l.length) : Ex.sizes (l.take (i + 1)) = Ex.sizes (l.take i) + (nth l i).size := by
  rw [take_succ_nth h, Ex.sizes_app]; simp [Ex.sizes]
theorem Ex.sizes_mem {y : Ex} : ∀ {l : List Ex}, y ∈ l → y.size ≤ Ex.sizes l
  | x :: r, h => by
    simp only [Ex.sizes]
    rcases List.mem_cons.1 h with rfl | h
    · omega
    · have := Ex.sizes_mem h; omega
theorem Ex.sizes_le (l : List Ex) (i : Nat) : Ex.sizes (l.take i) ≤ Ex.sizes l := by
  have := Ex.sizes_app (l.take i) (l.drop i)
  rw [List.take_append_drop] at this; omega
theorem Ex.len_le : ∀ (l : List Ex), l.length ≤ Ex.sizes l
  | [] => by simp [Ex.sizes]
  | x :: r => by have := Ex.len_le r; have := x.size_pos; simp [Ex.sizes]; omega
mutual
/-- how many parts it has, as far as the law counts them -/
def Ex.lim : Ex → Nat → Nat
  | .mk _ _ ks, d => if 60 < d then 401 else Ex.limL ks (d + 1) 1
def Ex.limL : List Ex → Nat → Nat → Nat
  | [], _, n => n
  | x :: r, d, n => if n ≤ 400 then Ex.limL r d (n + x.lim d) else n
end
theorem Ex.lim_eq (x : Ex) (d : Nat) : x.lim d = if 60 < d then 401 else Ex.limL x.kids (d + 1) 1 := by cases x; simp [Ex.lim, Ex.kids]
theorem Ex.limL_step {l : List Ex} {i d n : Nat} (h : i < l.length) (hn : n ≤ 400) : Ex.limL (l.drop i) d n = Ex.limL (l.drop (i + 1)) d (n + (nth l i).lim d) := by
  rw [drop_nth h]; simp only [Ex.limL, if_pos hn]
theorem Ex.limL_stop {l : List Ex} {i d n : Nat} (h : l.length ≤ i ∨ 400 < n) : Ex.limL (l.drop i) d n = n := by
  rcases h with h | h
  · rw [List.drop_eq_nil_of_le h]; rfl
  · cases l.drop i with
    | nil => rfl
    | cons x r => simp only [Ex.limL]; rw [if_neg (by omega)]
theorem Ex.limL_ge : ∀ (l : List Ex) (d n : Nat), n ≤ Ex.limL l d n
  | [], _, _ => Nat.le_refl _
  | x :: r, d, n => by
    simp only [Ex.limL]
    split
    · have := Ex.limL_ge r d (n + x.lim d); omega
    · exact Nat.le_refl _
theorem Ex.limL_bd {B d : Nat} : ∀ (l : List Ex) (n : Nat), (∀ x ∈ l, x.lim d ≤ B) → n ≤ 400 + B → Ex.limL l d n ≤ 400 + B
  | [], _, _, h => h
  | x :: r, n, hb, h => by
    simp only [Ex.limL]
    split
    · have := hb x List.mem_cons_self
      exact Ex.limL_bd r _ (fun y hy => hb y (List.mem_cons_of_mem _ hy)) (by omega)
    · exact h
theorem Ex.lim_bd : ∀ (m : Nat) (x : Ex) (d : Nat), 61 - d = m → d ≤ 61 → x.lim d ≤ 401 * (m + 1)
  | 0, x, d, h, hd => by rw [x.lim_eq, if_pos (by omega)]; omega
  | m + 1, x, d, h, hd => by
    rw [x.lim_eq]
    split
    · omega
    · generalize hB : 401 * (m + 1) = B
      have h2 := Ex.limL_bd (B := B) (d := d + 1) x.kids 1 (fun y _ => hB ▸ Ex.lim_bd m y (d + 1) (by omega) (by omega)) (by omega)
      have h3 : 401 * (m + 1 + 1) = B + 401 := by rw [← hB]; omega
      rw [h3]
      exact Nat.le_trans h2 (by omega)
theorem Ex.lim_le (x : Ex) {d : Nat} (h : d ≤ 61) : x.lim d ≤ 100000 := by
  have := Ex.lim_bd (61 - d) x d rfl h
  have : 401 * (61 - d + 1) ≤ 401 * 62 := Nat.mul_le_mul_left _ (by omega)
  omega
theorem Ex.limL_size {d : Nat} : ∀ (l : List Ex) (n : Nat), (∀ x ∈ l, x.lim d ≤ 400 → x.size = x.lim d) → Ex.limL l d n ≤ 400 → n + Ex.sizes l = Ex.limL l d n
  | [], n, _, _ => by simp [Ex.sizes, Ex.limL]
  | x :: r, n, hs, h => by
    simp only [Ex.limL] at h ⊢
    split at h
    · rename_i hn
      rw [if_pos hn]
      have h1 := Ex.limL_ge r d (n + x.lim d)
      have h2 := hs x List.mem_cons_self (by omega)
      have h3 := Ex.limL_size r _ (fun y hy => hs y (List.mem_cons_of_mem _ hy)) h
      simp only [Ex.sizes]; omega
    · omega
theorem Ex.lim_size : ∀ (x : Ex) (d : Nat), x.lim d ≤ 400 → x.size = x.lim d := fun x => by
  refine Ex.ind (p := fun x => ∀ d, x.lim d ≤ 400 → x.size = x.lim d) (fun x ih d h => ?_) x
  rw [x.lim_eq] at h ⊢
  split at h
  · omega
  · rename_i hd
    rw [if_neg hd, x.size_eq]
    exact Ex.limL_size x.kids 1 (fun y hy => ih y hy (d + 1)) h
/-! #### as data -/
mutual
/-- the data of an expression's kids -/
def kdX : Ex → D
  | .mk _ _ ks => .sl 3 ks.length ks.length (kdR ks)
def kdR : List Ex → Nat → List D
  | [], _ => []
  | .mk k s ks :: _, 0 => [.v (.int .i64 k), .v (.string (mkS s)), .sl 3 ks.length ks.length (kdR ks)]
  | _ :: r, i + 1 => kdR r i
end
theorem kd_eq (x : Ex) : kdX x = .sl 3 x.kids.length x.kids.length (kdR x.kids) := by cases x; simp [kdX, Ex.kids]
abbrev exC (x : Ex) : List D := [.v (.int .i64 x.k), .v (.string (mkS x.s)), kdX x]
abbrev exD (x : Ex) : D := .ag [.v (.int .i64 x.k), .v (.string (mkS x.s)), kdX x]
abbrev exsD (l : List Ex) : D := .sl 3 l.length l.length (kdR l)
theorem kdR_at : ∀ {l : List Ex} {i : Nat}, i < l.length → kdR l i = exC (nth l i)
  | [], _, h => by simp at h
  | .mk k s ks :: r, 0, _ => by simp [kdR, exC, nth, Ex.k, Ex.s, kdX]
  | x :: r, i + 1, h => by
    have := kdR_at (l := r) (i := i) (by simpa using h)
    cases x
    simp only [kdR]
    rw [this]; rfl
theorem kdR_out : ∀ {l : List Ex} {i : Nat}, l.length ≤ i → kdR l i = []
  | [], _, _ => by simp only [kdR]
  | x :: r, 0, h => by simp at h
  | x :: r, i + 1, h => by
    cases x
    simp only [kdR]
    exact kdR_out (l := r) (i := i) (by simpa using h)
theorem kd_exs (x : Ex) : kdX x = exsD x.kids := kd_eq x
end Go.Kin
