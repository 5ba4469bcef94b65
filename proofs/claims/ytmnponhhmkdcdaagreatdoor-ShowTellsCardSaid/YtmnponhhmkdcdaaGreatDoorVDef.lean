/- Values and rows of values: what is computed, and that it is what the document tells. -/
import Derived.Test.YtmnponhhmkdcdaaGreatDoorVNum
import Derived.Lib.Strings
namespace Go.Kin
open Go.Lib

/-! ### values: what the program and the document make of them, as functions of lists -/
def cmpI (a b : Int) : Int := if a < b then -1 else if b < a then 1 else 0
def cmpS (a b : List UInt8) : Int := if Op.bytesLess a b = true then -1 else if a = b then 0 else 1
/-- the first that is not 0 -/
def orL : List Int → Int
  | [] => 0
  | x :: r => if x = 0 then orL r else x
def cmpV (k n : Int) (s : List UInt8) (k' n' : Int) (s' : List UInt8) : Int := orL [cmpI k k', cmpI n n', cmpS s s']
def holdsV (op c : Int) : Bool := if op = 1 then c == 0 else if op = 2 then c != 0 else if op = 3 ∨ op = 4 then decide (c < 0) || (op == 4 && c == 0) else if op = 5 ∨ op = 6 then decide (0 < c) || (op == 6 && c == 0) else false
def plainI (c : UInt8) : Bool := decide ((c.toNat : Int) < 32) || decide (126 < (c.toNat : Int)) || (c.toNat : Int) == 34 || (c.toNat : Int) == 92
/-- all bytes of a text may be -/
def plainS (s : List UInt8) : Bool := s.all fun c => !plainI c
def rightV (k n : Int) (s : List UInt8) : Bool := if k = 1 then (s == [] && decide (-1099511627776 ≤ n) && decide (n ≤ 1099511627776)) else if k = 2 then (n == 0 && decide ((s.length : Int) ≤ 40) && plainS s) else false
def shownV (k n : Int) (s : List UInt8) : List UInt8 := if k = 2 then 34 :: (s ++ [34]) else itoa n
/-- a value: its kind, number, text -/
structure Vl where
  k : Int
  n : Int
  s : List UInt8
  deriving DecidableEq, Inhabited
def Vl.right (v : Vl) : Bool := rightV v.k v.n v.s
def Vl.shown (v : Vl) : List UInt8 := shownV v.k v.n v.s
def Vl.cmp (a b : Vl) : Int := cmpV a.k a.n a.s b.k b.n b.s
def parseT (s : List UInt8) : Vl := if hasPrefix s [34] = true then ⟨2, 0, trimSuffix (trimPrefix s [34]) [34]⟩ else ⟨1, atoiN s, []⟩
def parseB (s : List UInt8) : Bool := (parseT s).right && (parseT s).shown == s
def parseV (s : List UInt8) : Vl := if parseB s = true then parseT s else ⟨0, 0, []⟩
def parseE (s : List UInt8) : Int := if parseB s = true then 0 else 7
def showT (v : Vl) : List UInt8 := if v.right = true then v.shown else []
def showE (v : Vl) : Int := if v.right = true then 0 else 2
/-- the document's -/
def refCmp (a b : Vl) : Int := if a.k < b.k ∨ (a.k = b.k ∧ (a.n < b.n ∨ (a.n = b.n ∧ Op.bytesLess a.s b.s = true))) then -1 else if a = b then 0 else 1
def refHolds (op c : Int) : Bool := if op = 1 then c == 0 else if op = 2 then c != 0 else if op = 3 then decide (c < 0) else if op = 4 then decide (c ≤ 0) else if op = 5 then decide (0 < c) else if op = 6 then decide (0 ≤ c) else false
def quoted (s : List UInt8) : Bool := decide (2 ≤ s.length) && (s.getD 0 0 == 34) && (s.getD (s.length - 1) 0 == 34)
def refB (s : List UInt8) : Option Vl :=
  if quoted s = true then (if rightV 2 0 ((s.drop 1).take (s.length - 2)) = true then some ⟨2, 0, (s.drop 1).take (s.length - 2)⟩ else none)
  else match numberV s with
    | some n => if rightV 1 n [] = true then some ⟨1, n, []⟩ else none
    | none => none

theorem hasPre_quote (s : List UInt8) : hasPrefix s [34] = true ↔ ∃ r, s = 34 :: r := by
  unfold hasPrefix
  rw [List.isPrefixOf_iff_prefix]
  exact ⟨fun ⟨r, h⟩ => ⟨r, h.symm⟩, fun ⟨r, h⟩ => ⟨r, h.symm⟩⟩
theorem hasSuf_quote (s : List UInt8) : hasSuffix s [34] = true ↔ ∃ r, s = r ++ [34] := by
  unfold hasSuffix
  rw [List.isSuffixOf_iff_suffix]
  exact ⟨fun ⟨r, h⟩ => ⟨r, h.symm⟩, fun ⟨r, h⟩ => ⟨r, h.symm⟩⟩
theorem trimPre_quote (r : List UInt8) : trimPrefix (34 :: r) [34] = r := by
  unfold trimPrefix; rw [if_pos ((hasPre_quote _).2 ⟨r, rfl⟩)]; rfl
theorem trimSuf_quote (r : List UInt8) : trimSuffix (r ++ [34]) [34] = r := by
  unfold trimSuffix; rw [if_pos ((hasSuf_quote _).2 ⟨r, rfl⟩)]; simp
theorem trimSuf_not {r : List UInt8} (h : ¬ ∃ r', r = r' ++ [34]) : trimSuffix r [34] = r := by
  unfold trimSuffix; rw [if_neg (fun h' => h ((hasSuf_quote _).1 h'))]
theorem right_num (n : Int) : rightV 1 n [] = true ↔ okNum n := by unfold rightV okNum; simp
theorem quoted_iff (s : List UInt8) : quoted s = true ↔ ∃ r, s = 34 :: (r ++ [34]) := by
  constructor
  · intro h
    unfold quoted at h
    simp at h
    obtain ⟨⟨h1, h2⟩, h3⟩ := h
    cases s with
    | nil => simp at h1
    | cons c r =>
      simp at h1 h2 h3
      refine ⟨r.dropLast, ?_⟩
      have hr : r ≠ [] := by rintro rfl; simp at h1
      have hl := List.dropLast_concat_getLast hr
      subst h2
      have : r.getLast hr = 34 := by
        rw [List.getLast_eq_getElem]
        have hr' : r.length ≠ 0 := by simpa using hr
        obtain ⟨m, hm⟩ : ∃ m, r.length = m + 1 := ⟨r.length - 1, by omega⟩
        simp only [hm] at h3 ⊢
        simpa [List.getElem?_eq_getElem (show m < r.length by omega)] using h3
      rw [this] at hl
      rw [hl]
  · rintro ⟨r, rfl⟩
    simp [quoted]
theorem number_pos {s : List UInt8} (h : s.head? ≠ some 45) : numberV s = if s = [] ∨ 13 < s.length ∨ (s.head? = some 48 ∧ s ≠ [48]) then none else match decFrom 0 s with
    | none => none
    | some m => some (if s.length < s.length then -(m : Int) else m) := by
  unfold numberV
  simp only [if_neg h]
  rfl
theorem number_quote (r : List UInt8) : numberV (34 :: r) = none := by
  rw [number_pos (by simp)]
  split
  · rfl
  · simp [decFrom, digitVal]
/-- **What any text is the value of is what the document tells.** -/
theorem parse_ref (s : List UInt8) : (if parseB s = true then some (parseT s) else none) = refB s := by
  unfold refB
  by_cases hp : hasPrefix s [34] = true
  · obtain ⟨r, rfl⟩ := (hasPre_quote s).1 hp
    by_cases hs : ∃ r', r = r' ++ [34]
    · obtain ⟨r', rfl⟩ := hs
      have hq : quoted (34 :: (r' ++ [34])) = true := (quoted_iff _).2 ⟨r', rfl⟩
      have ht : parseT (34 :: (r' ++ [34])) = ⟨2, 0, r'⟩ := by unfold parseT; rw [if_pos hp, trimPre_quote, trimSuf_quote]
      have e : ((34 :: (r' ++ [34])).drop 1).take ((34 :: (r' ++ [34])).length - 2) = r' := by simp
      rw [if_pos hq, e]
      unfold parseB
      rw [ht]
      simp [Vl.right, Vl.shown, shownV]
    · have hq : ¬ quoted (34 :: r) = true := fun h => by
        obtain ⟨r', e⟩ := (quoted_iff _).1 h
        simp at e; exact hs ⟨r', e⟩
      have ht : parseT (34 :: r) = ⟨2, 0, r⟩ := by unfold parseT; rw [if_pos hp, trimPre_quote, trimSuf_not hs]
      rw [if_neg hq, number_quote]
      unfold parseB
      rw [ht]
      have : ((Vl.shown ⟨2, 0, r⟩) == 34 :: r) = false := by
        rw [beq_eq_false_iff_ne]; intro e
        have := congrArg List.length e
        simp [Vl.shown, shownV] at this
      simp [this]
  · have hq : ¬ quoted s = true := fun h => by
      obtain ⟨r', e⟩ := (quoted_iff _).1 h
      exact hp ((hasPre_quote s).2 ⟨_, e⟩)
    have ht : parseT s = ⟨1, atoiN s, []⟩ := by unfold parseT; rw [if_neg hp]
    rw [if_neg hq]
    by_cases hb : parseB s = true
    · rw [if_pos hb]
      unfold parseB at hb
      rw [ht] at hb ⊢
      simp [Vl.right, Vl.shown, shownV] at hb
      obtain ⟨h1, h2⟩ := hb
      have hn : numberV s = some (atoiN s) := by
        conv => lhs; rw [← h2]
        exact number_itoa ((right_num _).1 h1)
      rw [hn]
      simp [h1]
    · rw [if_neg hb]
      cases hn : numberV s with
      | none => rfl
      | some m =>
        simp only
        rw [if_neg]
        intro hr
        apply hb
        have hm := (right_num _).1 hr
        have e := itoa_number hn
        have ha : atoiN s = m := by rw [e]; exact atoiN_itoa hm
        unfold parseB
        rw [ht, ha]
        simp [Vl.right, Vl.shown, shownV, hr, ← e]
theorem parseV_ref (s : List UInt8) : parseV s = (refB s).getD ⟨0, 0, []⟩ := by
  rw [← parse_ref]; unfold parseV; split <;> rfl
theorem parseE_ref (s : List UInt8) : parseE s = if (refB s).isSome = true then 0 else 7 := by
  rw [← parse_ref]; unfold parseE; split <;> rfl
/-- what is shown is parsed -/
theorem parse_shown {v : Vl} (h : v.right = true) : parseB v.shown = true ∧ parseT v.shown = v := by
  obtain ⟨k, n, s⟩ := v
  have hT : parseT (Vl.shown ⟨k, n, s⟩) = ⟨k, n, s⟩ := by
    unfold Vl.right rightV at h
    simp only at h
    split at h
    · rename_i hk; subst hk
      simp at h
      obtain ⟨⟨rfl, h1⟩, h2⟩ := h
      have e : Vl.shown ⟨1, n, []⟩ = itoa n := by simp [Vl.shown, shownV]
      rw [e]
      unfold parseT
      rw [if_neg (fun hp => by
        obtain ⟨r, hr⟩ := (hasPre_quote _).1 hp
        exact itoa_not_quote n (by rw [hr]; rfl)), atoiN_itoa ⟨h1, h2⟩]
    · split at h
      · rename_i hk; subst hk
        simp at h
        obtain ⟨⟨rfl, h1⟩, h2⟩ := h
        have e : Vl.shown ⟨2, 0, s⟩ = 34 :: (s ++ [34]) := by simp [Vl.shown, shownV]
        rw [e]
        unfold parseT
        rw [if_pos ((hasPre_quote _).2 ⟨_, rfl⟩), trimPre_quote, trimSuf_quote]
      · cases h
  refine ⟨?_, hT⟩
  unfold parseB
  rw [hT, h]
  simp
theorem shown_inj {v u : Vl} (h : v.right = true) (h' : u.right = true) : v.shown = u.shown ↔ v = u :=
  ⟨fun e => by rw [← (parse_shown h).2, e, (parse_shown h').2], fun e => by rw [e]⟩

/-! ### orders -/
structure Ord3 {α : Type} (c : α → α → Int) : Prop where
  sgn : ∀ a b, c a b = -1 ∨ c a b = 0 ∨ c a b = 1
  anti : ∀ a b, c a b = -c b a
  zero : ∀ a b, c a b = 0 ↔ a = b
  trans : ∀ a b d, c a b ≤ 0 → c b d ≤ 0 → c a d ≤ 0
theorem ord3_int : Ord3 cmpI := by
  constructor <;> intros <;> (try unfold cmpI at *) <;> (repeat' split at *) <;> omega
theorem u8_lt (a b : UInt8) : (decide (a < b) = true ∧ a.toNat < b.toNat) ∨ (decide (a < b) = false ∧ ¬ a.toNat < b.toNat) := by
  by_cases h : a < b
  · exact .inl ⟨by simp [h], UInt8.lt_iff_toNat_lt.1 h⟩
  · exact .inr ⟨by simp [h], fun h' => h (UInt8.lt_iff_toNat_lt.2 h')⟩
theorem less_irrefl : ∀ (a : List UInt8), Op.bytesLess a a = false
  | [] => rfl
  | x :: a => by
    have := less_irrefl a
    simp [Op.bytesLess, this]
theorem less_tri : ∀ (a b : List UInt8), a ≠ b → Op.bytesLess a b = !Op.bytesLess b a
  | [], [], h => absurd rfl h
  | [], y :: b, _ => by simp [Op.bytesLess]
  | x :: a, [], _ => by simp [Op.bytesLess]
  | x :: a, y :: b, h => by
    by_cases e : x = y
    · subst e
      have := less_tri a b (fun e => h (by rw [e]))
      simp [Op.bytesLess, this]
    · have e1 : (x == y) = false := by simpa using e
      have e2 : (y == x) = false := by simpa using fun e' => e e'.symm
      have hne : x.toNat ≠ y.toNat := fun h' => e (UInt8.toNat_inj.1 h')
      simp only [Op.bytesLess, e1, e2, Bool.false_and, Bool.or_false]
      rcases u8_lt x y with ⟨p, q⟩ | ⟨p, q⟩ <;> rcases u8_lt y x with ⟨p', q'⟩ | ⟨p', q'⟩ <;> rw [p, p'] <;> first | rfl | (exfalso; omega)
theorem less_trans : ∀ (a b d : List UInt8), Op.bytesLess a b = true → Op.bytesLess b d = true → Op.bytesLess a d = true
  | [], _, [], _, h' => by rename_i b _; cases b <;> simp [Op.bytesLess] at h'
  | [], _, z :: d, _, _ => by simp [Op.bytesLess]
  | x :: a, [], _, h, _ => by simp [Op.bytesLess] at h
  | x :: a, y :: b, [], _, h' => by simp [Op.bytesLess] at h'
  | x :: a, y :: b, z :: d, h, h' => by
    simp only [Op.bytesLess, Bool.or_eq_true, Bool.and_eq_true, beq_iff_eq, decide_eq_true_eq] at h h' ⊢
    rcases h with h | ⟨rfl, h⟩ <;> rcases h' with h' | ⟨rfl, h'⟩
    · left; exact UInt8.lt_iff_toNat_lt.2 (Nat.lt_trans (UInt8.lt_iff_toNat_lt.1 h) (UInt8.lt_iff_toNat_lt.1 h'))
    · left; exact h
    · left; exact h'
    · right; exact ⟨rfl, less_trans a b d h h'⟩
theorem ord3_text : Ord3 cmpS := by
  constructor
  · intro a b; unfold cmpS; split
    · exact .inl rfl
    · split
      · exact .inr (.inl rfl)
      · exact .inr (.inr rfl)
  · intro a b; unfold cmpS
    by_cases e : a = b
    · subst e; rw [less_irrefl]; simp
    · have := less_tri a b e
      cases h : Op.bytesLess b a <;> rw [h] at this <;> simp [this, e] <;> exact fun e' => e e'.symm
  · intro a b; unfold cmpS
    constructor
    · intro h; split at h
      · cases h
      · split at h
        · assumption
        · cases h
    · rintro rfl; rw [less_irrefl]; simp
  · intro a b d; unfold cmpS
    by_cases e : a = b
    · subst e; intro _ h; exact h
    · by_cases e' : b = d
      · subst e'; intro h _; exact h
      · by_cases h1 : Op.bytesLess a b = true
        · by_cases h2 : Op.bytesLess b d = true
          · rw [if_pos (less_trans a b d h1 h2)]; intros; decide
          · rw [if_neg h2, if_neg e']; intro _ h; exact absurd h (by decide)
        · rw [if_neg h1, if_neg e]; intro h; exact absurd h (by decide)
theorem Ord3.comap {α β : Type} {c : α → α → Int} (h : Ord3 c) (f : β → α) (hf : ∀ x y, f x = f y → x = y) : Ord3 fun x y => c (f x) (f y) :=
  ⟨fun _ _ => h.sgn _ _, fun _ _ => h.anti _ _, fun a b => ⟨fun e => hf _ _ ((h.zero _ _).1 e), fun e => (h.zero _ _).2 (by rw [e])⟩, fun _ _ _ => h.trans _ _ _⟩
theorem Ord3.pair {α β : Type} {c : α → α → Int} {c' : β → β → Int} (h : Ord3 c) (h' : Ord3 c') : Ord3 fun (x y : α × β) => if c x.1 y.1 = 0 then c' x.2 y.2 else c x.1 y.1 := by
  constructor
  · intro a b; (try dsimp only); split
    · exact h'.sgn _ _
    · exact h.sgn _ _
  · intro a b; (try dsimp only)
    have h1 := h.anti a.1 b.1
    have h2 := h'.anti a.2 b.2
    split <;> split <;> omega
  · rintro ⟨a, a'⟩ ⟨b, b'⟩; (try dsimp only)
    have h1 := h.zero a b
    have h2 := h'.zero a' b'
    constructor
    · intro e; split at e
      · rename_i e0; rw [h1.1 e0, h2.1 e]
      · contradiction
    · intro e; cases e; rw [if_pos (h1.2 rfl)]; exact h2.2 rfl
  · rintro ⟨a, a'⟩ ⟨b, b'⟩ ⟨d, d'⟩; (try dsimp only)
    have t1 := h.trans a b d
    have t2 := h'.trans a' b' d'
    have z1 := h.zero a b
    have z2 := h.zero b d
    have z3 := h.zero a d
    have n1 := h.anti a b
    have n2 := h.anti b d
    have n3 := h.anti a d
    intro e1 e2
    by_cases q1 : c a b = 0
    · obtain rfl := z1.1 q1
      by_cases q2 : c a d = 0
      · rw [if_pos q2] at e2 ⊢; rw [if_pos q1] at e1; exact t2 e1 e2
      · rw [if_neg q2] at e2 ⊢; exact e2
    · rw [if_neg q1] at e1
      by_cases q2 : c b d = 0
      · obtain rfl := z2.1 q2
        rw [if_neg q1]; exact e1
      · rw [if_neg q2] at e2
        have q3 : c a d ≠ 0 := fun e => by
          obtain rfl := z3.1 e
          omega
        rw [if_neg q3]; exact t1 e1 e2
theorem cmp_ord : Ord3 Vl.cmp := by
  have h := (ord3_int.pair (ord3_int.pair ord3_text)).comap (fun v : Vl => (v.k, v.n, v.s)) (fun x y e => by cases x; cases y; simp at e; simp [e])
  have e : (fun x y : Vl => if cmpI x.k y.k = 0 then (if cmpI x.n y.n = 0 then cmpS x.s y.s else cmpI x.n y.n) else cmpI x.k y.k) = Vl.cmp := by
    funext x y
    simp only [Vl.cmp, cmpV, orL]
    split
    · split
      · split
        · assumption
        · rfl
      · rfl
    · rfl
  rw [← e]; exact h
/-- how two rows stand -/
def rowsL {α : Type} (c : α → α → Int) : List α → List α → Int
  | [], [] => 0
  | [], _ :: _ => -1
  | _ :: _, [] => 1
  | a :: x, b :: y => if c a b = 0 then rowsL c x y else c a b
theorem rows_ord {α : Type} {c : α → α → Int} (h : Ord3 c) : Ord3 (rowsL c) := by
  constructor
  · intro a
    induction a with
    | nil => intro b; cases b <;> simp [rowsL]
    | cons a x ih =>
      intro b
      cases b with
      | nil => simp [rowsL]
      | cons b y => simp only [rowsL]; split
                    · exact ih y
                    · exact h.sgn a b
  · intro a
    induction a with
    | nil => intro b; cases b <;> simp [rowsL]
    | cons a x ih =>
      intro b
      cases b with
      | nil => simp [rowsL]
      | cons b y =>
        have h1 := h.anti a b
        have h2 := ih y
        simp only [rowsL]
        split <;> split <;> omega
  · intro a
    induction a with
    | nil => intro b; cases b <;> simp [rowsL]
    | cons a x ih =>
      intro b
      cases b with
      | nil => simp [rowsL]
      | cons b y =>
        have h1 := h.zero a b
        have h2 := ih y
        simp only [rowsL, List.cons.injEq]
        split
        · rename_i e; rw [h2]; simp [h1.1 e]
        · rename_i e; simp only [e, false_iff, not_and]; exact fun e' => absurd (h1.2 e') e
  · intro a
    induction a with
    | nil => intro b d h1 h2; cases d with
      | nil => simp [rowsL]
      | cons => simp [rowsL]
    | cons a x ih =>
      intro b d h1 h2
      cases b with
      | nil => simp [rowsL] at h1
      | cons b y =>
        cases d with
        | nil => simp [rowsL] at h2
        | cons d z =>
          simp only [rowsL] at h1 h2 ⊢
          have z1 := h.zero a b
          have z2 := h.zero b d
          have z3 := h.zero a d
          have n1 := h.anti a b
          have n2 := h.anti b d
          have t := h.trans a b d
          by_cases q1 : c a b = 0
          · obtain rfl := z1.1 q1
            rw [if_pos q1] at h1
            by_cases q2 : c a d = 0
            · rw [if_pos q2] at h2 ⊢; exact ih y z h1 h2
            · rw [if_neg q2] at h2 ⊢; exact h2
          · rw [if_neg q1] at h1
            by_cases q2 : c b d = 0
            · obtain rfl := z2.1 q2
              rw [if_neg q1]; exact h1
            · rw [if_neg q2] at h2
              have q3 : c a d ≠ 0 := fun e => by obtain rfl := z3.1 e; omega
              rw [if_neg q3]; exact t h1 h2
theorem cmp_ref (a b : Vl) : a.cmp b = refCmp a b := by
  have h := cmp_ord.zero a b
  unfold refCmp
  by_cases e : a = b
  · subst e
    rw [h.2 rfl, if_neg, if_pos rfl]
    rw [less_irrefl]; simp
  · rw [if_neg e]
    simp only [Vl.cmp, cmpV, orL]
    by_cases h1 : a.k = b.k
    · rw [if_pos ((ord3_int.zero _ _).2 h1)]
      by_cases h2 : a.n = b.n
      · rw [if_pos ((ord3_int.zero _ _).2 h2)]
        have h3 : a.s ≠ b.s := fun h3 => e (by cases a; cases b; simp at *; simp [*])
        rw [if_neg (fun h => h3 ((ord3_text.zero _ _).1 h))]
        unfold cmpS
        rw [if_neg h3]
        by_cases h4 : Op.bytesLess a.s b.s = true
        · rw [if_pos h4, if_pos (.inr ⟨h1, .inr ⟨h2, h4⟩⟩)]
        · rw [if_neg h4, if_neg (by rintro (h | ⟨_, h | ⟨_, h⟩⟩) <;> first | omega | exact h4 h)]
      · rw [if_neg (fun h => h2 ((ord3_int.zero _ _).1 h))]
        unfold cmpI
        by_cases h4 : a.n < b.n
        · rw [if_pos h4, if_pos (.inr ⟨h1, .inl h4⟩)]
        · rw [if_neg h4, if_pos (by omega), if_neg (by omega)]
    · rw [if_neg (fun h => h1 ((ord3_int.zero _ _).1 h))]
      unfold cmpI
      by_cases h4 : a.k < b.k
      · rw [if_pos h4, if_pos (.inl h4)]
      · rw [if_neg h4, if_pos (by omega), if_neg (by omega)]
theorem holds_ref (op c : Int) (hc : c = -1 ∨ c = 0 ∨ c = 1) : holdsV op c = refHolds op c := by
  unfold holdsV refHolds
  by_cases h1 : op = 1
  · simp [h1]
  by_cases h2 : op = 2
  · simp [h2]
  by_cases h3 : op = 3
  · subst h3; simp
  by_cases h4 : op = 4
  · subst h4; rcases hc with rfl | rfl | rfl <;> decide
  by_cases h5 : op = 5
  · subst h5; simp
  by_cases h6 : op = 6
  · subst h6; rcases hc with rfl | rfl | rfl <;> decide
  simp [h1, h2, h3, h4, h5, h6]
end Go.Kin
