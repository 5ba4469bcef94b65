/- Steps of a function body on data, and contracts of the functions of the seat, walked. -/
import Derived.Shelf.Strings.Builder1
import Derived.Shelf.Strings.Builder2
import Derived.Shelf.Strings.OnBuilder
import Derived.Shelf.Small.Strs
import Derived.Shelf.Strconv.Atoi
import Derived.Shelf.Strconv.Itoa0
import Derived.Shelf.Strconv.Itoa1
import Derived.Shelf.LaysM
import Derived.Shelf.Strconv.Itoa2
import Derived.Shelf.Strconv.Itoa3
import Derived.Shelf.Strconv.AtoiErrFast
import Derived.Shelf.Strconv.ParseIntEmpty
import Derived.Shelf.Strconv.AtoiFail
import Derived.Shelf.Strconv.Clone
import Derived.Shelf.Strconv.SyntaxError
import Derived.Shelf.LaysC
import Derived.Shelf.Strconv.ToError
import Derived.Shelf.Strconv.Lower
import Derived.Shelf.Strconv.ParseUint10
import Derived.Shelf.Strconv.ParseUint10Empty
import Derived.Shelf.Strconv.ParseUint10Any
import Derived.Shelf.Strconv.ParseInt10
import Derived.Shelf.Strconv.AtoiLong
import Derived.Shelf.Strconv.AtoiInnerAll
import Derived.Shelf.Strconv.RangeError
import Derived.Shelf.Strconv.ToErrorRange
import Derived.Shelf.Strconv.AtoiAll
import Derived.Shelf.Strconv.ErrVarAll
import Derived.Shelf.Strings.Search1
import Derived.Shelf.Strings.Prefix
import Derived.Shelf.Strings.Fields
import Derived.Shelf.Strings.SplitShaped
import Derived.Shelf.Unicode.Latin
import Derived.Shelf.Unicode.Is16White
import Derived.Shelf.Unicode.IsSpaceAny
import Derived.Shelf.Unicode.Is16Any
import Derived.Shelf.Unicode.Is32Any
import Derived.Shelf.Unicode.ExclAny
import Derived.Test.YtonchjamoblioaaGreatDoorRows
import Derived.Test.YtonchjamoblioaaGreatDoorKLoop
import Derived.ProofKit
import Derived.SizedLaws
import Derived.Lib.AtoiTie
import Derived.Lib.ItoaNum
import Derived.Test.YtonchjamoblioaaGreatDoorKSat
import Derived.Lib.Strings
set_option linter.unusedSimpArgs false
set_option linter.unusedVariables false
set_option linter.unusedSectionVars false
namespace Go.Proofs
open Go.Shelf
def powName : String := match (Go.Proofs.YtonchjamoblioaaGreatDoor.Rows.showTellsRow.laid : List (String × DataW Unit)) with
 | _ :: _ :: x :: _ => x.1
 | _ => default
def Tryz.lays156_ren : Go.Shelf.Ren := ⟨fun | 156 => 147 | 165 => 178 | 166 => 179 | 169 => 180 | 240 => 203 | 241 => 204 | 276 => 222 | 277 => 223 | n => n, fun | 31 => 59 | 9 => 9 | 3 => 3 | 4 => 4 | 0 => 0 | 20 => 20 | 72 => 184 | 76 => 187 | 70 => 181 | 37 => 182 | 75 => 186 | 127 => 203 | 164 => 218 | 5 => 5 | 80 => 169 | n => n, fun | n => n⟩
theorem Tryz.lays156 : Go.Proofs.Lays.n156 Tryz.prog Tryz.lays156_ren := {
 mixed := by kernel_rfl
 f156 := Tryz.func147.trans (congrArg some (by kernel_rfl))
 f165 := Tryz.func178.trans (congrArg some (by kernel_rfl))
 f166 := Tryz.func179.trans (congrArg some (by kernel_rfl))
 f169 := Tryz.func180.trans (congrArg some (by kernel_rfl))
 f240 := Tryz.func203.trans (congrArg some (by kernel_rfl))
 f241 := Tryz.func204.trans (congrArg some (by kernel_rfl))
 f276 := Tryz.func222.trans (congrArg some (by kernel_rfl))
 f277 := Tryz.func223.trans (congrArg some (by kernel_rfl))
 t0 := Tryz.underlying0
 a0 := Tryz.isAgg0
 z0 := Tryz.sizeOf0
 v0 := Tryz.zeroValue0
 t3 := Tryz.underlying3
 a3 := Tryz.isAgg3
 z3 := Tryz.sizeOf3
 v3 := Tryz.zeroValue3
 t4 := Tryz.underlying4
 a4 := Tryz.isAgg4
 z4 := Tryz.sizeOf4
 v4 := Tryz.zeroValue4
 t9 := Tryz.underlying9
 a9 := Tryz.isAgg9
 z9 := Tryz.sizeOf9
 v9 := Tryz.zeroValue9
 t20 := Tryz.underlying20
 a20 := Tryz.isAgg20
 z20 := Tryz.sizeOf20
 v20 := Tryz.zeroValue20
 t31 := Tryz.underlying59
 a31 := Tryz.isAgg59
 z31 := Tryz.sizeOf59
 v31 := Tryz.zeroValue59
 t37 := Tryz.underlying182
 a37 := Tryz.isAgg182
 z37 := Tryz.sizeOf182
 v37 := Tryz.zeroValue182
 t70 := Tryz.underlying181
 a70 := Tryz.isAgg181
 z70 := Tryz.sizeOf181
 v70 := Tryz.zeroValue181
 t72 := Tryz.underlying184
 a72 := Tryz.isAgg184
 z72 := Tryz.sizeOf184
 v72 := Tryz.zeroValue184
 t75 := Tryz.underlying186
 a75 := Tryz.isAgg186
 z75 := Tryz.sizeOf186
 v75 := Tryz.zeroValue186
 t76 := Tryz.underlying187
 a76 := Tryz.isAgg187
 z76 := Tryz.sizeOf187
 v76 := Tryz.zeroValue187
 t127 := Tryz.underlying203
 a127 := Tryz.isAgg203
 z127 := Tryz.sizeOf203
 v127 := Tryz.zeroValue203
 t164 := Tryz.underlying218
 a164 := Tryz.isAgg218
 z164 := Tryz.sizeOf218
 v164 := Tryz.zeroValue218 }
theorem Tryz.Builder_Extra_156 : Builder.Extra Tryz.prog Tryz.lays156_ren := {
 sizeBuilder := by kernel_rfl
 liesBuilder := by kernel_rfl
 t5 := Tryz.underlying5
 a5 := Tryz.isAgg5
 z5 := Tryz.sizeOf5
 v5 := Tryz.zeroValue5
 infoByte := by kernel_rfl
 cellsByte := by kernel_rfl
 sizeByte := by kernel_rfl
 neB5 := by decide }
open Go.RowKit in
theorem Tryz.strings_Join_none (a : Option Addr) (c : Nat) (sep : ByteArray) (w : World) :
  Calls Tryz.prog 147 #[.slice a 0 c, .string sep] w fun e w' => e = .returned (.string ⟨#[]⟩) ∧ w' = w := Any.strings_Join_none Tryz.lays156 Tryz.Builder_Extra_156 a c sep w
open Go.RowKit in
theorem Tryz.strings_Join (bk o c : Nat) (xs : List ByteArray) (sep : ByteArray) (w : World) (hcells : ∀ (j : Nat) x, xs[j]? = some x → w.cell? ⟨bk, o + j, none⟩ = some (.string x)) (hbk : bk < w.heap.size) (hN : xs.length ≤ 140737488355328) (hcap : xs.length ≤ c) (hlen : (Lib.join (xs.map (·.data.toList)) sep.data.toList).length ≤ 140737488355328) :
  Calls Tryz.prog 147 #[.slice (some ⟨bk, o, none⟩) xs.length c, .string sep] w fun e w' => e = .returned (.string ⟨(Lib.join (xs.map (·.data.toList)) sep.data.toList).toArray⟩) ∧ Below w.heap.size w w' := Any.strings_Join Tryz.lays156 Tryz.Builder_Extra_156 bk o c xs sep w hcells hbk hN hcap hlen
def Tryz.laysM171_ren : Go.Shelf.Ren := ⟨fun | 171 => 47 | 243 => 93 | 246 => 152 | 283 => 184 | 284 => 185 | 285 => 186 | 286 => 187 | 129 => 207 | 317 => 206 | 318 => 208 | 319 => 209 | 320 => 210 | 337 => 224 | 338 => 225 | n => n, fun | 3 => 3 | 9 => 9 | 2 => 2 | 4 => 4 | 171 => 190 | 0 => 0 | 53 => 191 | 37 => 182 | 5 => 5 | 173 => 194 | 212 => 206 | 51 => 207 | 20 => 20 | 213 => 208 | 46 => 209 | 232 => 228 | 233 => 229 | n => n, fun | 17 => 0 | 18 => 4 | 19 => 5 | n => n⟩
theorem Tryz.laysM171 : Go.Proofs.LaysM.n171 Tryz.prog Tryz.laysM171_ren := {
 mixed := by kernel_rfl
 f129 := Tryz.func207.trans (congrArg some (by kernel_rfl))
 f171 := Tryz.func47.trans (congrArg some (by kernel_rfl))
 f243 := Tryz.func93.trans (congrArg some (by kernel_rfl))
 f246 := Tryz.func152.trans (congrArg some (by kernel_rfl))
 f283 := Tryz.func184.trans (congrArg some (by kernel_rfl))
 f284 := Tryz.func185.trans (congrArg some (by kernel_rfl))
 f285 := Tryz.func186.trans (congrArg some (by kernel_rfl))
 f286 := Tryz.func187.trans (congrArg some (by kernel_rfl))
 f317 := Tryz.func206.trans (congrArg some (by kernel_rfl))
 f318 := Tryz.func208.trans (congrArg some (by kernel_rfl))
 f319 := Tryz.func209.trans (congrArg some (by kernel_rfl))
 f320 := Tryz.func210.trans (congrArg some (by kernel_rfl))
 f337 := Tryz.func224.trans (congrArg some (by kernel_rfl))
 f338 := Tryz.func225.trans (congrArg some (by kernel_rfl))
 t0 := Tryz.underlying0
 a0 := Tryz.isAgg0
 z0 := Tryz.sizeOf0
 v0 := Tryz.zeroValue0
 t2 := Tryz.underlying2
 a2 := Tryz.isAgg2
 z2 := Tryz.sizeOf2
 v2 := Tryz.zeroValue2
 t3 := Tryz.underlying3
 a3 := Tryz.isAgg3
 z3 := Tryz.sizeOf3
 v3 := Tryz.zeroValue3
 t4 := Tryz.underlying4
 a4 := Tryz.isAgg4
 z4 := Tryz.sizeOf4
 v4 := Tryz.zeroValue4
 t5 := Tryz.underlying5
 a5 := Tryz.isAgg5
 z5 := Tryz.sizeOf5
 v5 := Tryz.zeroValue5
 t9 := Tryz.underlying9
 a9 := Tryz.isAgg9
 z9 := Tryz.sizeOf9
 v9 := Tryz.zeroValue9
 t20 := Tryz.underlying20
 a20 := Tryz.isAgg20
 z20 := Tryz.sizeOf20
 v20 := Tryz.zeroValue20
 t37 := Tryz.underlying182
 a37 := Tryz.isAgg182
 z37 := Tryz.sizeOf182
 v37 := Tryz.zeroValue182
 t46 := Tryz.underlying209
 a46 := Tryz.isAgg209
 z46 := Tryz.sizeOf209
 v46 := Tryz.zeroValue209
 t51 := Tryz.underlying207
 a51 := Tryz.isAgg207
 z51 := Tryz.sizeOf207
 v51 := Tryz.zeroValue207
 t53 := Tryz.underlying191
 a53 := Tryz.isAgg191
 z53 := Tryz.sizeOf191
 v53 := Tryz.zeroValue191
 t171 := Tryz.underlying190
 a171 := Tryz.isAgg190
 z171 := Tryz.sizeOf190
 v171 := Tryz.zeroValue190
 t173 := Tryz.underlying194
 a173 := Tryz.isAgg194
 z173 := Tryz.sizeOf194
 v173 := Tryz.zeroValue194
 t212 := Tryz.underlying206
 a212 := Tryz.isAgg206
 z212 := Tryz.sizeOf206
 v212 := Tryz.zeroValue206
 t213 := Tryz.underlying208
 a213 := Tryz.isAgg208
 z213 := Tryz.sizeOf208
 t232 := Tryz.underlying228
 a232 := Tryz.isAgg228
 z232 := Tryz.sizeOf228
 v232 := Tryz.zeroValue228
 t233 := Tryz.underlying229
 a233 := Tryz.isAgg229
 z233 := Tryz.sizeOf229
 v233 := Tryz.zeroValue229
 g17 := by kernel_rfl
 g18 := by kernel_rfl
 g19 := by kernel_rfl
 i0 := by kernel_rfl
 i2 := by kernel_rfl
 i3 := by kernel_rfl
 i4 := by kernel_rfl
 i5 := by kernel_rfl
 i9 := by kernel_rfl
 i20 := by kernel_rfl
 i37 := by kernel_rfl
 i46 := by kernel_rfl
 i51 := by kernel_rfl
 i53 := by kernel_rfl
 i171 := by kernel_rfl
 i173 := by kernel_rfl
 i212 := by kernel_rfl
 i232 := by kernel_rfl
 i233 := by kernel_rfl
 m17 := by kernel_rfl
 m18 := by kernel_rfl
 m19 := by kernel_rfl }
open Go.RowKit Go.Sort Go.Lib in
theorem Tryz.strconv_Itoa (n : Int) (h0 : -9223372036854775808 ≤ n) (h1 : n ≤ 9223372036854775807) (w : World) (htab : Lib.TabIs Tryz.prog w powName .u64 Lib.pow10Tab) :
  Calls Tryz.prog 47 #[.int .i64 n] w fun e w' => e = .returned (.string ⟨(Lib.itoa n).toArray⟩) ∧ ∃ k os, w' = grow (w.drewN k) os := Any.strconv_Itoa Tryz.laysM171 n h0 h1 w htab
end Go.Proofs
namespace Go.Kin
open Go.RowKit
/-! ### what a row's reading says, as data -/
def okFs (te : TE) (rec : TypeId → Bool) : Nat → List Field → Nat → Bool
  | off, [], n => off == n
  | off, f :: r, n => f.offset == off && rec f.type && (match klook f.type te with | some j => okFs te rec (off + j.size) r n | none => false)
/-- a type, whose parts are among some types -/
def okOne (te : TE) (ts : List TypeId) (t : TypeId) : Bool := match klook t te with
    | some i => match i.u with
      | .bool => true
      | .int _ => true
      | .string => true
      | .slice e => (match klook e te with | some j => j.size != 0 && j.bytes != 0 && ts.contains e | none => false)
      | .struct fs => okFs te (fun t => ts.contains t) 0 fs.toList i.size
      | _ => false
    | none => false
def okAll (te : TE) (ts : List TypeId) : Bool := ts.all (okOne te ts)
def ShpFs (rec : TypeId → List D → Prop) : List Field → List D → Prop
  | [], ds => ds = []
  | f :: r, ds => ∃ d1 d2, ds = d1 ++ d2 ∧ rec f.type d1 ∧ ShpFs rec r d2
def Shp (te : TE) : Nat → TypeId → List D → Prop
  | 0, _, _ => False
  | m + 1, t, ds => match klook t te with
    | some i => match i.u with
      | .bool => ∃ b, ds = [.v (.bool b)]
      | .int k => ∃ n, ds = [.v (.int k n)] ∧ k.min ≤ n ∧ n ≤ k.max
      | .string => ∃ s, ds = [.v (.string (mkS s))] ∧ s.length ≤ reachBytes
      | .slice e => (match klook e te with | some j => ∃ n row, ds = [.sl j.size n n row] ∧ n ≤ topLen ∧ n * j.bytes ≤ reachBytes ∧ ∀ i, i < n → Shp te m e (row i) | none => False)
      | .struct fs => ShpFs (Shp te m) fs.toList ds
      | _ => False
    | none => False
section
variable {H : Type} {enc : TypeId × Value → H} {P : Program} {W : World} {te : TE}
theorem TyOk.cellsOf {t : TypeId} {i : TyI} (h : TyOk P t i) : P.cellsOf t = i.size := by
  obtain ⟨_, inf, z, h1, h2, _⟩ := h
  simp [Program.cellsOf, h1, h2]
theorem TyOk.bytesOf {t : TypeId} {i : TyI} (h : TyOk P t i) : P.bytesOf t = i.bytes := by
  obtain ⟨_, inf, z, h1, _, h3, _⟩ := h
  simp [Program.bytesOf, h1, h3]
theorem mem_weightsAll {e : TypeId} {x : Nat} : ∀ {l : List (DataW H)} {d : DataW H}, d ∈ l → x ∈ d.weights P e → x ∈ DataW.weightsAll P e l
  | [], _, h, _ => by cases h
  | d' :: r, d, h, hx => by
    simp only [DataW.weightsAll, List.mem_append]
    rcases List.mem_cons.1 h with rfl | h
    · exact .inl hx
    · exact .inr (mem_weightsAll h hx)
theorem list_of {α : Type} {n : Nat} {p : Nat → α → Prop} (h : ∀ i, i < n → ∃ x, p i x) : ∃ l : List α, l.length = n ∧ ∀ i x, l[i]? = some x → p i x := by
  induction n with
  | zero => exact ⟨[], rfl, fun i x hx => by simp at hx⟩
  | succ n ih =>
    obtain ⟨l, h1, h2⟩ := ih fun i hi => h i (by omega)
    obtain ⟨x, hx⟩ := h n (by omega)
    refine ⟨l ++ [x], by simp [h1], fun i y hy => ?_⟩
    rcases Nat.lt_or_ge i l.length with hi | hi
    · rw [List.getElem?_append_left hi] at hy; exact h2 i y hy
    · rw [List.getElem?_append_right hi] at hy
      have : i = n := by
        rcases Nat.eq_or_lt_of_le hi with e | e
        · omega
        · have : i - l.length ≠ 0 := by omega
          obtain ⟨k, hk⟩ := Nat.exists_eq_succ_of_ne_zero this
          rw [hk] at hy; simp at hy
      subst this
      rw [h1] at hy; simp at hy; subst hy; exact hx
theorem lfR_append : ∀ {a b : List D}, lfR a = true → lfR b = true → lfR (a ++ b) = true
  | [], b, _, h => by simpa using h
  | d :: a, b, h, h' => by
    simp only [lfR, Bool.and_eq_true, List.cons_append] at h ⊢
    exact ⟨h.1, lfR_append h.2 h'⟩
theorem shpFs_lf {rec : TypeId → List D → Prop} (h : ∀ t ds, rec t ds → lfR ds = true) : ∀ {fs : List Field} {ds : List D}, ShpFs rec fs ds → lfR ds = true
  | [], ds, hh => by simp only [ShpFs] at hh; subst hh; rfl
  | f :: fs, ds, hh => by
    simp only [ShpFs] at hh
    obtain ⟨d1, d2, rfl, h1, h2⟩ := hh
    exact lfR_append (h _ _ h1) (shpFs_lf h h2)
theorem shp_lf : ∀ {m t : Nat} {ds : List D}, Shp te m t ds → lfR ds = true
  | 0, _, _, h => h.elim
  | m + 1, t, ds, h => by
    simp only [Shp] at h
    split at h
    · rename_i i hi
      split at h
      · obtain ⟨b, rfl⟩ := h; rfl
      · obtain ⟨n, rfl, _⟩ := h; rfl
      · obtain ⟨s, rfl, _⟩ := h; rfl
      · split at h
        · obtain ⟨n, row, rfl, _⟩ := h; rfl
        · exact h.elim
      · exact shpFs_lf (fun t ds hh => shp_lf hh) h
      · exact h.elim
    · exact h.elim
theorem trod_rd (hte : TEok P te) {sp : Nat → Bool} {ts : List TypeId} (hts : okAll te ts = true) : ∀ (fuel t : Nat) (cs : List Value) (d : DataW H) (ps : List MemPlace), ts.contains t = true → DataW.trod enc P W 0 sp true fuel t cs = some (d, ps) → (∀ x ∈ d.weights P t, x ≤ reachBytes) →
    ∃ ds, Shp te fuel t ds ∧ RdL W (fun b => b < W.heap.size) ds cs
  | 0, _, _, _, _, _, h, _ => by simp [DataW.trod] at h
  | fuel + 1, t, cs, d, ps, hmem, h, hw => by
    have hok := List.all_eq_true.1 hts t (by simpa using hmem)
    simp only [okOne] at hok
    cases hi : klook t te with
    | none => simp [hi] at hok
    | some i =>
      simp only [hi] at hok
      have hti := hte t i hi
      have hu := hti.1
      simp only [Shp, hi]
      cases hd : i.u <;> simp only [hd] at hok hu ⊢ <;> first | (cases hok; done) | skip
      case bool =>
        match cs, h with
        | [], h => simp [DataW.trod, hu] at h
        | [v], h =>
          cases v <;> simp [DataW.trod, hu] at h
          rename_i b
          exact ⟨[.v (.bool b)], ⟨b, rfl⟩, by simp [RdL, RdV]⟩
        | _ :: _ :: _, h => simp [DataW.trod, hu] at h
      case int k =>
        match cs, h with
        | [], h => simp [DataW.trod, hu] at h
        | [v], h =>
          cases v <;> simp [DataW.trod, hu] at h
          rename_i k' n
          obtain ⟨⟨rfl, hwf⟩, _⟩ := h
          simp only [Lit.wf, Bool.and_eq_true, decide_eq_true_eq] at hwf
          exact ⟨[.v (.int k' n)], ⟨n, rfl, hwf.1, hwf.2⟩, by simp [RdL, RdV]⟩
        | _ :: _ :: _, h => simp [DataW.trod, hu] at h
      case string =>
        match cs, h with
        | [], h => simp [DataW.trod, hu] at h
        | [v], h =>
          cases v <;> simp [DataW.trod, hu] at h
          rename_i s
          obtain ⟨_, rfl, _⟩ := h
          simp only [DataW.weights, List.mem_singleton, forall_eq] at hw
          refine ⟨[.v (.string s)], ⟨bytes s, by simp [mkS, bytes], ?_⟩, by simp [RdL, RdV]⟩
          simpa [bytes] using hw
        | _ :: _ :: _, h => simp [DataW.trod, hu] at h
      case slice e =>
        cases hj : klook e te with
        | none => simp [hj] at hok
        | some j =>
          simp only [hj, Bool.and_eq_true, bne_iff_ne, ne_eq] at hok ⊢
          obtain ⟨⟨hs, hb⟩, hoke⟩ := hok
          have htj := hte e j hj
          have hcj := htj.cellsOf
          have hbj := htj.bytesOf
          have hcase : (cs = [.slice none 0 0] ∧ d = .nil) ∨ (∃ a len cap, cs = [.slice (some a) len cap]) := by
            match cs, h with
            | [], h => simp [DataW.trod, hu] at h
            | [v], h =>
              cases v <;> try (simp [DataW.trod, hu] at h; done)
              rename_i a len cap
              cases a with
              | some a => exact .inr ⟨a, len, cap, rfl⟩
              | none =>
                cases len <;> cases cap <;> simp [DataW.trod, hu] at h
                exact .inl ⟨rfl, h.1.symm⟩
            | _ :: _ :: _, h => simp [DataW.trod, hu] at h
          rcases hcase with ⟨rfl, rfl⟩ | ⟨a, len, cap, rfl⟩
          · exact ⟨[.sl j.size 0 0 nilRow], ⟨0, nilRow, rfl, by simp, by simp, fun i hi => by omega⟩, by simp only [RdL, RdV]; exact ⟨_, _, rfl, ⟨none, 0, rfl, by simp, by simp, by simp, by simp⟩, rfl⟩⟩
          · unfold DataW.trod at h
            simp only [hu] at h
            split at h
            · rename_i hc
              rw [Option.bind_eq_some_iff] at h
              obtain ⟨elems, he, h⟩ := h
              rw [Option.map_eq_some_iff] at h
              obtain ⟨rest, hr, hd'⟩ := h
              simp only [Prod.mk.injEq] at hd'
              obtain ⟨rfl, _⟩ := hd'
              simp only [DataW.weights, hu] at hw
              have hlen : elems.length = len := by simpa using mapM_some_length he
              have hlb : len * j.bytes ≤ reachBytes := by
                have := hw (((elems.map (·.1)).length + (rest.map (·.1)).length) * P.bytesOf e) (List.mem_cons_self ..)
                rw [hbj] at this
                refine Nat.le_trans (Nat.mul_le_mul_right _ ?_) this
                simp [hlen]
              have hlt : len ≤ topLen := by
                have h1 : len * 1 ≤ len * j.bytes := Nat.mul_le_mul_left _ (Nat.one_le_iff_ne_zero.2 hb)
                have h2 : reachBytes ≤ topLen := by decide
                omega
              have hrow : ∀ k, k < len → ∃ row : List D, Shp te fuel e row ∧ row.length = j.size ∧ ∃ cells : List Value, cells.length = j.size ∧ RdL W (fun b => b < W.heap.size) row cells ∧ ∀ q, q < j.size → W.cell? ((a.add (k * j.size)).add q) = cells[q]? := fun k hk => by
                have h1 := mapM_some_get he k k (by simp [hk])
                have hx : ∃ x, elems[k]? = some x := ⟨elems[k]'(by omega), by simp [hlen, hk]⟩
                obtain ⟨x, hx⟩ := hx
                rw [hx, Option.bind_eq_some_iff] at h1
                obtain ⟨cells, hc1, hc2⟩ := h1
                obtain ⟨_, hcl, hcc⟩ := World.cells?_some hc1
                rw [hcj] at hcl hcc
                obtain ⟨x1, x2⟩ := x
                obtain ⟨ds, hds, hrd⟩ := trod_rd hte hts fuel e cells x1 x2 hoke hc2 (fun y hy => hw y (by
                  refine List.mem_cons_of_mem _ (List.mem_append_left _ (mem_weightsAll ?_ hy))
                  exact List.mem_map.2 ⟨(x1, x2), List.mem_of_getElem? hx, rfl⟩))
                have hl := RdL_length hrd
                exact ⟨ds, hds, by rw [← hl, hcl], cells, hcl, hrd, hcc⟩
              rcases Nat.eq_zero_or_pos len with h0 | h0
              · subst h0
                exact ⟨[.sl j.size 0 0 nilRow], ⟨0, nilRow, rfl, by simp, by simp, fun i hi => by omega⟩, by simp only [RdL, RdV]; exact ⟨_, _, rfl, ⟨some a, cap, rfl, by simp, by simp, by simp, by simp⟩, rfl⟩⟩
              · have hsp : a.spot = none ∧ a.block < W.heap.size := by
                  obtain ⟨row, _, _, cells, hcl, _, hcc⟩ := hrow 0 h0
                  have h1 := hcc 0 (by omega)
                  have : ∃ v, cells[0]? = some v := ⟨cells[0]'(by omega), by simp⟩
                  obtain ⟨v, hv⟩ := this
                  rw [hv] at h1
                  simp only [Nat.zero_mul, Addr.add, if_true] at h1
                  unfold World.cell? at h1
                  split at h1
                  · rename_i hheap
                    refine ⟨?_, (Array.getElem?_eq_some_iff.1 hheap).1⟩
                    cases hsp : a.spot with
                    | none => rfl
                    | some x => simp [hsp] at h1
                  · cases h1
                obtain ⟨ab, ao, asp⟩ := a
                obtain ⟨rfl, hlt'⟩ := hsp
                obtain ⟨es, hel, hes⟩ := list_of hrow
                have hget : ∀ i, i < len → es[i]? = some (es.getD i []) := fun i hi => by
                  have : i < es.length := by omega
                  rw [List.getD_eq_getElem?_getD, List.getElem?_eq_getElem this]; rfl
                refine ⟨[.sl j.size len len fun i => es.getD i []], ⟨len, _, rfl, hlt, hlb, fun i hi => (hes i _ (hget i hi)).1⟩, ?_⟩
                simp only [RdL, RdV]
                refine ⟨_, _, rfl, ⟨some ⟨ab, ao, none⟩, cap, rfl, Nat.le_refl _, hc.2.1, hlt, .inr ⟨ab, ao, rfl, hlt', fun i hi => ?_⟩⟩, rfl⟩
                obtain ⟨_, hl, cells, hcl, hrd, hcc⟩ := hes i _ (hget i hi)
                refine ⟨hl, shp_lf (hes i _ (hget i hi)).1, RdC_of_vals hrd fun z hz => ?_⟩
                have := hcc z (by omega)
                rw [addr_add, addr_add] at this
                exact this
            · simp at h
      case struct fs =>
        have hcs : cs.length = i.size ∧ ∃ xs, fs.toList.mapM (fun f => DataW.trod enc P W 0 sp true fuel f.type ((cs.drop f.offset).take (P.cellsOf f.type))) = some xs ∧ d = .agg (xs.map (·.1)) := by
          unfold DataW.trod at h
          simp only [hu] at h
          split at h
          · rename_i hl
            rw [Option.map_eq_some_iff] at h
            obtain ⟨xs, h1, h2⟩ := h
            simp only [Prod.mk.injEq] at h2
            exact ⟨by rw [hl, hti.cellsOf], xs, h1, h2.1.symm⟩
          · simp at h
        obtain ⟨hl, xs, hxs, rfl⟩ := hcs
        simp only [DataW.weights, hu] at hw
        have key : ∀ (l : List Field) (off : Nat) (xs : List (DataW H × List MemPlace)), okFs te (fun t => ts.contains t) off l i.size = true → l.mapM (fun f => DataW.trod enc P W 0 sp true fuel f.type ((cs.drop f.offset).take (P.cellsOf f.type))) = some xs →
            (∀ x ∈ DataW.weightsEach P (l.map (·.type)) (xs.map (·.1)), x ≤ reachBytes) → ∃ ds, ShpFs (Shp te fuel) l ds ∧ RdL W (fun b => b < W.heap.size) ds (cs.drop off) := by
          intro l
          induction l with
          | nil =>
            intro off xs h1 h2 _
            simp only [okFs, beq_iff_eq] at h1
            exact ⟨[], rfl, by rw [List.drop_eq_nil_of_le (by omega)]; rfl⟩
          | cons f r ih =>
            intro off xs h1 h2 h3
            simp only [okFs, Bool.and_eq_true, beq_iff_eq] at h1
            obtain ⟨⟨rfl, hokf⟩, h1⟩ := h1
            cases hj : klook f.type te with
            | none => simp [hj] at h1
            | some j =>
              simp only [hj] at h1
              have hcj := (hte _ j hj).cellsOf
              rw [List.mapM_cons] at h2
              simp only [Option.bind_eq_bind, Option.bind_eq_some_iff, Option.pure_def, Option.some.injEq] at h2
              obtain ⟨x, hx, ys, hys, rfl⟩ := h2
              obtain ⟨x1, x2⟩ := x
              simp only [List.map_cons, DataW.weightsEach, List.mem_append] at h3
              obtain ⟨d1, hd1, hr1⟩ := trod_rd hte hts fuel f.type _ x1 x2 hokf hx (fun y hy => h3 y (.inl hy))
              obtain ⟨d2, hd2, hr2⟩ := ih (f.offset + j.size) ys h1 hys (fun y hy => h3 y (.inr hy))
              refine ⟨d1 ++ d2, ⟨d1, d2, rfl, hd1, hd2⟩, ?_⟩
              have := RdL_append hr1 hr2
              rwa [hcj, ← List.drop_drop, List.take_append_drop] at this
        obtain ⟨ds, h1, h2⟩ := key fs.toList 0 xs hok hxs hw
        exact ⟨ds, h1, by simpa using h2⟩
def aggT (te : TE) (t : TypeId) : Bool := match klook t te with | some i => aggD i.u | none => false
def ArgShp (te : TE) (t : TypeId) (x : D) : Prop := ∃ m ds, Shp te m t ds ∧ (if aggT te t = true then x = .ag ds else ds = [x])
theorem arg_rd (hte : TEok P te) {sp : Nat → Bool} {ts : List TypeId} (hts : okAll te ts = true) {t : TypeId} {v : Value} {d : DataW H} {ps : List MemPlace} {r : Reach} {b0 : Nat} (hmem : ts.contains t = true) (hval : Value.okWide P W r b0 t v) (h : DataW.Trod enc P W 0 sp true t v d ps) (hw : ∀ x ∈ d.weights P t, x ≤ reachBytes) :
    ∃ x, ArgShp te t x ∧ RdV W (fun b => b < W.heap.size) x v := by
  obtain ⟨fuel, h⟩ := h
  obtain ⟨ds, h1, h2⟩ := trod_rd hte hts fuel t _ d ps hmem h hw
  have hok := List.all_eq_true.1 hts t (by simpa using hmem)
  cases fuel with
  | zero => simp [Shp] at h1
  | succ m =>
    simp only [okOne] at hok
    cases hi : klook t te with
    | none => simp [hi] at hok
    | some i =>
      simp only [hi] at hok
      have hu := (hte t i hi).1
      have one : aggD i.u = false → (∃ x, ds = [x]) → (∀ cs, v ≠ .agg cs) → ∃ x, ArgShp te t x ∧ RdV W (fun b => b < W.heap.size) x v := fun hag ⟨x, hx⟩ hna => by
        subst hx
        refine ⟨x, ⟨m + 1, [x], h1, by simp [aggT, hi, hag]⟩, ?_⟩
        simp only [RdL] at h2
        obtain ⟨u, us, h3, h4, rfl⟩ := h2
        have : v.cells.toList = [v] := by
          cases v <;> first | rfl | exact absurd rfl (hna _)
        rw [this] at h3
        cases h3
        exact h4
      have h1' := h1
      simp only [Shp, hi] at h1
      cases hd : i.u <;> simp only [hd] at hok hu h1 one <;> first | (cases hok; done) | skip
      case bool =>
        obtain ⟨b, rfl⟩ := h1
        refine one rfl ⟨_, rfl⟩ fun cs hc => ?_
        subst hc; simp [Value.okWide, Cell.okWide, Cell.ok, hu] at hval
      case int k =>
        obtain ⟨b, rfl, _⟩ := h1
        refine one rfl ⟨_, rfl⟩ fun cs hc => ?_
        subst hc; simp [Value.okWide, Cell.okWide, Cell.ok, hu] at hval
      case string =>
        obtain ⟨b, rfl, _⟩ := h1
        refine one rfl ⟨_, rfl⟩ fun cs hc => ?_
        subst hc; simp [Value.okWide, Cell.okWide, Cell.ok, hu] at hval
      case slice e =>
        cases hj : klook e te with
        | none => simp [hj] at h1
        | some j =>
          simp only [hj] at h1
          obtain ⟨n, row, rfl, _⟩ := h1
          refine one rfl ⟨_, rfl⟩ fun cs hc => ?_
          subst hc; simp [Value.okWide, Cell.okWide, Cell.ok, hu] at hval
      case struct fs =>
        simp only [Value.okWide, hu] at hval
        obtain ⟨cs, rfl, _⟩ := hval
        refine ⟨.ag ds, ⟨m + 1, ds, h1', by simp [aggT, hi, hd, aggD]⟩, ?_⟩
        simp only [RdV]
        exact ⟨cs.toList, by simp, h2⟩
open Go.ChangeShapes in
theorem post_of_below {f : Func} {s : ChangeSpec} {apart fresh handsOn again : Bool} {W' : World} {args : Array Value} {v : Value} {ds gs : List (DataW H)} {before pa pv : List MemPlace}
    (hW : DataW.Whole enc P f.params.toList s.vars apart W args.toList ds gs before)
    (hres : ∀ (b : Nat) (sp : Nat → Bool) (hd : Bool), DataW.TrodAll enc P W' b sp hd f.resultTypes.toList (v.resultList f.resultTypes.size) (s.fn H (ds ++ gs)).results [])
    (hargs : ∀ sp : Nat → Bool, (∀ p ∈ before, sp p.block = true) → DataW.TrodAll enc P W' 0 sp true f.params.toList args.toList (s.fn H (ds ++ gs)).args pa)
    (hvars : ∀ sp : Nat → Bool, (∀ p ∈ before, sp p.block = true) → DataW.TrodVars enc P W' sp s.vars (s.fn H (ds ++ gs)).vars pv)
    (hps : before = pa ++ pv) (hb : Below W.heap.size W W')
    (hok : ∀ (j : Nat) (t : TypeId) (r : Value), f.resultTypes[j]? = some t → (v.resultList f.resultTypes.size)[j]? = some r → Value.okWide P W' .any 0 t r) :
    s.post enc P f apart fresh handsOn again W args v W' := by
  have hold : ∀ p ∈ before, (fun b => decide (b < W.heap.size)) p.block = true := fun p hp => by simpa using hW.lt p hp
  have hlt : ∀ p ∈ before, p.block < W.heap.size := fun p hp => hW.lt p hp
  refine ⟨ds, gs, before, [], pa, pv, hW, hres _ _ _, hargs _ hold, hvars _ hold, World.keptBut_mono (fun p hp => ⟨hp, ?_⟩) (hb.frame (· ∈ before)), fun _ => ?_⟩
  · rw [hps, List.mem_append] at hp
    exact Or.inr hp
  · obtain ⟨_, _, _, _, _, hz, hn⟩ := hW
    refine ⟨hok, _, _, ([] ++ pa) ++ pv, ⟨[] ++ pa, pv, trodAll_append (hargs _ (fun _ _ => rfl)) (hres _ _ _), hvars _ (fun _ _ => rfl), rfl, ?_, ?_⟩, ?_⟩
    · intro b off hp
      have hp' : MemPlace.cell b off ∈ before := by rw [hps]; simpa using hp
      rw [hb.frozen (p := ⟨b, off, none⟩) (hlt _ hp')]
      exact hz b off hp'
    · intro ha
      have := hn ha
      rw [hps] at this
      simpa using this
    · intro p hp _
      rw [hps]
      simpa using hp
theorem trodAll_stays (hl : laidOutB P = true) {W' : World} {sp' : Nat → Bool} : ∀ {ts : List TypeId} {vs : List Value} {ds : List (DataW H)} {ps : List MemPlace}, (∀ t ∈ ts, P.readableRec t = true ∧ t < P.types.size) → DataW.TrodAll enc P W 0 (fun _ => true) true ts vs ds ps →
    (∀ p ∈ ps, W.sameAt W' p) → (∀ p ∈ ps, sp' p.block = true) → DataW.TrodAll enc P W' 0 sp' true ts vs ds ps
  | [], [], [], _, _, h, _, _ => h
  | t :: ts, v :: vs, d :: ds, ps, hr, ⟨p, q, h1, h2, e⟩, hs, hp => by
    subst e
    exact ⟨p, q, WideElems.Trod_stays hl (hr t (List.mem_cons_self ..)).1 (hr t (List.mem_cons_self ..)).2 h1 (fun x hx => hs x (List.mem_append_left _ hx)) (fun x hx => hp x (List.mem_append_left _ hx)),
      trodAll_stays hl (fun t ht => hr t (List.mem_cons_of_mem _ ht)) h2 (fun x hx => hs x (List.mem_append_right _ hx)) (fun x hx => hp x (List.mem_append_right _ hx)), rfl⟩
def ArgsShp (te : TE) : List TypeId → List D → Prop
  | [], [] => True
  | t :: ts, x :: xs => ArgShp te t x ∧ ArgsShp te ts xs
  | _, _ => False
theorem args_rd (hte : TEok P te) {sp : Nat → Bool} {us : List TypeId} (hts : okAll te us = true) {r : Reach} {b0 : Nat} : ∀ {ts : List TypeId} {vs : List Value} {ds : List (DataW H)} {ps : List MemPlace}, (∀ t ∈ ts, us.contains t = true) → (∀ (j : Nat) t v, ts[j]? = some t → vs[j]? = some v → Value.okWide P W r b0 t v) → DataW.TrodAll enc P W 0 sp true ts vs ds ps →
    (∀ x ∈ DataW.weightsEach P ts ds, x ≤ reachBytes) → ∃ xs, ArgsShp te ts xs ∧ RdL W (fun b => b < W.heap.size) xs vs
  | [], [], [], _, _, _, _, _ => ⟨[], trivial, rfl⟩
  | t :: ts, v :: vs, d :: ds, ps, hok, hval, ⟨p, q, h1, h2, e⟩, hw => by
    simp only [DataW.weightsEach, List.mem_append] at hw
    obtain ⟨x, hx1, hx2⟩ := arg_rd hte hts (hok t (List.mem_cons_self ..)) (hval 0 t v rfl rfl) h1 (fun y hy => hw y (.inl hy))
    obtain ⟨xs, h3, h4⟩ := args_rd hte hts (fun t ht => hok t (List.mem_cons_of_mem _ ht)) (fun j t v h h' => hval (j + 1) t v (by simpa using h) (by simpa using h')) h2 (fun y hy => hw y (.inr hy))
    exact ⟨x :: xs, ⟨hx1, h3⟩, by simp only [RdL]; exact ⟨v, vs, rfl, hx2, h4⟩⟩
/-- the elements of a slice, as a list -/
def nth {α : Type} [Inhabited α] (l : List α) (i : Nat) : α := l.getD i default
theorem nth_mem {α : Type} [Inhabited α] {l : List α} {i : Nat} (h : i < l.length) : nth l i ∈ l := by
  unfold nth; rw [List.getD_eq_getElem?_getD, List.getElem?_eq_getElem h]; exact List.getElem_mem h
theorem nth_of {α : Type} [Inhabited α] {l : List α} {i : Nat} {a : α} (h : l[i]? = some a) : nth l i = a := by
  unfold nth; rw [List.getD_eq_getElem?_getD, h]; rfl
theorem rows_list {α : Type} [Inhabited α] {f : α → List D} {p : α → Prop} {n : Nat} {row : Nat → List D} (h : ∀ i, i < n → ∃ a, row i = f a ∧ p a) : ∃ l : List α, l.length = n ∧ (∀ i, i < n → row i = f (nth l i)) ∧ ∀ a ∈ l, p a := by
  obtain ⟨l, h1, h2⟩ := list_of h
  refine ⟨l, h1, fun i hi => ?_, fun a ha => ?_⟩
  · obtain ⟨a, ha⟩ : ∃ a, l[i]? = some a := ⟨l[i]'(by omega), by simp [h1, hi]⟩
    rw [nth_of ha]; exact (h2 i a ha).1
  · obtain ⟨i, hi⟩ := List.getElem?_of_mem ha
    exact (h2 i a hi).2
theorem take_succ_nth {α : Type} [Inhabited α] {l : List α} {i : Nat} (h : i < l.length) : l.take (i + 1) = l.take i ++ [nth l i] := by
  rw [List.take_succ_eq_append_getElem h]; congr 1; simp [nth, List.getD_eq_getElem?_getD, h]
theorem drop_nth {α : Type} [Inhabited α] {l : List α} {i : Nat} (h : i < l.length) : l.drop i = nth l i :: l.drop (i + 1) := by
  rw [List.drop_eq_getElem_cons h]; congr 1; simp [nth, List.getD_eq_getElem?_getD, h]
theorem args_nil {xs : List D} (h : ArgsShp te [] xs) : xs = [] := by
  cases xs with
  | nil => rfl
  | cons x xs => exact h.elim
end
end Go.Kin
namespace Go.Kin
open Go.RowKit
theorem var_below {P : Program} {w w' : World} {n : String} {cs : Array Value} (hv : w.var? P n = some cs) (hb : RowKit.Below w.heap.size w w') : w'.var? P n = some cs := by
  unfold World.var? at *
  cases hg : P.globalNamed n with
  | none => rw [hg] at hv; cases hv
  | some g =>
    rw [hg] at hv
    simp only [Option.bind_some] at hv ⊢
    by_cases hlt : g < w.heap.size
    · rw [hb.block g hlt]; exact hv
    · rw [Array.getElem?_eq_none (by omega)] at hv; cases hv
theorem rd_one {w : World} {Z : Nat → Prop} {x : Value} {vs : List Value} (h : RdL w Z [.v x] vs) : vs = [x] := by
  simp only [RdL, RdV] at h
  obtain ⟨v, r, rfl, rfl, rfl⟩ := h; rfl
/-- a library's function of plain values that leaves the world alone, or makes new memory -/
theorem FnOK.lib {I : World → Prop} {P : Program} {f : FuncId} {args : List D} {x : Value} (he : Kin.Enters P f)
    (h : ∀ w Z vs, I w → RdL w Z args vs → Calls P f vs.toArray w fun e w' => e = .returned x ∧ RowKit.Below w.heap.size w w') : FnOK I P f args (.v x) := by
  refine ⟨he, fun w Z vs hI hZ hr => (h w Z vs hI hr).mono ?_⟩
  rintro e w' ⟨rfl, hb⟩
  exact ⟨x, Z, rfl, hb, fun b hz => ⟨Nat.lt_of_lt_of_le (hZ b hz) hb.size, .inl hz⟩, by simp only [RdV]⟩
theorem FnOK.weak {I I' : World → Prop} {P : Program} {f : FuncId} {args : List D} {x : D} (h : FnOK I P f args x) (hi : ∀ w, I' w → I w) : FnOK I' P f args x :=
  ⟨h.1, fun w Z vs hI => h.2 w Z vs (hi w hI)⟩
theorem mkS_size (s : List UInt8) : (mkS s).size = s.length := by rw [size_bytes]; simp
theorem wrap_id {n : Int} (h : -9223372036854775808 ≤ n ∧ n ≤ 9223372036854775807) : IntKind.i64.wrap n = n := by
  simp [IntKind.wrap, IntKind.signed, IntKind.bits]; omega
end Go.Kin
namespace Go.Kin
open Go.Lib
/-! ### numerals: what is shown is read, and shown the same -/
/-- what Atoi gives, whatever the text -/
def atoiN (s : List UInt8) : Int := match atoiAll s with
  | .ok v => v
  | .range => atoiSat s
  | _ => 0
def okNum (n : Int) : Prop := -1099511627776 ≤ n ∧ n ≤ 1099511627776
/-- the document's way to read a number -/
def numberV (s : List UInt8) : Option Int :=
  let d := if s.head? = some 45 then s.tail else s
  if d = [] ∨ 13 < d.length ∨ (d.head? = some 48 ∧ s ≠ [48]) then none
  else match decFrom 0 d with
    | none => none
    | some m => some (if d.length < s.length then -(m : Int) else m)
end Go.Kin
namespace Go.Kin
open Go.Lib
/-! ### values: what the program and the document make of them, as functions of lists -/
def cmpI (a b : Int) : Int := if a < b then -1 else if b < a then 1 else 0
def cmpS (a b : List UInt8) : Int := if Op.bytesLess a b = true then -1 else if a = b then 0 else 1
/-- the first that is not 0 -/
def orL : List Int → Int
  | [] => 0
  | x :: r => if x = 0 then orL r else x
def cmpV (k n : Int) (s : List UInt8) (k' n' : Int) (s' : List UInt8) : Int := orL [cmpI k k', cmpI n n', cmpS s s']
def holdsV (op c : Int) : Bool := if op = 1 then c == 0 else if op = 2 then c != 0 else if op = 3 ∨ op = 4 then decide (c < 0) || (op == 4 && c == 0) else if op = 5 ∨ op = 6 then decide (0 < c) || (op == 6 && c == 0) else false
def plainI (c : UInt8) : Bool := decide ((c.toNat : Int) < 32) || decide (126 < (c.toNat : Int)) || (c.toNat : Int) == 34 || (c.toNat : Int) == 92
/-- all bytes of a text may be -/
def plainS (s : List UInt8) : Bool := s.all fun c => !plainI c
def rightV (k n : Int) (s : List UInt8) : Bool := if k = 1 then (s == [] && decide (-1099511627776 ≤ n) && decide (n ≤ 1099511627776)) else if k = 2 then (n == 0 && decide ((s.length : Int) ≤ 40) && plainS s) else false
def shownV (k n : Int) (s : List UInt8) : List UInt8 := if k = 2 then 34 :: (s ++ [34]) else itoa n
/-- a value: its kind, number, text -/
structure Vl where
  k : Int
  n : Int
  s : List UInt8
  deriving DecidableEq, Inhabited
def Vl.right (v : Vl) : Bool := rightV v.k v.n v.s
def Vl.shown (v : Vl) : List UInt8 := shownV v.k v.n v.s
def Vl.cmp (a b : Vl) : Int := cmpV a.k a.n a.s b.k b.n b.s
def parseT (s : List UInt8) : Vl := if hasPrefix s [34] = true then ⟨2, 0, trimSuffix (trimPrefix s [34]) [34]⟩ else ⟨1, atoiN s, []⟩
def parseB (s : List UInt8) : Bool := (parseT s).right && (parseT s).shown == s
def parseV (s : List UInt8) : Vl := if parseB s = true then parseT s else ⟨0, 0, []⟩
def parseE (s : List UInt8) : Int := if parseB s = true then 0 else 7
def showT (v : Vl) : List UInt8 := if v.right = true then v.shown else []
def showE (v : Vl) : Int := if v.right = true then 0 else 2
/-- the document's -/
def refCmp (a b : Vl) : Int := if a.k < b.k ∨ (a.k = b.k ∧ (a.n < b.n ∨ (a.n = b.n ∧ Op.bytesLess a.s b.s = true))) then -1 else if a = b then 0 else 1
def refHolds (op c : Int) : Bool := if op = 1 then c == 0 else if op = 2 then c != 0 else if op = 3 then decide (c < 0) else if op = 4 then decide (c ≤ 0) else if op = 5 then decide (0 < c) else if op = 6 then decide (0 ≤ c) else false
def quoted (s : List UInt8) : Bool := decide (2 ≤ s.length) && (s.getD 0 0 == 34) && (s.getD (s.length - 1) 0 == 34)
def refB (s : List UInt8) : Option Vl :=
  if quoted s = true then (if rightV 2 0 ((s.drop 1).take (s.length - 2)) = true then some ⟨2, 0, (s.drop 1).take (s.length - 2)⟩ else none)
  else match numberV s with
    | some n => if rightV 1 n [] = true then some ⟨1, n, []⟩ else none
    | none => none
/-! ### orders -/
structure Ord3 {α : Type} (c : α → α → Int) : Prop where
  sgn : ∀ a b, c a b = -1 ∨ c a b = 0 ∨ c a b = 1
  anti : ∀ a b, c a b = -c b a
  zero : ∀ a b, c a b = 0 ↔ a = b
  trans : ∀ a b d, c a b ≤ 0 → c b d ≤ 0 → c a d ≤ 0
/-- how two rows stand -/
def rowsL {α : Type} (c : α → α → Int) : List α → List α → Int
  | [], [] => 0
  | [], _ :: _ => -1
  | _ :: _, [] => 1
  | a :: x, b :: y => if c a b = 0 then rowsL c x y else c a b
end Go.Kin
