/- Steps of a function body on data, and contracts of the functions of the seat, walked. -/
import Derived.Test.YtgnhhjojiipmgaaGreatDoorE14
import Derived.Lib.UnsafeStr
import Derived.Lib.Builder
set_option linter.unusedSimpArgs false
set_option linter.unusedVariables false
set_option linter.unusedSectionVars false
namespace Go.Cev
open Go.RowKit
section
variable {P : Program} {H : Nat} {w0 : World} {ω : Om} {α β γ δ : Type} {tb : PT TyI}
theorem WR.heap {W : AW} {w w' : World} (hw : WR H w0 ω W w) (h1 : w'.heap = w.heap) (h2 : w'.os = w.os) (h3 : w'.tape = w.tape) (h4 : w'.output = w.output) : WR H w0 ω W w' := by
  refine hw.grow ⟨h2, h3, h4, by rw [h1]; exact Nat.le_refl _, fun k _ => by rw [h1]⟩
/-- what is put behind, in the model -/
theorem srcA_ok (ht : TbOk P tb) {zeros : Bool} {e : TypeId} {j : TyI} (hj : tb.get e = some j) {info : TypeInfo} (hi : P.info? e = some info) (hsz : info.size = j.size) (hpos : 0 < j.size) {x x' : Value} (hx : VR ω x x') {W W1 : AW} {w : World} (hw : WR H w0 ω W w) {m : Nat} {new : List Value} (h : srcA zeros j x W = some ((m, new), W1)) :
    W1 = W ∧ ∃ new', VRs ω new new' ∧ new.length = m * j.size ∧ (zeros = false → (∀ w, (Builtin.lenOf x').run P w = .ok m w) ∧ ∀ w', w'.heap = w.heap → (Builtin.firstCells info.size m x').run P w' = .ok new'.toArray w') ∧
      (zeros = true → ∃ k z, x' = .int k (m : Int) ∧ j.zero = some z ∧ m * (j.bytes + 1) ≤ 1000000 ∧ new'.toArray = (if m * info.size = 0 then #[] else Builtin.zeroCells z.cells m)) := by
  unfold srcA at h
  split at h
  · rename_i kd n
    cases hc : Nat.ble (n * (j.bytes + 1)) 1000000 with
    | false => rw [hc] at h; cases h
    | true =>
      rw [hc] at h
      obtain ⟨z, W2, h1, h2⟩ := bd_some h
      obtain ⟨u, W3, h3, h4⟩ := bd_some h2
      unfold M.opt at h1
      cases hz : j.zero with
      | none => rw [hz] at h1; cases h1
      | some z0 =>
        rw [hz] at h1; cases h1
        unfold M.ok at h3
        cases hb : Nat.beq (len z.cells.toList) j.size with
        | false => rw [hb] at h3; cases h3
        | true =>
          rw [hb] at h3; cases h3
          cases h4
          have hl := Nat.eq_of_beq_eq_true hb
          rw [len_eq] at hl
          cases hx
          refine ⟨rfl, rep z.cells.toList _, rep_VR (ht.zeroV hj hz).cells _, by rw [rep_len, hl], fun hf => (by cases hf), fun _ => ⟨kd, z, rfl, rfl, Nat.le_of_ble_eq_true hc, ?_⟩⟩
          apply Array.ext'
          split
          · rename_i h0
            rw [hsz] at h0
            have : m = 0 := by rcases Nat.mul_eq_zero.1 h0 with h | h; exact h; omega
            subst this; rfl
          · rw [zeroCells_eq]
  · cases h; cases hx
    exact ⟨rfl, [], .nil, by simp, fun _ => ⟨fun w => rfl, fun w' _ => rfl⟩, fun hf => by cases hf⟩
  · cases h
    have hv : ∃ a' c', x' = .slice (some a') 0 c' := by cases hx with | sl => exact ⟨_, _, rfl⟩ | sle => exact ⟨_, _, rfl⟩
    obtain ⟨a', c', rfl⟩ := hv
    exact ⟨rfl, [], .nil, by simp, fun _ => ⟨fun w => rfl, fun w' _ => by simp [Builtin.firstCells, loadCells, loadCellsFrom, Sem.run, pure]⟩, fun hf => by cases hf⟩
  · rename_i a n c hn
    obtain ⟨l, W2, h1, h2⟩ := bd_some h
    cases h2
    have hv : ∃ a' c', x' = .slice (some a') m c' ∧ AR ω a a' := by
      cases hx with
      | sl hb => exact ⟨_, _, rfl, .ptr hb⟩
      | sle => exact absurd rfl hn
    obtain ⟨a', c', rfl, ha⟩ := hv
    obtain ⟨rfl, h2, y, h3, h4⟩ := rdN_ok (P := P) ha hw h1
    refine ⟨rfl, y, h3, h2, fun _ => ⟨fun w => rfl, fun w' hh => ?_⟩, fun hf => by cases hf⟩
    rw [hsz]; exact h4 w' hh
  · rename_i s
    obtain ⟨u, W3, h3, h4⟩ := bd_some h
    unfold M.ok at h3
    cases hb : Nat.beq j.size 1 with
    | false => rw [hb] at h3; cases h3
    | true =>
      rw [hb] at h3; cases h3
      cases h4
      have h1 := Nat.eq_of_beq_eq_true hb
      cases hx
      have hcl : ∀ l : List UInt8, VRs ω (l.map fun b => Value.int .u8 b.toNat) (l.map fun b => Value.int .u8 b.toNat) := by
        intro l; induction l with
        | nil => exact .nil
        | cons b l ih => exact .cons (.int _ _) ih
      refine ⟨rfl, _, hcl _, by rw [h1, len_eq]; simp, fun _ => ⟨fun w => by rw [len_bl]; rfl, fun w' hh => ?_⟩, fun hf => by cases hf⟩
      rw [len_bl]
      simp only [Builtin.firstCells, pure, Sem.run]
      congr 1
      apply Array.ext'
      have : (s.extract 0 s.size).data.toList = s.data.toList := by
        rw [ByteArray.data_extract]; show (s.data.extract 0 s.data.size).toList = _; rw [Array.extract_size]
      simp [this, bl]
  · cases h
theorem next_le {need old bytes : Nat} (h : old < need) (hb : need * (bytes + 1) ≤ 1000000000) : ¬ Builtin.nextslicecap need old * bytes > 2 ^ 48 := by
  have h1 : need * bytes ≤ need * (bytes + 1) := Nat.mul_le_mul_left _ (by omega)
  have hgrow : ∀ (r c : Nat), c < need → Builtin.growBy need r c ≤ 2 * need + 1000 := by
    intro r
    induction r with
    | zero => intro c hc; simp only [Builtin.growBy]; omega
    | succ r ih =>
      intro c hc
      simp only [Builtin.growBy]
      rw [if_neg (by omega)]
      by_cases h2 : c + (c + 768) / 4 < need
      · exact ih _ h2
      · cases r with
        | zero => simp only [Builtin.growBy]; omega
        | succ r => simp only [Builtin.growBy]; rw [if_pos (by omega)]; omega
  have hn : Builtin.nextslicecap need old ≤ 2 * need + 1000 := by
    unfold Builtin.nextslicecap
    split
    · omega
    · split
      · omega
      · exact hgrow 4 old h
  have h2 : Builtin.nextslicecap need old * bytes ≤ (2 * need + 1000) * bytes := Nat.mul_le_mul_right _ hn
  have h3 : (2 * need + 1000) * bytes = 2 * (need * bytes) + 1000 * bytes := by rw [Nat.add_mul, Nat.mul_assoc]
  have h4 : bytes ≤ need * bytes := Nat.le_mul_of_pos_left _ (by omega)
  omega
/-- a new row, for a slice -/
theorem nwS_ok {k : Nat} (hk0 : 0 < k) {l l' rest : List Value} {e : TypeId} {m c : Nat} (hl : VRs ω l l') (hm : l.length = m * k) (hc : m ≤ c) (hr : rest.length = (c - m) * k) {W W' : AW} {w w' : World} (hw : WR H w0 ω W w) {v : Value} (h : nwS k e l m W = some (v, W')) (hh : w'.heap = w.heap.push (.cells (l' ++ rest).toArray e)) (h1 : w'.os = w.os) (h2 : w'.tape = w.tape) (h3 : w'.output = w.output) :
    ∃ ω', Gr ω W ω' W' ∧ WR H w0 ω' W' w' ∧ VR ω' v (.slice (some ⟨w.heap.size, 0, none⟩) m c) := by
  cases h
  have hg : WR H w0 ω W w' := hw.grow ⟨h1, h2, h3, by rw [hh]; simp, fun k hk => by rw [hh, Array.getElem?_push, if_neg (by omega)]⟩
  have hlen : (l' ++ rest).length = c * k := by
    rw [List.length_append, ← hl.length, hm, hr, ← Nat.add_mul]; congr 1; omega
  obtain ⟨q1, q2⟩ := hg.name (r := w.heap.size) (base := 0) (rm := ((k, e + 1), c * k)) (o := .cells l (k, e + 1) 0) (o' := .cells (l' ++ rest).toArray e) (by rw [hh]; simp) (.cells (fun i v hv => by
      obtain ⟨v', h5, h6⟩ := hl.get hv
      refine ⟨v', ?_, h6⟩
      rw [Nat.zero_add, List.getElem?_append_left (List.getElem?_eq_some_iff.1 h5).1]; exact h5) (fun _ => rfl) rfl (by rw [hlen]; simp) ⟨.inr rfl, fun h => absurd h (by show ¬ k = 0; omega)⟩) (.inl hw.size) fun b base' hb => by have := hw.lt hb; omega
  refine ⟨_, q2, q1, ?_⟩
  have := VR.sl (ω := ω.add W.next w.heap.size 0 ((k, e + 1), c * k)) (o := 0) (n := m) (c := m) (c' := c) (Om.add_at ..) hc (by rw [Om.add_room]; simp)
  simpa using this
theorem allOne_ok : ∀ {l l' : List Value}, allOne l = true → VRs ω l l' → ∀ v ∈ l', v.oneCell' = true
  | [], _, _, .nil => fun v hv => by cases hv
  | u :: l, _, h, .cons (v' := u') h1 h2 => fun v hv => by
    simp only [allOne, Bool.and_eq_true] at h
    cases hv with
    | head =>
      have := h1.one h.1
      cases u' <;> first | rfl | exact absurd rfl (this.1 _) | exact absurd rfl (this.2 _)
    | tail _ hv => exact allOne_ok h.2 h2 v hv
/-- a row that grows: where it lies, or in a new block -/
theorem grwA_ok {b r base o n m k c' : Nat} (hk0 : 0 < k) {te : TypeId} {new new' : List Value} {W W' : AW} {w : World} (hw : WR H w0 ω W w) {v : Value} (h : grwA b o n m k te new W = some (v, W')) (hb : ω b = some (r, base)) (hn : VRs ω new new') (hl : new.length = m * k) :
    (n + m ≤ c' → o + c' * (ω.room b).1.1 ≤ (ω.room b).2 → ∃ ω' w', Gr ω W ω' W' ∧ (storeCells ((⟨r, base + o, none⟩ : Addr).add (n * k)) new').run P w = .ok () w' ∧ WR H w0 ω' W' w' ∧ VR ω' v (.slice (some ⟨r, base + o, none⟩) (n + m) c')) ∧
    (∃ old old' : List Value, VRs ω old old' ∧ old.length = n * k ∧ (∀ w', w'.heap = w.heap → (loadCells ⟨r, base + o, none⟩ (n * k)).run P w' = .ok old'.toArray w') ∧ ∀ (cap : Nat) (rest : List Value) (w' : World), n + m ≤ cap → rest.length = (cap - (n + m)) * k → w'.heap = w.heap.push (.cells ((old' ++ new') ++ rest).toArray te) → w'.os = w.os → w'.tape = w.tape → w'.output = w.output →
      ∃ ω', Gr ω W ω' W' ∧ WR H w0 ω' W' w' ∧ VR ω' v (.slice (some ⟨w.heap.size, 0, none⟩) (n + m) cap)) := by
  obtain ⟨ob, o', q1, q2, q3⟩ := hw.obj _ _ _ hb
  unfold grwA at h
  simp only [q1] at h
  cases q3 with
  | @cells _ cs d kp e fz fr q3 qf qk qt qe =>
    obtain ⟨k', tp⟩ := kp
    simp only [len_eq] at h
    cases hc : (Nat.beq k' k && Nat.beq tp (te + 1) && Nat.ble fz cs.length && Nat.beq (o + n * k) cs.length && allOne new) with
    | false => rw [hc] at h; cases h
    | true =>
      rw [hc] at h; cases h
      simp only [Bool.and_eq_true] at hc
      obtain ⟨⟨⟨⟨c1, c5⟩, c2⟩, c3⟩, c4⟩ := hc
      have c1 := Nat.eq_of_beq_eq_true c1
      have c5 := Nat.eq_of_beq_eq_true c5
      subst c5
      have qk1 : (ω.room b).1.1 = k' := by rw [qk]
      have c2 := Nat.le_of_ble_eq_true c2
      have c3 := Nat.eq_of_beq_eq_true c3
      subst c1
      have hfr : fr = (0, 0) := qf c2
      subst hfr
      have hlive : (AO.cells cs (k', te + 1) fz).live := c2
      have hH : H ≤ r := (hw.own b r base _ hb q1).resolve_right fun hn => hn hlive
      have hdrop : (cs.drop o).length = n * k' := by simp; omega
      have hget : ∀ i v, (cs.drop o)[i]? = some v → ∃ v', d[base + o + i]? = some v' ∧ VR ω v v' := fun i v hv => by
        rw [List.getElem?_drop] at hv
        obtain ⟨v', h1, h2⟩ := q3 _ v hv
        exact ⟨v', by rw [← h1]; congr 1; omega, h2⟩
      have hnext : b ≠ W.next := by have := hw.dom b _ hb; omega
      -- the names of the block, when b is closed
      have hoth : ∀ (d' : List Value), (∀ i, i < base + cs.length → d'[i]? = d[i]?) → d'.length = d.length → ∀ (b1 : Nat) (o2 : AO) (base1 : Nat), b1 ≠ b → ω b1 = some (r, base1) → W.heap.get b1 = some o2 → Apart (.cells cs (k', te + 1) fz) o2 base base1 →
          Apart (.cells cs (k', te + 1) (cs.length + 1)) o2 base base1 ∧ Apart o2 (.cells cs (k', te + 1) (cs.length + 1)) base1 base ∧ ∀ o2', w.heap[r]? = some o2' → OR ω (ω.room b1) base1 o2 o2' → OR ω (ω.room b1) base1 o2 (.cells d'.toArray e (0, 0)) := fun d' hd' hdl b1 o2 base1 hbb hb1 hg1 hap => by
        have hap2 := hw.apart b1 b _ _ _ _ _ hbb hb1 hb hg1 q1
        cases o2 with
        | cells d2 k2 fz2 =>
          obtain ⟨g1, g2, g3⟩ := hap
          obtain ⟨p1, p2, p3⟩ := hap2
          refine ⟨⟨fun i j hi hj hij => ⟨by omega, (g1 i j hi hj hij).2⟩, fun hl => by omega, fun hl => by omega⟩, ⟨fun i j hi hj hij => ⟨(p1 i j hi hj hij).1, by omega⟩, fun hl => absurd ⟨hl, c2⟩ p3, fun hl => by omega⟩, fun o2' hr2 hO2 => ?_⟩
          rw [q2] at hr2; cases hr2
          cases hO2 with
          | @cells _ _ _ _ _ _ _ s1 s2 s3 s4 s5 =>
            refine .cells (fun i u hu => ?_) s2 s3 (by omega) ⟨s5.1, fun h => by rw [hdl]; exact s5.2 h⟩
            obtain ⟨u', h3, h4⟩ := s1 i u hu
            have := (List.getElem?_eq_some_iff.1 hu).1
            have := g2 c2
            exact ⟨u', by rw [hd' _ (by omega)]; exact h3, h4⟩
        | _ => exact hap.elim
      refine ⟨fun hcap hrm => ?_, ?_⟩
      · -- in place
        have htop : base + cs.length + new'.length ≤ d.length := by
          have h5 : (n + m) * k' ≤ c' * k' := Nat.mul_le_mul_right _ hcap
          rw [Nat.add_mul] at h5
          have : new'.length = m * k' := by rw [← hn.length, hl]
          rw [qk1] at hrm
          omega
        have hst := run_storeCells_at P r (base + cs.length) e new' 0 d.toArray w q2 (by simpa using htop) (allOne_ok c4 hn)
        simp only [Nat.add_zero] at hst
        let d' : List Value := d.take (base + cs.length) ++ new' ++ d.drop (base + cs.length + new'.length)
        let w' : World := w.setRow r d'.toArray
        have haddr : (⟨r, base + o, none⟩ : Addr).add (n * k') = ⟨r, base + cs.length, none⟩ := by
          unfold Addr.add
          split
          · rw [show base + o = base + cs.length by omega]
          · show (⟨r, base + o + n * k', none⟩ : Addr) = _
            rw [show base + o + n * k' = base + cs.length by omega]
        have hwh : ∀ i, w'.heap[i]? = if i = r then some (.cells d'.toArray e (0, 0)) else w.heap[i]? := fun i => by
          show (w.heap.modify r _)[i]? = _
          rw [Array.getElem?_modify]
          by_cases hi : r = i
          · subst hi; simp [q2]
          · simp [hi, Ne.symm hi]
        have hd' : ∀ i, i < base + cs.length → d'[i]? = d[i]? := fun i hi => by
          show (d.take (base + cs.length) ++ new' ++ _)[i]? = _
          rw [List.append_assoc, List.getElem?_append_left (by simp; omega), List.getElem?_take, if_pos hi]
        have hdl : d'.length = d.length := by show (d.take (base + cs.length) ++ new' ++ d.drop (base + cs.length + new'.length)).length = _; simp; omega
        have hW1 : WR H w0 ω ⟨W.heap.set b (some (.cells cs (k', te + 1) (cs.length + 1))), W.next⟩ w' :=
          hw.upd hb (o1' := .cells d'.toArray e (0, 0)) ⟨_, q1, fun _ => hlive, hoth d' hd' hdl⟩ hH (.cells (fun i v hv => by
            obtain ⟨v', h5, h6⟩ := q3 i v hv
            exact ⟨v', by rw [hd' _ (by have := (List.getElem?_eq_some_iff.1 hv).1; omega)]; exact h5, h6⟩) (fun _ => rfl) qk (by omega) ⟨qe.1, fun h => by rw [hdl]; exact qe.2 h⟩) hwh (by show (w.heap.modify r _).size = _; simp) rfl rfl rfl
        obtain ⟨t1, t2⟩ := hW1.over (r := r) (base := base + o) (rm := ((k', te + 1), (ω.room b).2 - o)) (o := .cells (cs.drop o ++ new) (k', te + 1) (n * k')) (o' := .cells d'.toArray e (0, 0)) (by rw [hwh, if_pos rfl]) (.cells (fun i v hv => by
            rw [List.getElem?_append] at hv
            split at hv
            · rename_i hi
              obtain ⟨v', h5, h6⟩ := hget i v hv
              exact ⟨v', by rw [hd' _ (by rw [hdrop] at hi; omega)]; exact h5, h6⟩
            · rename_i hi
              rw [hdrop] at hi hv
              obtain ⟨v', h5, h6⟩ := hn.get hv
              refine ⟨v', ?_, h6⟩
              have h7 := (List.getElem?_eq_some_iff.1 h5).1
              show (d.take (base + cs.length) ++ new' ++ _)[base + o + i]? = _
              rw [List.append_assoc, List.getElem?_append_right (by simp only [List.length_take]; omega), List.getElem?_append_left (by simp only [List.length_take]; omega), ← h5]
              congr 1
              simp only [List.length_take]; omega) (fun _ => rfl) rfl (by rw [hdl]; show base + o + ((ω.room b).2 - o) ≤ _; omega) ⟨qe.1, fun h => absurd h (by show ¬ k' = 0; omega)⟩) (.inl hH) fun b1 base1 o1 hb1 hg1 => by
              rw [PT.get_set] at hg1
              by_cases hbb : b1 = b
              · subst hbb
                rw [if_pos rfl] at hg1; cases hg1
                rw [hb] at hb1; cases hb1
                refine ⟨⟨fun i j hi hj hij => ⟨by omega, by omega⟩, fun hl => by simp only [List.length_append, hdrop]; omega, fun hl => by omega⟩, ⟨fun i j hi hj hij => ⟨by omega, by omega⟩, fun hl => by omega, fun hl => by omega⟩⟩
              · rw [if_neg hbb] at hg1
                have hap := hw.apart b b1 _ _ _ _ _ (Ne.symm hbb) hb hb1 q1 hg1
                have hap2 := hw.apart b1 b _ _ _ _ _ hbb hb1 hb hg1 q1
                cases o1 with
                | cells d2 k2 fz2 =>
                  obtain ⟨g1, g2, g3⟩ := hap
                  obtain ⟨p1, p2, p3⟩ := hap2
                  have g2 := g2 c2
                  refine ⟨⟨fun i j hi hj hij => ?_, fun hl => by simp only [List.length_append, hdrop]; omega, fun hl => absurd ⟨c2, hl.2⟩ g3⟩, ⟨fun i j hi hj hij => ?_, fun hl => absurd ⟨c2, hl⟩ g3, fun hl => absurd ⟨c2, hl.1⟩ g3⟩⟩
                  · have := g1 (o + i) j (by omega) hj (by omega)
                    exact ⟨by omega, this.2⟩
                  · have := g1 (o + j) i (by omega) hi (by omega)
                    exact ⟨this.2, by omega⟩
                | _ => exact hap.elim
        refine ⟨_, w', (Gr.set hb _).trans t2, by rw [haddr]; exact hst, t1, ?_⟩
        have := VR.sl (ω := ω.add W.next r (base + o) ((k', te + 1), (ω.room b).2 - o)) (o := 0) (n := n + m) (c := n + m) (c' := c') (Om.add_at ..) hcap (by rw [Om.add_room]; show 0 + c' * k' ≤ (ω.room b).2 - o; rw [qk1] at hrm; omega)
        simpa using this
      · have hgo : rdN ⟨b, o, none⟩ (n * k') W = some (cs.drop o, W) := by
          unfold rdN
          simp only [q1, len_eq]
          rw [Nat.ble_eq_true_of_le (by omega)]
          simp only [cond_true]
          rw [List.take_of_length_le (by omega)]
        obtain ⟨_, _, old', y1, y2⟩ := rdN_ok (P := P) (a' := ⟨r, base + o, none⟩) (VR.ptr hb) hw hgo
        refine ⟨cs.drop o, old', y1, hdrop, y2, fun cap rest w' hcap hrest hh h1 h2 h3 => ?_⟩
        have hg : WR H w0 ω W w' := hw.grow ⟨h1, h2, h3, by rw [hh]; simp, fun k hk => by rw [hh, Array.getElem?_push, if_neg (by omega)]⟩
        have q2' : w'.heap[r]? = some (.cells d.toArray e (0, 0)) := by
          have := hw.lt hb
          rw [hh, Array.getElem?_push, if_neg (by omega)]; exact q2
        have hW1 : WR H w0 ω ⟨W.heap.set b (some (.cells cs (k', te + 1) (cs.length + 1))), W.next⟩ w' :=
          hg.upd hb (o1' := .cells d.toArray e (0, 0)) ⟨_, q1, fun _ => hlive, fun b1 o2 base1 hbb hb1 hg1 hap => by
            obtain ⟨x1, x2, x3⟩ := hoth d (fun _ _ => rfl) rfl b1 o2 base1 hbb hb1 hg1 hap
            refine ⟨x1, x2, fun o2' hr2 hO => x3 o2' ?_ hO⟩
            rw [q2'] at hr2; rw [q2]; exact hr2⟩ hH (.cells q3 (fun _ => rfl) qk qt qe) (fun i => by
            by_cases hi : i = r
            · rw [if_pos hi, hi]; exact q2'
            · rw [if_neg hi]) rfl rfl rfl rfl
        have hlen : ((old' ++ new') ++ rest).length = cap * k' := by
          rw [List.length_append, List.length_append, ← y1.length, ← hn.length, hdrop, hl, hrest, ← Nat.add_mul, ← Nat.add_mul]; congr 1; omega
        obtain ⟨z1, z2⟩ := hW1.name (r := w.heap.size) (base := 0) (rm := ((k', te + 1), cap * k')) (o := .cells (cs.drop o ++ new) (k', te + 1) (n * k')) (o' := .cells ((old' ++ new') ++ rest).toArray te) (by rw [hh]; simp) (.cells (fun i v hv => by
          obtain ⟨v', h5, h6⟩ := (y1.append hn).get hv
          refine ⟨v', ?_, h6⟩
          rw [Nat.zero_add, List.getElem?_append_left (List.getElem?_eq_some_iff.1 h5).1]; exact h5) (fun _ => rfl) rfl (by rw [hlen]; simp) ⟨.inr rfl, fun h => absurd h (by show ¬ k' = 0; omega)⟩) (.inl hw.size) fun b base' hb => by have := hw.lt hb; omega
        refine ⟨_, (Gr.set hb _).trans z2, z1, ?_⟩
        have := VR.sl (ω := ω.add W.next w.heap.size 0 ((k', te + 1), cap * k')) (o := 0) (n := n + m) (c := n + m) (c' := cap) (Om.add_at ..) hcap (by rw [Om.add_room]; simp)
        simpa using this
  | _ => cases h
theorem zeroRest_len (ht : TbOk P tb) (z : Value) (k n : Nat) (hz : z.cells.size = k) : (Builtin.zeroCells z.cells n).toList.length = n * k := by
  simp [Builtin.zeroCells, hz]
theorem okS {b : Bool} {W W' : AW} {u : Unit} (h : M.ok b W = some (u, W')) : b = true ∧ W' = W := by
  unfold M.ok at h
  cases b with
  | false => cases h
  | true => cases h; exact ⟨rfl, rfl⟩
theorem optS {o : Option α} {W W' : AW} {a : α} (h : M.opt o W = some (a, W')) : o = some a ∧ W' = W := by
  unfold M.opt at h
  cases o with
  | none => cases h
  | some x => cases h; exact ⟨rfl, rfl⟩
theorem sim_appB (ht : TbOk P tb) {t t2 ty e : TypeId} {i i2 : TyI} (hi : tb.get t = some i) (hi2 : tb.get t2 = some i2) (he : i.und = .slice e) {base : Option Addr} {n c : Nat} {s' x x' : Value} (hs : VR ω (.slice base n c) s') (hx : VR ω x x') : Sim P H w0 ω (appB tb e (isInt i2.und) base n c (.slice base n c) x) (Builtin.append_ #[t, t2] ty #[s', x']) VR := fun W w hw v W' hr => by
  unfold appB at hr
  obtain ⟨j, Wc, hc1, hr1⟩ := bd_some hr; clear hr
  obtain ⟨hj, hW1⟩ := optS hc1
  obtain ⟨u1, Wd, hd1, hr2⟩ := bd_some hr1; clear hr1
  obtain ⟨hd2, hW2⟩ := okS hd1
  rw [hW1] at hW2
  rw [hW2] at hr2
  have hpos : 0 < j.size := by simpa [Nat.blt_eq] using hd2
  obtain ⟨⟨m, new⟩, We, he1, hr3⟩ := bd_some hr2; clear hr2
  obtain ⟨q1, info, q2, q3, q4, q5, q6⟩ := ht e j hj
  obtain ⟨p1, -⟩ := ht t i hi
  obtain ⟨p2, -⟩ := ht t2 i2 hi2
  rw [he] at p1
  obtain ⟨hWe, new', k1, k2, k3, k4⟩ := srcA_ok ht hj q2 q3 hpos hx hw he1
  rw [hWe] at hr3
  -- what the model's append comes to
  have hroom : ∀ {base' : Option Addr} {c' : Nat}, s' = .slice base' n c' → n + m ≤ c' → (Builtin.append_ #[t, t2] ty #[s', x']).run P w = (do (match base' with | some a => storeCells (a.add (n * j.size)) new' | none => pure ()); pure (.slice base' (n + m) c') : Sem Value).run P w := fun {base' c'} hs' hle => by
    subst hs'
    cases hz : isInt i2.und with
    | false =>
      obtain ⟨g1, g2⟩ := k3 hz
      have := app_room (P := P) (w := w) (t2 := t2) (ty := ty) (base := base') (sLen := n) (sCap := c') p1 p2 q2 hz g1 hle g2
      rw [q3] at this; exact this
    | true =>
      obtain ⟨kd, z, rfl, g2, g3, g4⟩ := k4 hz
      have := app_room0 (P := P) (w := w) (t2 := t2) (ty := ty) (base := base') (sLen := n) (sCap := c') (k := kd) (m := m) (z := z) (new := new') p1 p2 q2 (q5 z g2).1 hz (by
        rw [q4]
        have : m * j.bytes ≤ m * (j.bytes + 1) := Nat.mul_le_mul_left _ (by omega)
        have : ((m * j.bytes : Nat) : Int) ≤ 1000000 := by omega
        rw [Int.natCast_mul] at this; omega) (by
        have : m * 1 ≤ m * (j.bytes + 1) := Nat.mul_le_mul_left _ (by omega)
        omega) hle g4
      rw [q3] at this; exact this
  cases hm : Nat.beq m 0 with
  | true =>
    rw [hm] at hr3
    have hm0 := Nat.eq_of_beq_eq_true hm
    subst hm0
    obtain ⟨u, Wf, hf1, hr4⟩ := bd_some hr3; clear hr3
    obtain ⟨hnc, hWf⟩ := okS hf1
    have hnc := Nat.le_of_ble_eq_true hnc
    rw [hWf] at hr4
    cases hr4
    have hnew : new' = [] := by
      have := k1.length
      rw [k2] at this
      exact List.eq_nil_of_length_eq_zero (by omega)
    subst hnew
    have hs2 : ∃ base' c', s' = .slice base' n c' ∧ n ≤ c' := by
      cases hs with
      | sl0 => exact ⟨_, _, rfl, Nat.le_refl _⟩
      | sl hb hc => exact ⟨_, _, rfl, by omega⟩
      | sle => exact ⟨_, _, rfl, Nat.le_refl _⟩
    obtain ⟨base', c', rfl, hle⟩ := hs2
    refine ⟨ω, _, w, Gr.refl ω _, ?_, hw, hs⟩
    rw [hroom rfl (by omega)]
    cases base' <;> rfl
  | false =>
    rw [hm] at hr3
    have hm0 : m ≠ 0 := fun h => by rw [h] at hm; cases hm
    obtain ⟨u, Wf, hf1, hr5⟩ := bd_some hr3; clear hr3
    obtain ⟨hby, hWf⟩ := okS hf1
    have hby := Nat.le_of_ble_eq_true hby
    have hby : (n + m) * (j.bytes + 1) ≤ 1000000000 := hby
    rw [hWf] at hr5
    obtain ⟨u2, Wg, hg1, hr6⟩ := bd_some hr5; clear hr5
    obtain ⟨hzz, hWg⟩ := okS hg1
    rw [hWg] at hr6
    have hzz : ∃ z, j.zero = some z ∧ z.cells.size = j.size := by
      unfold zOk at hzz
      cases hz : j.zero with
      | none => rw [hz] at hzz; cases hzz
      | some z =>
        rw [hz] at hzz
        have := Nat.eq_of_beq_eq_true hzz
        rw [len_eq] at this
        exact ⟨z, rfl, by simpa using this⟩
    obtain ⟨z, hz, hzs⟩ := hzz
    have hgrow : ∀ {base' : Option Addr} {c' : Nat}, s' = .slice base' n c' → c' < n + m → ∀ {old : List Value}, (∀ w', w'.heap = w.heap → (Builtin.firstCells info.size n (.slice base' n c')).run P w' = .ok old.toArray w') → ∃ cap, n + m ≤ cap ∧ (Builtin.append_ #[t, t2] ty #[s', x']).run P w = .ok (.slice (some ⟨w.heap.size, 0, none⟩) (n + m) cap) { w with drawn := w.drawn + 1, heap := w.heap.push (.cells (old.toArray ++ new'.toArray ++ Builtin.zeroCells z.cells (cap - (n + m))) e) } := fun {base' c'} hs' hlt {old} hold => by
      subst hs'
      have h63 : ¬ (((n + m : Nat) : Int) > IntKind.i64.max) := by
        have : (n + m) * 1 ≤ (n + m) * (j.bytes + 1) := Nat.mul_le_mul_left _ (by omega)
        show ¬ (((n + m : Nat) : Int) > 9223372036854775807); omega
      have hby2 : ¬ Builtin.nextslicecap (n + m) c' * info.bytes > 2 ^ 48 := by rw [q4]; exact next_le hlt hby
      cases hzi : isInt i2.und with
      | false =>
        obtain ⟨g1, g2⟩ := k3 hzi
        exact app_grow p1 p2 q2 (q5 z hz).1 hzi g1 hlt g2 h63 hby2 hold
      | true =>
        obtain ⟨kd, z2, rfl, g2, g3, g4⟩ := k4 hzi
        rw [hz] at g2; cases g2
        exact app_grow0 p1 p2 q2 (q5 z hz).1 hzi (by
          rw [q4]
          have : m * j.bytes ≤ m * (j.bytes + 1) := Nat.mul_le_mul_left _ (by omega)
          have : ((m * j.bytes : Nat) : Int) ≤ 1000000 := by omega
          rw [Int.natCast_mul] at this; omega) (by
          have : m * 1 ≤ m * (j.bytes + 1) := Nat.mul_le_mul_left _ (by omega)
          omega) hlt g4 h63 hby2 hold
    have hrl : ∀ cap, (Builtin.zeroCells z.cells (cap - (n + m))).toList.length = (cap - (n + m)) * j.size := fun cap => zeroRest_len ht z j.size _ hzs
    have hpush : ∀ (old : List Value) (cap : Nat), (old.toArray ++ new'.toArray ++ Builtin.zeroCells z.cells (cap - (n + m))) = ((old ++ new') ++ (Builtin.zeroCells z.cells (cap - (n + m))).toList).toArray := fun old cap => by apply Array.ext'; simp
    -- a slice that has no room: a new row
    have hnew : ∀ {base' : Option Addr}, s' = .slice base' 0 0 → n = 0 → nwS j.size e new m W = some (v, W') → ∃ ω' a' w', Gr ω W ω' W' ∧ (Builtin.append_ #[t, t2] ty #[s', x']).run P w = .ok a' w' ∧ WR H w0 ω' W' w' ∧ VR ω' v a' := fun {base'} hs' hn0 h => by
      subst hn0
      obtain ⟨cap, g1, g2⟩ := hgrow (c' := 0) hs' (by omega) (old := []) (fun w' _ => by cases base' <;> simp [Builtin.firstCells, loadCells, loadCellsFrom, Sem.run, pure])
      rw [hpush] at g2
      obtain ⟨ω', z1, z2, z3⟩ := nwS_ok (k := j.size) hpos (l := new) (l' := new') (rest := (Builtin.zeroCells z.cells (cap - (0 + m))).toList) (e := e) (m := m) (c := cap) (w' := { w with drawn := w.drawn + 1, heap := w.heap.push (.cells ((new') ++ (Builtin.zeroCells z.cells (cap - (0 + m))).toList).toArray e) }) k1 k2 (by omega) (by rw [hrl, Nat.zero_add]) hw h rfl rfl rfl rfl
      exact ⟨ω', _, _, z1, g2, z2, by simpa using z3⟩
    have hgrw : ∀ {b r base' o c' : Nat} {a' : Addr}, s' = .slice (some a') n c' → a' = ⟨r, base' + o, none⟩ ∨ n = 0 → c' < n + m → ω b = some (r, base') → grwA b o n m j.size e new W = some (v, W') → ∃ ω' a' w', Gr ω W ω' W' ∧ (Builtin.append_ #[t, t2] ty #[s', x']).run P w = .ok a' w' ∧ WR H w0 ω' W' w' ∧ VR ω' v a' := fun {b r base' o c' a'} hs' ha hlt hb h => by
      obtain ⟨-, old, old', y1, y2, y3, y4⟩ := grwA_ok (c' := c') hpos hw h hb k1 k2
      obtain ⟨cap, g1, g2⟩ := hgrow hs' hlt (old := old') (fun w' hh => by
        rcases ha with rfl | hn0
        · simp only [Builtin.firstCells, q3]; exact y3 w' hh
        · have : old' = [] := by
            have := y1.length
            rw [y2, hn0] at this
            exact List.eq_nil_of_length_eq_zero (by omega)
          rw [this, hn0]
          simp [Builtin.firstCells, loadCells, loadCellsFrom, Sem.run, pure])
      rw [hpush] at g2
      obtain ⟨ω', z1, z2, z3⟩ := y4 cap (Builtin.zeroCells z.cells (cap - (n + m))).toList { w with drawn := w.drawn + 1, heap := w.heap.push (.cells ((old' ++ new') ++ (Builtin.zeroCells z.cells (cap - (n + m))).toList).toArray e) } g1 (hrl cap) rfl rfl rfl rfl
      exact ⟨ω', _, _, z1, g2, z2, z3⟩
    cases hs with
    | sl0 => exact hnew rfl rfl hr6
    | @sle a a' hsp =>
      obtain ⟨b, o, sp⟩ := a
      cases sp with
      | some x => exact hnew rfl rfl hr6
      | none =>
        obtain ⟨⟨r, base'⟩, hb⟩ := hsp rfl
        cases hle : Nat.ble (0 + m) 0 with
        | true => have := Nat.le_of_ble_eq_true hle; omega
        | false =>
          simp only [hle, cond_false] at hr6
          exact hgrw (base' := base') rfl (.inr rfl) (by omega) hb hr6
    | @sl b r base' o _ _ c' hb hc hrm =>
      cases hle : Nat.ble (n + m) c with
      | true =>
        have hle' := Nat.le_of_ble_eq_true hle
        simp only [hle, cond_true] at hr6
        obtain ⟨u3, Wh, hh1, hh2⟩ := bd_some hr6
        cases hh2
        have ha : AR ω (move ⟨b, o, none⟩ (n * j.size)) ((⟨r, base' + o, none⟩ : Addr).add (n * j.size)) := AR.move (VR.ptr hb) _
        obtain ⟨ω', u4, w', f1, f2, f3, _⟩ := Sim.wrN (P := P) 0 ha k1 W w hw _ _ hh1
        refine ⟨ω', .slice (some ⟨r, base' + o, none⟩) (n + m) c', w', f1, ?_, f3, ?_⟩
        · rw [hroom rfl (by omega)]
          simp only [bind, Sem.run_bind' P, f2]; rfl
        · exact .sl (f1.le.to _ _ hb) hc (by rw [f1.le.room _ _ hb]; exact hrm)
      | false =>
        simp only [hle, cond_false] at hr6
        by_cases hcc : n + m ≤ c'
        · obtain ⟨h1, -⟩ := grwA_ok (c' := c') hpos hw hr6 hb k1 k2
          obtain ⟨ω', w', f1, f2, f3, f4⟩ := h1 hcc hrm
          refine ⟨ω', .slice (some ⟨r, base' + o, none⟩) (n + m) c', w', f1, ?_, f3, f4⟩
          rw [hroom rfl hcc]
          simp only [bind, Sem.run_bind' P]
          rw [f2]; rfl
        · exact hgrw rfl (.inl rfl) (by omega) hb hr6
theorem sim_app (ht : TbOk P tb) {t t2 ty : TypeId} {s s' x x' : Value} (hs : VR ω s s') (hx : VR ω x x') : Sim P H w0 ω (appA tb [t, t2] s x) (Builtin.append_ #[t, t2] ty #[s', x']) VR := by
  unfold appA
  refine Sim.ty ht fun i hi => Sim.ty ht fun i2 hi2 => ?_
  split
  · rename_i e base n c he
    exact sim_appB ht hi hi2 he hs hx
  · exact Sim.no
end
end Go.Cev
namespace Go.Cev
open Go.RowKit
/-! ### a row of bytes seen as a string -/
noncomputable section
def sdA : Value → M Value
  | .slice none _ _ => .ret (.pointer none)
  | .slice (some a) _ (_ + 1) => match a.spot with
    | none => .ret (.pointer (some a))
    | some _ => .no
  | _ => .no
def bytesA : List Value → Option (List UInt8)
  | [] => some []
  | .int .u8 (.ofNat n) :: l => match bytesA l with
    | some r => some (UInt8.ofNat n :: r)
    | none => none
  | _ => none
/-- a row of elements of one cell is closed -/
def shutA (b : Nat) (e : TypeId) : M Unit := fun W => match W.heap.get b with
  | some (.cells c k fz) => cond (Nat.beq k.1 1 && Nat.beq k.2 (e + 1) && Nat.ble fz (len c)) (some ((), ⟨W.heap.set b (some (.cells c k (len c + 1))), W.next⟩)) none
  | _ => none
def usA (tb : PT TyI) (ts : List TypeId) (p x : Value) : M Value := match ts, p, x with
  | _ :: _, .pointer none, .int _ (.ofNat 0) => .ret (.string .empty)
  | t :: _, .pointer (some a), .int _ (.ofNat (n + 1)) => (tyI tb t).bd fun i => match i.und with
    | .pointer e => (tyI tb e).bd fun j => (M.ok (Nat.beq j.size 1 && Nat.ble n 1000000)).bd fun _ => (rdN a (n + 1)).bd fun l => (M.opt (bytesA l)).bd fun s => (shutA a.block e).bd fun _ => .ret (.string (ofBl s))
    | _ => .no
  | _, _, _ => .no
end
section
variable {P : Program} {H : Nat} {w0 : World} {ω : Om} {α β γ δ : Type} {tb : PT TyI}
theorem sim_sd {ts : Array TypeId} {ty : TypeId} {v v' : Value} (h : VR ω v v') : Sim P H w0 ω (sdA v) (Builtin.unsafeSliceData_ ts ty #[v']) VR := by
  unfold sdA
  split
  · cases h with
    | sl0 => exact Sim.ret .ptr0
  · rename_i a n c
    cases h with
    | @sl b r base o _ _ c' hb hc hr =>
      simp only
      refine Sim.optV (o := some _) fun u hu => ?_
      cases hu
      refine ⟨.pointer (some ⟨r, base + o, none⟩), fun w => ?_, .ptr hb⟩
      have hdef : Builtin.unsafeSliceData_ ts ty #[.slice (some ⟨r, base + o, none⟩) n c'] =
        (do
          if c' ≠ 0 then pure (.pointer (some ⟨r, base + o, none⟩))
          else if (← viewAt r).isSome then pure (.pointer (some ⟨r, base + o, none⟩))
          else pure (.pointer (some ⟨← newObj (.view ⟨r, base + o, none⟩ (← elemOf ty)), 0, none⟩))) := rfl
      rw [hdef, if_pos (by omega)]; rfl
  · exact Sim.no
theorem bytesA_cells : ∀ {l l' : List Value} {s : List UInt8}, bytesA l = some s → VRs ω l l' → l'.length = s.length ∧ ∀ j, j < s.length → ∃ m : Nat, l'[j]? = some (.int .u8 (m : Int)) ∧ s[j]? = some (UInt8.ofNat m)
  | [], _, s, h, .nil => by cases h; exact ⟨rfl, fun j hj => by cases hj⟩
  | v :: l, _, s, h, .cons h1 h2 => by
    unfold bytesA at h
    split at h
    · rename_i h'; cases h'
    · rename_i n l1 he
      cases he
      split at h
      · rename_i r hr
        cases h
        cases h1
        obtain ⟨g1, g2⟩ := bytesA_cells hr h2
        refine ⟨by simp [g1], fun j hj => ?_⟩
        cases j with
        | zero => exact ⟨n, rfl, rfl⟩
        | succ j => simpa using g2 j (by simpa using hj)
      · cases h
    · cases h
theorem loadBytes_run {w : World} : ∀ (n : Nat) (a : Addr) (acc : ByteArray) (s : List UInt8), s.length = n → (∀ j, j < n → ∃ m : Nat, w.cell? (a.add j) = some (.int .u8 (m : Int)) ∧ s[j]? = some (UInt8.ofNat m)) → (loadBytes a acc n).run P w = .ok ⟨acc.data ++ s.toArray⟩ w
  | 0, a, acc, s, hs, h => by
    have : s = [] := List.eq_nil_of_length_eq_zero hs
    subst this; simp [loadBytes]
  | n + 1, a, acc, [], hs, h => by cases hs
  | n + 1, a, acc, x :: s, hs, h => by
    obtain ⟨m, h0, h1⟩ := h 0 (by omega)
    have h0 : w.cell? a = some (.int .u8 (m : Int)) := by simpa [Addr.add] using h0
    have hx : x = UInt8.ofNat m := by simpa using h1
    have ih := loadBytes_run n (a.add 1) (acc.push x) s (by simpa using hs) fun j hj => by
      obtain ⟨m, h2, h3⟩ := h (j + 1) (by omega)
      refine ⟨m, ?_, by simpa using h3⟩
      have e : (a.add 1).add j = a.add (j + 1) := by
        unfold Addr.add
        by_cases hj : j = 0
        · subst hj; simp
        · simp [hj]; omega
      rw [e]; exact h2
    have hld : (load a).run P w = .ok (.int .u8 (m : Int)) w := by simp [load, Sem.run, h0]
    simp only [loadBytes, bind, Sem.run_bind' P, hld, Result.andThen]
    have : ((m : Int).toNat.toUInt8) = x := by rw [hx]; simp
    rw [this, ih]
    simp
theorem liesAt_row {e : TypeId} (hc : P.cellsOf e = 1) (count o n : Nat) (hn : o + n ≤ count) : liesAt P P.depth e count o e n = true := by
  have hd : P.depth = (2 * (P.types.size + Made.depth) + 1) + 1 := rfl
  rw [hd]
  simp only [liesAt, Bool.or_eq_true]
  left
  rw [hd]
  simp [rowAt, hc, hn, sameLayout, Nat.mod_one]
/-- a row of a block is closed: its cells are frozen -/
theorem shut_ok {W W' : AW} {w : World} {b e r base o n : Nat} {u : Unit} (hw : WR H w0 ω W w) (h : shutA b e W = some (u, W')) (hb : ω b = some (r, base)) (hn : n ≠ 0) : ∃ c', w.shape? r = some (e, c') ∧ Gr ω W ω W' ∧ WR H w0 ω W' (w.freeze ⟨r, base + o, none⟩ n) := by
  obtain ⟨ob, o', q1, q2, q3⟩ := hw.obj _ _ _ hb
  unfold shutA at h
  simp only [q1] at h
  cases q3 with
  | @cells _ cs d kp e' fz fr q3 qf qk qt qe =>
    obtain ⟨k', tp⟩ := kp
    simp only [len_eq] at h
    cases hc : (Nat.beq k' 1 && Nat.beq tp (e + 1) && Nat.ble fz cs.length) with
    | false => rw [hc] at h; cases h
    | true =>
      rw [hc] at h; cases h
      simp only [Bool.and_eq_true] at hc
      have c2 := Nat.le_of_ble_eq_true hc.2
      have c5 := Nat.eq_of_beq_eq_true hc.1.2
      subst c5
      have he : e = e' := by
        rcases qe.1 with h | h
        · simp at h
        · have h : e + 1 = e' + 1 := h
          omega
      subst he
      have hlive : (AO.cells cs (k', e + 1) fz).live := c2
      have hH : H ≤ r := (hw.own b r base _ hb q1).resolve_right fun hn => hn hlive
      refine ⟨d.length, ?_, Gr.set hb _, ?_⟩
      · simp [World.shape?, q2]
      · have hfz : ∃ fr', ∀ k, (w.freeze ⟨r, base + o, none⟩ n).heap[k]? = if k = r then some (.cells d.toArray e fr') else w.heap[k]? := by
          unfold World.freeze
          rw [if_neg hn]
          refine ⟨(if fr.1 == fr.2 then (base + o, base + o + n) else (min fr.1 (base + o), max fr.2 (base + o + n))), fun k => ?_⟩
          show (w.heap.modify r _)[k]? = _
          rw [Array.getElem?_modify]
          by_cases hk : r = k
          · subst hk
            rw [if_pos rfl, if_pos rfl, q2]
            obtain ⟨lo, hi⟩ := fr
            rfl
          · rw [if_neg hk, if_neg (Ne.symm hk)]
        obtain ⟨fr', hh⟩ := hfz
        have hsame : (w.freeze ⟨r, base + o, none⟩ n).heap.size = w.heap.size ∧ (w.freeze ⟨r, base + o, none⟩ n).os = w.os ∧ (w.freeze ⟨r, base + o, none⟩ n).tape = w.tape ∧ (w.freeze ⟨r, base + o, none⟩ n).output = w.output := by
          unfold World.freeze
          rw [if_neg hn]
          simp
        refine hw.upd hb (o1' := .cells d.toArray e fr') ⟨_, q1, fun _ => hlive, fun b1 o2 base1 hbb hb1 hg1 hap => ?_⟩ hH (.cells q3 (fun hl => by omega) qk qt qe) hh hsame.1 hsame.2.1 hsame.2.2.1 hsame.2.2.2
        have hap2 := hw.apart b1 b _ _ _ _ _ hbb hb1 hb hg1 q1
        cases o2 with
        | cells d2 k2 fz2 =>
          obtain ⟨g1, g2, g3⟩ := hap
          obtain ⟨p1, p2, p3⟩ := hap2
          refine ⟨⟨fun i j hi hj hij => ⟨by omega, (g1 i j hi hj hij).2⟩, fun hl => by omega, fun hl => by omega⟩, ⟨fun i j hi hj hij => ⟨(p1 i j hi hj hij).1, by omega⟩, fun hl => absurd ⟨hl, c2⟩ p3, fun hl => by omega⟩, fun o2' hr2 hO2 => ?_⟩
          rw [q2] at hr2; cases hr2
          cases hO2 with
          | @cells _ _ _ _ _ _ _ s1 s2 s3 s4 s5 =>
            exact .cells s1 (fun hl => absurd ⟨c2, hl⟩ g3) s3 s4 s5
        | _ => exact hap.elim
  | _ => cases h
theorem VRs_at : ∀ {l l' : List Value}, l.length = l'.length → (∀ (i : Nat) (v : Value), l[i]? = some v → ∃ v', l'[i]? = some v' ∧ VR ω v v') → VRs ω l l'
  | [], [], _, _ => .nil
  | [], _ :: _, h, _ => by simp at h
  | _ :: _, [], h, _ => by simp at h
  | a :: l, b :: l', h, hv => by
    obtain ⟨v', h1, h2⟩ := hv 0 a rfl
    simp at h1; subst h1
    exact .cons h2 (VRs_at (by simpa using h) fun i v hi => by simpa using hv (i + 1) v (by simpa using hi))
theorem sim_us (ht : TbOk P tb) {ts : Array TypeId} {ty : TypeId} {p p' x x' : Value} (hp : VR ω p p') (hx : VR ω x x') : Sim P H w0 ω (usA tb ts.toList p x) (Builtin.unsafeString_ ts ty #[p', x']) VR := by
  have hts : ∀ {t : TypeId} {l : List TypeId}, ts.toList = t :: l → ts = (t :: l).toArray := fun {t l} h => by rw [← h]
  have hmax : IntKind.i64.max = 9223372036854775807 := rfl
  unfold usA
  split
  · rename_i t l k hl
    have hl := hts hl
    subst hl
    cases hp; cases hx
    refine Sim.optV (o := some _) fun u hu => ?_
    cases hu
    refine ⟨_, fun w => ?_, .string _⟩
    obtain ⟨g1, g2, hdef⟩ : ∃ g1 g2, Builtin.unsafeString_ (t :: l).toArray ty #[.pointer none, .int k (Int.ofNat 0)] = (do
        let n ← asInt (.int k (Int.ofNat 0))
        if n < 0 then runtimePanic (.error g1)
        if n > IntKind.i64.max then unsupported (.unsafePointer "String: a length above the largest int")
        if n = 0 then pure (.string .empty)
        else runtimePanic (.error g2)) := ⟨_, _, rfl⟩
    rw [hdef]
    simp [asInt, asIntOf, hmax]
  · rename_i t l a k n hl
    have hl := hts hl
    subst hl
    cases hx
    refine fun W w hw v W' hr => ?_
    obtain ⟨i, W1, h1, h2⟩ := bd_some hr
    obtain ⟨hi, e1⟩ := optS h1
    rw [e1] at h2
    cases he : i.und <;> rw [he] at h2 <;> try (cases h2; done)
    rename_i e
    obtain ⟨j, W2, h3, h4⟩ := bd_some h2
    obtain ⟨hj, e2⟩ := optS h3
    rw [e2] at h4
    obtain ⟨u, W3, h5, h6⟩ := bd_some h4
    obtain ⟨h5, e3⟩ := okS h5
    rw [e3] at h6
    simp only [Bool.and_eq_true] at h5
    have hj1 := Nat.eq_of_beq_eq_true h5.1
    have hn1 := Nat.le_of_ble_eq_true h5.2
    obtain ⟨x, W4, h7, h8⟩ := bd_some h6
    obtain ⟨s, W5, h9, h10⟩ := bd_some h8
    obtain ⟨h99, e5⟩ := optS h9
    rw [e5] at h10
    obtain ⟨u2, W6, h11, h12⟩ := bd_some h10
    cases h12
    cases hp with
    | @ptr b r base o hb =>
      obtain ⟨e4, hxl, y0, hxy0, -⟩ := rdN_ok (P := P) (VR.ptr (o := o) hb) hw h7
      rw [e4] at h11
      obtain ⟨c', hsh, hg, hw'⟩ := shut_ok (o := o) (n := n + 1) hw h11 hb (by omega)
      obtain ⟨ht1, info, ht2, ht3, ht4, ht5⟩ := ht t i hi
      obtain ⟨hs1, info2, hs2, hs3, hs4, hs5⟩ := ht e j hj
      have hce : P.cellsOf e = 1 := by
        unfold Program.cellsOf
        rw [hs2]; show info2.size = 1; rw [hs3, hj1]
      obtain ⟨ob, o', q1, q2, q3⟩ := hw.obj _ _ _ hb
      unfold rdN at h7
      simp only [q1] at h7
      cases q3 with
      | @cells _ cs d kp e' fz fr q3 qf qk qt qe =>
        simp only [len_eq] at h7
        cases hc : Nat.ble (o + (n + 1)) cs.length with
        | false => rw [hc] at h7; cases h7
        | true =>
          rw [hc] at h7
          have hc := Nat.le_of_ble_eq_true hc
          cases h7
          have hyx : VRs ω ((cs.drop o).take (n + 1)) ((d.drop (base + o)).take (n + 1)) := VRs_at (by
              rw [List.length_take, List.length_take, List.length_drop, List.length_drop]
              obtain ⟨v', h13, _⟩ := q3 (o + n) cs[o + n] (by simp)
              have := (List.getElem?_eq_some_iff.1 h13).1
              omega) fun q v hv => by
            rw [List.getElem?_take] at hv
            split at hv
            · rename_i hq
              rw [List.getElem?_drop] at hv
              obtain ⟨v', h13, h14⟩ := q3 _ v hv
              refine ⟨v', ?_, h14⟩
              rw [List.getElem?_take, if_pos hq, List.getElem?_drop, ← h13]
              congr 1; omega
            · cases hv
          obtain ⟨g1, g2⟩ := bytesA_cells h99 hyx
          have hsl : s.length = n + 1 := by rw [← g1, ← hyx.length, hxl]
          have hcd : c' = d.length := by
            simp [World.shape?, q2] at hsh; exact hsh.2.symm
          have hle : base + o + (n + 1) ≤ c' := by
            obtain ⟨v', h13, _⟩ := q3 (o + n) cs[o + n] (by simp)
            have := (List.getElem?_eq_some_iff.1 h13).1
            omega
          have hlb := loadBytes_run (P := P) (w := w) (n + 1) ⟨r, base + o, none⟩ .empty s hsl fun q hq => by
            obtain ⟨m, m1, m2⟩ := g2 q (by omega)
            refine ⟨m, ?_, m2⟩
            rw [List.getElem?_take, if_pos hq, List.getElem?_drop] at m1
            have hadd : (⟨r, base + o, none⟩ : Addr).add q = ⟨r, base + o + q, none⟩ := by
              unfold Addr.add
              split
              · rename_i h0; rw [h0]; rfl
              · rfl
            rw [hadd]
            simp only [World.cell?, q2, Option.isSome_none, Bool.false_eq_true, if_false]
            simpa using m1
          have hlies := liesAt_row (P := P) hce (c' / P.cellsOf e) (base + o) (n + 1) (by rw [hce]; simpa using hle)
          rw [he] at ht1
          refine ⟨ω, _, _, hg, ?_, hw', .string _⟩
          obtain ⟨g1, hdef⟩ : ∃ g1, Builtin.unsafeString_ (t :: l).toArray ty #[.pointer (some ⟨r, base + o, none⟩), .int k (Int.ofNat (n + 1))] = (do
              let n ← asInt (.int k (Int.ofNat (n + 1)))
              if n < 0 then runtimePanic (.error g1)
              if n > IntKind.i64.max then unsupported (.unsafePointer "String: a length above the largest int")
              if n = 0 then pure (.string .empty)
              else if ← variablesAt ⟨r, base + o, none⟩ (← elemOf t) n.toNat then do
                let s ← loadBytes ⟨r, base + o, none⟩ .empty n.toNat
                freeze ⟨r, base + o, none⟩ n.toNat
                pure (.string s)
              else unsupported (.unsafePointer "String: not so many bytes at ptr")) := ⟨_, rfl⟩
          rw [hdef]
          have hneg : ¬ (Int.ofNat (n + 1)) < 0 := by
            rw [show (Int.ofNat (n + 1)) = ((n + 1 : Nat) : Int) from rfl]; omega
          have h63 : ¬ Int.ofNat (n + 1) > 9223372036854775807 := by
            rw [show (Int.ofNat (n + 1)) = ((n + 1 : Nat) : Int) from rfl]; omega
          have hz : ¬ Int.ofNat (n + 1) = 0 := by
            rw [show (Int.ofNat (n + 1)) = ((n + 1 : Nat) : Int) from rfl]; omega
          have htn : (Int.ofNat (n + 1)).toNat = n + 1 := rfl
          have hva : (do if ← variablesAt ⟨r, base + o, none⟩ (← elemOf t) (n + 1) then (do
                let s ← loadBytes ⟨r, base + o, none⟩ .empty (n + 1)
                freeze ⟨r, base + o, none⟩ (n + 1)
                pure (.string s)) else unsupported (.unsafePointer "String: not so many bytes at ptr") : Sem Value).run P w = .ok (.string (ofBl s)) (w.freeze ⟨r, base + o, none⟩ (n + 1)) := by
            simp [variablesAt, hsh, elemOf, run_underlying ht1, hlies, hlb, ofBl]
          simp only [asInt, asIntOf, bind, pure, Sem.run_bind' P, Sem.run, Result.andThen, hneg, if_false, hmax, h63, hz, htn]
          simpa only [bind, pure, Sem.run_bind' P, Sem.run, Result.andThen] using hva
      | _ => cases h7
  · exact Sim.no
end
end Go.Cev
namespace Go.Cev
open Go.RowKit
/-! ### pointers seen without a type -/
noncomputable section
def bxA (b u n : Nat) : M Unit := fun W => match W.heap.get b with
  | some (.cells c k _) => cond (Nat.beq k.1 0 && Nat.beq k.2 (u + 1) && Nat.beq (len c) n && Nat.blt 0 n) (some ((), W)) none
  | _ => none
def cvA (tb : PT TyI) (i j : TyI) (v : Value) : M Value := match i.und, j.und, v with
  | .pointer t, .unsafePointer, .pointer (some a) => (tyI tb t).bd fun q => (M.ok (Nat.blt 0 q.size)).bd fun _ => (rd a).bd fun _ => .ret (.pointer (some a))
  | .unsafePointer, .pointer u, .pointer (some ⟨b, 0, none⟩) => (tyI tb u).bd fun q => (bxA b u q.size).bd fun _ => .ret (.pointer (some ⟨b, 0, none⟩))
  | _, _, v => .opt (convA i j v)
end
section
variable {P : Program} {H : Nat} {w0 : World} {ω : Om} {tb : PT TyI}
theorem liesAt_box {u : TypeId} (hc : P.cellsOf u ≠ 0) : liesAt P P.depth u (P.cellsOf u / P.cellsOf u) 0 u 1 = true := by
  have hd : P.depth = (2 * (P.types.size + Made.depth) + 1) + 1 := rfl
  rw [Nat.div_self (by omega), hd]
  simp only [liesAt, Bool.or_eq_true]
  left
  rw [hd]
  simp [rowAt, hc, sameLayout]
theorem sim_cv (ht : TbOk P tb) {s d : TypeId} {i j : TyI} (hi : tb.get s = some i) (hj : tb.get d = some j) {v v' : Value} (h : VR ω v v') : Sim P H w0 ω (cvA tb i j v) (convert s d v') VR := by
  unfold cvA
  split
  · rename_i t a e1 e2
    cases h with
    | @ptr b r base o hb =>
      refine fun W w hw x W' hr => ?_
      obtain ⟨q, W1, h1, h2⟩ := bd_some hr
      obtain ⟨hq, z1⟩ := optS h1
      obtain ⟨u, W2, h3, h4⟩ := bd_some h2
      obtain ⟨h5, z2⟩ := okS h3
      obtain ⟨y, W3, h6, h7⟩ := bd_some h4
      rw [z2, z1] at h6
      have hq0 : 0 < q.size := by simpa [Nat.blt_eq] using h5
      obtain ⟨ob, o', q1, q2, q3⟩ := hw.obj _ _ _ hb
      unfold rd at h6
      simp only [q1] at h6
      cases q3 with
      | @cells _ cs dd k e fz fr q3 qf qk qt qe =>
        simp only [nth_eq] at h6
        cases hv : cs[o]? with
        | none => rw [hv] at h6; cases h6
        | some c0 =>
          rw [hv] at h6
          cases h6
          cases h7
          obtain ⟨v', g1, -⟩ := q3 o y hv
          have hlt := (List.getElem?_eq_some_iff.1 g1).1
          obtain ⟨p1, -⟩ := ht s i hi
          obtain ⟨p2, -⟩ := ht d j hj
          obtain ⟨-, info, p3, p4, -⟩ := ht t q hq
          rw [e1] at p1; rw [e2] at p2
          exact ⟨ω, _, w, Gr.refl ω _, Lib.run_to_unsafe w ⟨r, base + o, none⟩ p1 p2 p3 (by rw [p4]; omega) (e := e) (cells := dd.length) (by simp [World.shape?, q2]) hlt, hw, .ptr hb⟩
      | _ => cases h6
  · rename_i u b e1 e2
    cases h with
    | @ptr _ r base o hb =>
      refine fun W w hw x W' hr => ?_
      obtain ⟨q, W1, h1, h2⟩ := bd_some hr
      obtain ⟨hq, z1⟩ := optS h1
      obtain ⟨y, W2, h3, h4⟩ := bd_some h2
      rw [z1] at h3
      cases h4
      obtain ⟨ob, o', q1, q2, q3⟩ := hw.obj _ _ _ hb
      unfold bxA at h3
      simp only [q1] at h3
      cases q3 with
      | @cells _ cs dd k e fz fr q3 qf qk qt qe =>
        simp only [len_eq] at h3
        cases hc : (Nat.beq k.1 0 && Nat.beq k.2 (u + 1) && Nat.beq cs.length q.size && Nat.blt 0 q.size) with
        | false => rw [hc] at h3; cases h3
        | true =>
          rw [hc] at h3
          cases h3
          simp only [Bool.and_eq_true] at hc
          have c1 := Nat.eq_of_beq_eq_true hc.1.1.1
          have c2 := Nat.eq_of_beq_eq_true hc.1.1.2
          have c3 := Nat.eq_of_beq_eq_true hc.1.2
          have c4 : 0 < q.size := by simpa [Nat.blt_eq] using hc.2
          obtain ⟨rfl, hd⟩ := qe.2 c1
          have hee : u = e := by
            rcases qe.1 with h | h
            · exact absurd (c2.symm.trans h) (Nat.succ_ne_zero u)
            · exact Nat.succ.inj (c2.symm.trans h)
          subst hee
          obtain ⟨p1, -⟩ := ht s i hi
          obtain ⟨p2, -⟩ := ht d j hj
          obtain ⟨-, info, p3, p4, -⟩ := ht u q hq
          rw [e1] at p1; rw [e2] at p2
          have hce : P.cellsOf u = q.size := by
            unfold Program.cellsOf
            rw [p3]; exact p4
          have hlies : liesAt P P.depth u (dd.length / P.cellsOf u) 0 u 1 = true := by
            have : dd.length = P.cellsOf u := by rw [hce, hd, c3]
            rw [this]; exact liesAt_box (by rw [hce]; omega)
          refine ⟨ω, _, w, Gr.refl ω _, ?_, hw, .ptr (o := 0) hb⟩
          exact Lib.run_from_unsafe w ⟨r, 0 + 0, none⟩ p1 p2 p3 (e := u) (cells := dd.length) (by simp [World.shape?, q2]) hlies
      | _ => cases h3
  · rename_i _ _ v _ _
    exact sim_conv ht hi hj h
end
end Go.Cev
