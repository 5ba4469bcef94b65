/- Functions that write the slice of a caller anew. -/
import Derived.Test.YtmnponhhmkdcdaaDoorKRes
namespace Go.Kin
open Go RowKit
/-- a slice of the function's own is written anew, where it stands -/
theorem SatE.ownSet {C : Ctx} {E : Env} {s : Sy} {a : Act} {w w' : World} (h : SatE C E s a w) {d : Nat} (hd : d < s.N) {key : Nat} {ow0 ow : Ow} (h0 : s.O key = some ow0) {u : Value}
    (hos : w'.os = w.os) (htape : w'.tape = w.tape) (hout : w'.output = w.output) (hsz : w.heap.size ≤ w'.heap.size)
    (hblk : ∀ b, b < w.heap.size → (E.ω key).ownBlock ≠ some b → w'.heap[b]? = w.heap[b]?) (hown : OwnE E w' key ow) :
    SatE C E (apply (some d) ⟨.d (.v u), [], [(key, ow)], [], []⟩ s) (a.put (some d) u) w' := by
  have hs0 := h.hp.bel.size
  have hk : Keeps w E.Z w' E.Z := ⟨fun _ h => h, fun b hz => hblk b (h.hp.z b hz).1 fun e => (h.hp.ownN key ow0 b h0 e).2.1 hz⟩
  have hm : ∀ {svs : List SV} {us : List Value}, DenL E w svs us → DenL E w' svs us := fun hh => DenL.mono hk rfl rfl hh
  have hL : ∀ key' x, (apply (some d) ⟨.d (.v u), [], [(key, ow)], [], []⟩ s).L key' = some x → s.L key' = some x := fun key' x hx => by
    simpa [apply, klook, killE_nil] using hx
  have hO : ∀ key' x, (apply (some d) ⟨.d (.v u), [], [(key, ow)], [], []⟩ s).O key' = some x → (key' = key ∧ x = ow) ∨ (key' ≠ key ∧ s.O key' = some x) := fun key' x hx => by
    simp only [apply, klook] at hx
    by_cases hkd : key' = key
    · left; simp [hkd] at hx; exact ⟨hkd, hx.symm⟩
    · right; simp [hkd] at hx; exact ⟨hkd, hx⟩
  have hO0 : ∀ key' x, (apply (some d) ⟨.d (.v u), [], [(key, ow)], [], []⟩ s).O key' = some x → ∃ y, s.O key' = some y := fun key' x hx => by
    rcases hO key' x hx with ⟨rfl, _⟩ | ⟨_, h1⟩
    · exact ⟨_, h0⟩
    · exact ⟨_, h1⟩
  refine h.step (E' := E) (by rintro t ⟨⟩; exact hd) (r := ⟨.d (.v u), [], [(key, ow)], [], []⟩)
    (fun sv v hv => by rw [kill_nil]; exact DenV.mono hk rfl rfl hv) (by simp [DenV, RdV]) ?_ (fun b o hb' => ?_)
  rotate_left 1
  · obtain ⟨p1, p2, p3, p4, p5⟩ := h.pins b o hb'
    have hlt : b < w.heap.size := (Array.getElem?_eq_some_iff.1 p1).1
    refine ⟨(hblk b hlt (p5 key _ h0)).trans p1, p2, p3, fun key' x hx => p4 key' _ (hL key' x hx), fun key' x hx => ?_⟩
    obtain ⟨y, hy⟩ := hO0 key' x hx
    exact p5 key' y hy
  refine ⟨⟨hos.trans h.hp.bel.os, htape.trans h.hp.bel.tape, hout.trans h.hp.bel.output, Nat.le_trans hs0 hsz, fun b hb1 hb2 => (hblk b (by omega) fun e => ?_).trans (h.hp.bel.block b hb1 hb2)⟩,
    fun b hb => ?_, fun key' T cs he => ?_, fun key' x he => ?_, fun key1 key2 x x' he he' heq => ?_, fun key' o1 he => ?_, fun key' x g he hg => ?_, fun key1 key2 x x' g he he' hg hg' => ?_⟩
  · have := (h.hp.ownN key ow0 b h0 e).1; omega
  · have := h.hp.z b hb; exact ⟨Nat.lt_of_lt_of_le this.1 hsz, this.2⟩
  · have h1 := hL key' _ he
    obtain ⟨us, h2, h3⟩ := h.hp.loc key' _ _ h1
    exact ⟨us, (hblk _ (h.hp.lt h1) fun e => (h.hp.ownN key ow0 _ h0 e).2.2 key' _ h1 rfl).trans h2, hm h3⟩
  · exact h.hp.locN key' _ (hL key' _ he)
  · exact h.hp.locD key1 key2 _ _ (hL key1 _ he) (hL key2 _ he') heq
  · rcases hO key' _ he with ⟨rfl, e2⟩ | ⟨hne, hO1⟩
    · cases e2; exact hown
    · obtain ⟨g0, g1⟩ := h.hp.own key' o1 hO1
      refine ⟨g0, g1.imp id ?_⟩
      rintro ⟨g, cap, us, h2, h3, h4, h5, h6, h7⟩
      exact ⟨g, cap, us, h2, h3, h4, (hblk g (Array.getElem?_eq_some_iff.1 h5).1 fun e => hne (h.hp.ownD key' key _ _ g hO1 h0 (by rw [h2]; rfl) e)).trans h5, h6, fun i hi => (h7 i hi).mono hk⟩
  · obtain ⟨y, hy⟩ := hO0 key' x he
    obtain ⟨q1, q2, q3⟩ := h.hp.ownN key' y g hy hg
    exact ⟨q1, q2, fun k2 e2 he2 => q3 k2 e2 (hL k2 _ he2)⟩
  · obtain ⟨y, hy⟩ := hO0 key1 x he
    obtain ⟨y', hy'⟩ := hO0 key2 x' he'
    exact h.hp.ownD key1 key2 y y' g hy hy' hg hg'
/-- a function that writes a slice of the caller's own anew, and nothing else that is there -/
def FnIn (I : World → Prop) (P : Program) (f : FuncId) (ow0 ow : Ow) (rest : List D) : Prop :=
  Enters P f ∧ ∀ (w : World) (Z : Nat → Prop) (v : Value) (vs : List Value), I w → (∀ w' : World, w'.os = w.os → w'.tape = w.tape → w'.output = w.output → w.heap.size ≤ w'.heap.size → (∀ b, b < w.heap.size → v.ownBlock ≠ some b → w'.heap[b]? = w.heap[b]?) → I w') →
    (∀ b, Z b → b < w.heap.size) → OwnE ⟨fun _ => 0, fun _ => v, Z⟩ w 0 ow0 → (∀ g, v.ownBlock = some g → ¬ Z g) → RdL w Z rest vs →
    Calls P f (v :: vs).toArray w fun e w' => e = .returned (.tuple #[]) ∧ w'.os = w.os ∧ w'.tape = w.tape ∧ w'.output = w.output ∧ w.heap.size ≤ w'.heap.size ∧
      (∀ b, b < w.heap.size → v.ownBlock ≠ some b → w'.heap[b]? = w.heap[b]?) ∧ OwnE ⟨fun _ => 0, fun _ => v, Z⟩ w' 0 ow
section
variable {I : World → Prop} {P : Program} {C : Ctx} {o : Oper} {s : Sy}
theorem ok_callIn (hI : ∀ w, BelM C w → I w) {f x : Operand} {args : Array Operand} {rest : List Operand} {ts : Array TypeId} {g : FuncId} {caps ds : List D} {d key : Nat} {ow0 ow : Ow} (ho : o.op = .call { callee := .value f, args := args, argTypes := ts }) (hargs0 : args.toList = x :: rest) (hdst : o.dst = some d) (ht : d < s.N)
    (hf : evalO s.S f = some (.d (.fn g caps))) (hx : evalO s.S x = some (.own key)) (hO : s.O key = some ow0) (hargs : argsD s.S rest = some ds) (h : FnIn I P g ow0 ow (ds ++ caps)) : Ok1 P C o s ⟨.d (.v (.tuple #[])), [], [(key, ow)], [], []⟩ := by
  refine ⟨by simp [ho], fun s' hext a w ⟨E, hE⟩ => ?_⟩
  have hxm : x ∈ args.toList := by rw [hargs0]; exact List.mem_cons_self
  have hfv := hext.ev hE (x := f) (by simp [ho, Op.operands, Call.operands]) hf
  have hxv := hext.ev hE (x := x) (by simp [ho, Op.operands, Call.operands]; right; simpa using hxm) hx
  have hav := argsD_den hext hE (l := rest) (fun y hy => by
    have : y ∈ args.toList := by rw [hargs0]; exact List.mem_cons_of_mem _ hy
    simp [ho, Op.operands, Call.operands]; right; simpa using this) hargs
  simp only [DenV, RdV] at hfv hxv
  obtain ⟨cs, e1, h1⟩ := hfv
  have hO' : s'.O key = some ow0 := by rw [hext.o key (by rw [hO]; simp)]; exact hO
  have hr : (execOp a.eval o).run P w = .ok (.enter g (a.eval x :: (rest.map a.eval ++ cs)).toArray) w := by
    have : (args.map a.eval ++ cs.toArray) = (a.eval x :: (rest.map a.eval ++ cs)).toArray := Array.ext' (by simp [hargs0])
    simp [execOp, ho, resolve, e1, Deferred.ofValue, invoke, h.1.run, this]
  have hc := h.2 w E.Z (a.eval x) (rest.map a.eval ++ cs) (hI w hE.hp.bel) (fun w' q1 q2 q3 q4 q5 => hI w' ⟨q1.trans hE.hp.bel.os, q2.trans hE.hp.bel.tape, q3.trans hE.hp.bel.output, Nat.le_trans hE.hp.bel.size q4, fun b hb1 hb2 => (q5 b (Nat.lt_of_lt_of_le hb1 hE.hp.bel.size) fun e => by
    have := (hE.hp.ownN key ow0 b hO' (by rw [← hxv]; exact e)).1; omega).trans (hE.hp.bel.block b hb1 hb2)⟩) (fun b hb => (hE.hp.z b hb).1) ((hE.hp.own key ow0 hO').to (by simp [hxv]) (fun _ h => h)) (fun g' hg' => (hE.hp.ownN key ow0 g' hO' (by rw [← hxv]; exact hg')).2.1) (RdL_append hav h1)
  unfold gives
  rw [hr]
  refine hc.mono ?_
  rintro e w' ⟨rfl, q1, q2, q3, q4, q5, q6⟩
  refine ⟨_, rfl, ?_⟩
  rw [hdst]
  exact ⟨E, hE.ownSet (by rw [hext.n]; exact ht) hO' q1 q2 q3 q4 (fun b hb hne => q5 b hb (by rw [hxv]; exact hne)) (q6.to (by simp [hxv]) (fun _ h => h))⟩
end
theorem kcallIn {P : Program} {C : Ctx} {te : TE} {I : World → Prop} {ops : Array Oper} {i : Nat} {ds : List (Option Tmp)} {o : Oper} {r : List Oper} {st : Stt} {Q : Sy → Prop} (hI : ∀ w, BelM C w → I w) (hte : TEok P te) (hg : o.guard = none) {d : Nat} (hdst : o.dst = some d) (hd : dstOk o st.N = true) {f x : Operand} {args : Array Operand} {rest : List Operand} {ts : Array TypeId} {g : FuncId} {caps xs all : List D} {key : Nat} {ow0 ow ow1 : Ow}
    (ho : o.op = .call { callee := .value f, args := args, argTypes := ts }) (hargs0 : args.toList = x :: rest) (hf : evalO (fun t => klook t st.S) f = some (.d (.fn g caps))) (hx : evalO (fun t => klook t st.S) x = some (.own key)) (hO : klook key st.O = some ow1) (hargs : argsD (fun t => klook t st.S) rest = some xs) (hall : xs ++ caps = all)
    (h : FnIn I P g ow0 ow all) (he : ow1 = ow0) (hr : runL P C te ops (i + 1) (o.dst :: ds) r (applyL o.dst ⟨.d (.v (.tuple #[])), [], [(key, ow)], [], []⟩ st) Q) : WalkI P C ops i ds (o :: r) st.sy Q := by
  subst hall
  subst he
  exact walkI_step (fun ops _ => ok2_run (ok_callIn hI ho hargs0 hdst (dstOk_spec hd d hdst) hf hx hO hargs h) (by simp [wantS, hg])) (runL_walk hte hr)
end Go.Kin
