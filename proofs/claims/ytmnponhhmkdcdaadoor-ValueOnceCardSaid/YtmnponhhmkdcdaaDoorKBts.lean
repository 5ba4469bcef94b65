/- A slice of one byte, taken as a string. -/
import Derived.Test.YtmnponhhmkdcdaaDoorKIter
import Derived.Laws.BytesString
import Derived.Laws.Cells
namespace Go.Kin
open Go
section
variable {P : Program} {C : Ctx} {o : Oper} {s : Sy}
/-- a slice of one byte, taken as a string -/
theorem ok_bts {t t' e : TypeId} {x : Operand} {key : Nat} {ow : Ow} {n : Int} {i j l : TyI} (ho : o.op = .convert t t' x) (ht : ∀ t, o.dst = some t → t < s.N) (hi : TyOk P t i) (hu : i.u = .slice e) (hj : TyOk P e j) (hju : j.u = .int .u8) (hl : TyOk P t' l) (hlu : l.u = .string)
    (hx : evalO s.S x = some (.own key)) (hO : s.O key = some ow) (hk : ow.k = 1) (hn : ow.n = 1) (hr : ow.row 0 = [.v (.int .u8 n)]) : Ok1 P C o s ⟨.d (.v (.string (ByteArray.empty.push (UInt8.ofNat n.toNat)))), [], [], [], []⟩ := by
  refine ok_val (by simp [ho]) ht fun s' E a w hext hE => ?_
  have h := hext.ev hE (x := x) (by simp [ho, Op.operands]) hx
  simp only [DenV] at h
  obtain ⟨⟨_, h3, _⟩, h4⟩ := hE.hp.own key ow (by rw [hext.o key (by rw [hO]; simp)]; exact hO)
  have h1 := hi.under (w := w)
  have h2 := hl.under (w := w)
  have hun1 := hj.under (w := w)
  rw [hu] at h1; rw [hlu] at h2; rw [hju] at hun1
  rcases h4 with ⟨_, h4⟩ | ⟨g, cap, vs, h4, h5, _, h6, h7, h8⟩
  · omega
  · rw [h4] at h
    have h9 := h8 0 (by omega)
    rw [hr, hk] at h9
    simp only [RdL, RdV] at h9
    obtain ⟨v, vs', e1, rfl, rfl⟩ := h9
    have hc : w.cell? ((⟨g, 0, none⟩ : Addr).add 0) = some (.int .u8 n) := by
      have : vs[0]? = some (.int .u8 n) := by
        cases vs with
        | nil => simp at e1
        | cons v r => simp at e1; simp [e1]
      have e0 : (⟨g, 0, none⟩ : Addr).add 0 = ⟨g, 0, none⟩ := rfl
      rw [e0]; simp [World.cell?, h6, this]
    have hld := run_loadCells (P := P) w ⟨g, 0, none⟩ 1 (fun _ => .int .u8 n) (fun j hj => by
      have : j = 0 := by omega
      subst this; exact hc)
    have hb := run_bytesToString (P := P) w ⟨g, 0, none⟩ 1 cap [n] (by simpa using hld)
    refine ⟨.string (ByteArray.empty.push (UInt8.ofNat n.toNat)), ?_, by simp [DenV, RdV]⟩
    have : (convert t t' (.slice (some ⟨g, 0, none⟩) 1 cap)).run P w = .ok (.string (ByteArray.empty.push (UInt8.ofNat n.toNat))) w := by
      unfold convert
      simp only [Sem.run_bind, h1, h2, hun1, Result.andThen_ok]
      exact hb
    simp [execOp, ho, h, hn, this]
end
theorem kbts {P : Program} {C : Ctx} {te : TE} (hte : TEok P te) {ops : Array Oper} {q : Nat} {ds : List (Option Tmp)} {o : Oper} {r : List Oper} {st : Stt} {Q : Sy → Prop} (hg : o.guard = none) (hd : dstOk o st.N = true)
    {t t' e : TypeId} {x : Nat} {key : Nat} {ow : Ow} {n : Int} {i j l : TyI} (ho : o.op = .convert t t' (.tmp x)) (hi : klook t te = some i) (hu : i.u = .slice e) (hj : klook e te = some j) (hju : j.u = .int .u8) (hl : klook t' te = some l) (hlu : l.u = .string)
    (hx : klook x st.S = some (.own key)) (hO : klook key st.O = some ow) (hk : ow.k = 1) (hn : ow.n = 1) (hr : ow.row 0 = [.v (.int .u8 n)])
    (h : runL P C te ops (q + 1) (o.dst :: ds) r (applyL o.dst ⟨.d (.v (.string (ByteArray.empty.push (UInt8.ofNat n.toNat)))), [], [], [], []⟩ st) Q) : WalkI P C ops q ds (o :: r) st.sy Q :=
  walkI_step (fun ops _ => ok2_run (ok_bts ho (dstOk_spec hd) (hte _ _ hi) hu (hte _ _ hj) hju (hte _ _ hl) hlu hx hO hk hn hr) (by simp [wantS, hg])) (runL_walk hte h)
theorem kbtsX {P : Program} {C : Ctx} {te : TE} (hte : TEok P te) {ops : Array Oper} {q : Nat} {ds : List (Option Tmp)} {o : Oper} {r : List Oper} {st0 st : Stt} {Q : Sy → Prop} (hst : st0 = st) (hnone : step2 te q ds st o = none) (hg : o.guard = none) (hd : dstOk o st.N = true)
    {t t' e : TypeId} {x : Nat} {key : Nat} {ow : Ow} {n : Int} {i j l : TyI} (ho : o.op = .convert t t' (.tmp x)) (hi : klook t te = some i) (hu : i.u = .slice e) (hj : klook e te = some j) (hju : j.u = .int .u8) (hl : klook t' te = some l) (hlu : l.u = .string)
    (hx : klook x st.S = some (.own key)) (hO : klook key st.O = some ow) (hk : ow.k = 1) (hn : ow.n = 1) (hr : ow.row 0 = [.v (.int .u8 n)])
    (h : runL P C te ops (q + 1) (o.dst :: ds) r (applyL o.dst ⟨.d (.v (.string (mkS [UInt8.ofNat n.toNat]))), [], [], [], []⟩ st) Q) : runX P C te ops r q ds (step2 te q ds st0 o) o st0 Q := by
  subst hst
  rw [hnone, runX_none]
  exact kbts hte hg hd ho hi hu hj hju hl hlu hx hO hk hn hr h
end Go.Kin
