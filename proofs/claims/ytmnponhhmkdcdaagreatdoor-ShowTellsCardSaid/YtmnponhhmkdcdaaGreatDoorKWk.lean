/- Contracts of functions of the seat, walked. -/
import Derived.Test.YtmnponhhmkdcdaaGreatDoorKCall
namespace Go.Kin
/-! ### a walk within a walk: boxes forgotten, names changed twice -/
theorem Sat.weakL {C : Ctx} {s : Stt} {L' : List (Nat × TypeId × List SV)} {a : Act} {w : World} (hL : LeL s.L L') (h : Sat C s.sy a w) : Sat C (Stt.mk s.N s.df s.S L' s.O s.fz s.pin).sy a w := by
  obtain ⟨E, hE⟩ := h
  refine ⟨E, hE.sz, hE.df, hE.slots, ⟨hE.hp.bel, hE.hp.z, fun key T cs hk => ?_, fun key e hk => ?_, fun key key' e e' hk hk' heq => ?_, hE.hp.own, fun key e g hk hg => ?_, hE.hp.ownD⟩, fun b o hb => ?_, hE.waits⟩
  · obtain ⟨xs, h1, h2⟩ := LeL_look hL hk
    obtain ⟨vs, h3, h4⟩ := hE.hp.loc key T xs h1
    exact ⟨vs, h3, h2.den h4⟩
  · obtain ⟨T, ys⟩ := e
    obtain ⟨xs, h1, h2⟩ := LeL_look hL hk
    exact hE.hp.locN key _ h1
  · obtain ⟨T, ys⟩ := e
    obtain ⟨T', ys'⟩ := e'
    obtain ⟨xs, h1, _⟩ := LeL_look hL hk
    obtain ⟨xs', h1', _⟩ := LeL_look hL hk'
    exact hE.hp.locD key key' _ _ h1 h1' heq
  · have h2 := hE.hp.ownN key e g hk hg
    refine ⟨h2.1, h2.2.1, fun key' e' hk' => ?_⟩
    obtain ⟨T, ys⟩ := e'
    obtain ⟨xs, h3, _⟩ := LeL_look hL hk'
    exact h2.2.2 key' _ h3
  · obtain ⟨p1, p2, p3, p4, p5⟩ := hE.pins b o hb
    refine ⟨p1, p2, p3, fun key e he => ?_, p5⟩
    obtain ⟨T, ys⟩ := e
    obtain ⟨xs, h3, _⟩ := LeL_look hL he
    exact p4 key _ h3
theorem Exec.weakL {R : Rn} {k : List Item} {s : Stt} (L' : List (Nat × TypeId × List SV)) (hL : LeL s.L L') (h : Exec R k (Stt.mk s.N s.df s.S L' s.O s.fz s.pin).sy) : Exec R k s.sy :=
  fun a w hs => h a w (hs.weakL hL)
mutual
theorem renV_renV (π : Swp) : ∀ sv : SV, renV π (renV π sv) = sv
  | .d d => rfl
  | .lp k o => by simp [renV, π.inv]
  | .own k => by simp [renV, π.inv]
  | .oa k a b c => by simp [renV, π.inv]
  | .fn f cs => by simp [renV, renL_renL π cs]
  | .op p sv => by simp [renV, renV_renV π sv]
  | .junk => rfl
theorem renL_renL (π : Swp) : ∀ l : List SV, renL π (renL π l) = l
  | [] => rfl
  | x :: r => by simp [renL, renV_renV π x, renL_renL π r]
end
theorem renS_renS (π : Swp) : ∀ l : List (Nat × SV), renS π (renS π l) = l
  | [] => rfl
  | (t, v) :: r => by simp [renS, renV_renV, renS_renS π r]
theorem renF_renF (π : Swp) : ∀ l : List (Act × List (Nat × SV)), renF π (renF π l) = l
  | [] => rfl
  | (a, S) :: r => by simp [renF, renS_renS, renF_renF π r]
end Go.Kin
