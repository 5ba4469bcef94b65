/- How often the tape was asked never sinks, step by step. -/
import Derived.StepT
import Derived.Control
import Derived.Calls
namespace Go.Kin
open Go
/-! how often the tape was asked never sinks -/
def rw' {α : Type} : Result α → World
  | .ok _ w => w
  | .halt _ w => w

theorem ask_dr {α : Type} : ∀ (q : Ask α) (w : World), w.drawn ≤ (w.ask q).2.drawn
  | .done a, w => Nat.le_refl _
  | .ask what range k, w => by
    simp only [World.ask]
    split
    · exact ask_dr (k 0) w
    · exact Nat.le_trans (Nat.le_succ _) (ask_dr _ { w with drawn := w.drawn + 1 })
theorem sys_dr (w : World) (c : Sys) : w.drawn ≤ (w.sys c).2.drawn := by
  have h := ask_dr (Kernel.perform c w.os) w
  unfold World.sys
  split
  · exact Nat.le_refl _
  · rename_i heq; rw [heq] at h; exact h
theorem far_dr {p : Program} {w w' : World} {a : Addr} {v : Value} {at_ : Bool} {l : List Addr} (h : w.farStore p a v at_ = .ok (w', l)) : w'.drawn = w.drawn := by
  unfold World.farStore at h
  split at h
  · split at h
    · rename_i heq
      cases h
      simp only [World.viewStore, bind, Except.bind, pure, Except.pure] at heq
      repeat' split at heq
      all_goals first | cases heq | skip
      all_goals first | rfl | (cases heq; rfl)
    · cases h
  · cases h
theorem setCell_dr (w : World) (a : Addr) (v : Value) : (w.setCell a v).drawn = w.drawn := rfl
theorem freeze_dr (w : World) (a : Addr) (n : Nat) : (w.freeze a n).drawn = w.drawn := by unfold World.freeze; split <;> rfl
theorem run_dr {α : Type} (p : Program) : ∀ (s : Sem α) (w : World), w.drawn ≤ (rw' (s.run p w)).drawn
  | .pure a, w => Nat.le_refl _
  | .load m a k, w => by
    simp only [Sem.run]
    split
    · exact run_dr p _ w
    · split
      · exact run_dr p _ w
      · exact Nat.le_refl _
  | .store m a v k, w => by
    have hk := run_dr p k
    cases v <;> simp only [Sem.run] <;> first | exact Nat.le_refl _ | skip
    all_goals
      split
      · split
        · exact Nat.le_refl _
        · refine Nat.le_trans ?_ (hk _); exact Nat.le_refl _
      · split
        · rename_i heq
          have := far_dr heq
          rw [← this]; exact hk _
        · exact Nat.le_refl _
  | .new o k, w => by
    simp only [Sem.run]; exact run_dr p (k w.heap.size) { w with heap := w.heap.push o }
  | .shape r k, w => by simp only [Sem.run]; exact run_dr p _ w
  | .freeze a n k, w => by
    simp only [Sem.run]
    have := run_dr p k (w.freeze a n)
    rwa [freeze_dr] at this
  | .frozen a k, w => by simp only [Sem.run]; exact run_dr p _ w
  | .getObj r k, w => by
    simp only [Sem.run]
    split
    · exact Nat.le_refl _
    · exact run_dr p _ w
    · exact Nat.le_refl _
  | .setObj r o k, w => by
    simp only [Sem.run]
    split
    · exact Nat.le_refl _
    · exact run_dr p k { w with heap := w.heap.setIfInBounds r o }
    · exact Nat.le_refl _
  | .choose q k, w => by
    simp only [Sem.run]
    split
    · exact run_dr p _ w
    · exact Nat.le_trans (Nat.le_succ _) (run_dr p _ { w with drawn := w.drawn + 1 })
  | .sys c k, w => by simp only [Sem.run]; exact Nat.le_trans (sys_dr w c) (run_dr p _ _)
  | .program k, w => by simp only [Sem.run]; exact run_dr p _ w
  | .mark m k, w => by simp only [Sem.run]; exact run_dr p _ w
  | .halt h, w => Nat.le_refl _
theorem run_ok {α : Type} {p : Program} {s : Sem α} {w w' : World} {x : α} (h : s.run p w = .ok x w') : w.drawn ≤ w'.drawn := by
  have := run_dr p s w; rwa [h] at this
theorem run_halt {α : Type} {p : Program} {s : Sem α} {w w' : World} {x : Halt} (h : s.run p w = .halt x w') : w.drawn ≤ w'.drawn := by
  have := run_dr p s w; rwa [h] at this

def gw : GStep → World
  | .go _ w _ => w
  | .comm _ _ _ _ w _ => w
  | .spawn _ _ w _ => w
  | .count _ w _ => w
  | .timer _ _ w _ => w
  | .alone _ _ w _ => w
  | .newcoro _ _ _ w _ => w
  | .coroswitch _ _ _ w _ => w
  | .collect _ w _ => w
  | .watch _ w _ => w
  | .ended _ w _ => w
theorem gw_after (es : Array Event) (s : GStep) : gw (s.after es) = gw s := by cases s <;> rfl

theorem run_okT {α : Type} {p : Program} {s : Sem α} {w w' : World} {x : α} {e e' : Array Event} (h : s.runT p w e = (.ok x w', e')) : w.drawn ≤ w'.drawn := run_ok ((Sem.runT_fst p s w e).symm.trans (congrArg Prod.fst h))
theorem run_haltT {α : Type} {p : Program} {s : Sem α} {w w' : World} {x : Halt} {e e' : Array Event} (h : s.runT p w e = (.halt x w', e')) : w.drawn ≤ w'.drawn := run_halt ((Sem.runT_fst p s w e).symm.trans (congrArg Prod.fst h))
theorem endWith_dr (w : World) (fd : Nat) (text : ByteArray) (o : Outcome) : w.drawn ≤ (gw (endWith w fd text o)).drawn := by
  have h := sys_dr w (.write fd text)
  unfold endWith
  generalize w.sys (.write fd text) = r at h
  obtain ⟨r, w'⟩ := r
  cases r <;> dsimp only at h ⊢
  all_goals first | exact h | skip
  split <;> exact h
theorem endPrinting_dr (p : Program) (fr : Frame) (v : Value) (w : World) : w.drawn ≤ (gw (endPrinting p fr v w)).drawn := by
  unfold endPrinting
  dsimp only
  split <;> exact Nat.le_refl _
theorem endFatal_dr (p : Program) (fr : Frame) (cs : List Frame) (dy : Option Dying) (m : String) (w : World) : w.drawn ≤ (gw (endFatal p fr cs dy m w)).drawn := by
  unfold endFatal
  extract_lets chain raw shown
  split
  · rename_i heq; exact run_ok heq
  · rename_i heq; exact run_halt heq
  · rename_i heq; exact run_halt heq
theorem writeOn_dr (p : Program) (fr : Frame) (d : Dying) (f : Fatal) (w : World) : w.drawn ≤ (gw (writeOn p fr d f w)).drawn := by
  unfold writeOn
  extract_lets on
  split
  · exact Nat.le_refl _
  · extract_lets write
    split
    all_goals (rename_i heq; first | exact run_okT heq | exact run_haltT heq)
theorem die_dr (p : Program) (fr : Frame) (d : Dying) (w : World) : w.drawn ≤ (gw (die p fr d w)).drawn := by
  unfold die
  split
  · exact writeOn_dr p fr d _ w
  · split
    · split
      · exact Nat.le_refl _
      · exact endWith_dr ..
    · extract_lets d'
      split
      · exact Nat.le_refl _
      · split
        all_goals (rename_i heq; first | exact run_ok heq | exact run_halt heq)
      · dsimp only
        rw [gw_after]
        split
        all_goals first
          | exact Nat.le_refl _
          | (rename_i heq; first | exact run_ok ((Sem.runT_fst ..).symm.trans heq) | exact run_halt ((Sem.runT_fst ..).symm.trans heq) | exact Nat.le_trans (run_halt ((Sem.runT_fst ..).symm.trans heq)) (endPrinting_dr ..))
      · exact Nat.le_refl _
theorem doReturn_dr (p : Program) (main : Bool) (fr : Frame) (cs : List Frame) (dy : Option Dying) (v : Value) (w : World) : gw (doReturn p main fr cs dy v w) = w := by
  unfold doReturn
  split
  · split <;> rfl
  · split
    · rfl
    · rfl
    · split
      · rfl
      · split <;> rfl
theorem runF {α : Type} {p : Program} {s : Sem α} {w w' : World} {x : α} {e : Array Event} (h : (s.runT p w e).1 = .ok x w') : w.drawn ≤ w'.drawn := run_ok ((Sem.runT_fst ..).symm.trans h)
theorem runH {α : Type} {p : Program} {s : Sem α} {w w' : World} {x : Halt} {e : Array Event} (h : (s.runT p w e).1 = .halt x w') : w.drawn ≤ w'.drawn := run_halt ((Sem.runT_fst ..).symm.trans h)
theorem ite_dr {w : World} {c : Bool} {x y : GStep} (h1 : w.drawn ≤ (gw x).drawn) (h2 : w.drawn ≤ (gw y).drawn) : w.drawn ≤ (gw (if c = true then x else y)).drawn := by split <;> assumption
theorem callDeferred_dr (p : Program) (fr : Frame) (cs : List Frame) (dy : Option Dying) (d : Deferred) (w : World) : w.drawn ≤ (gw (callDeferred p fr cs dy d w)).drawn := by
  unfold callDeferred
  refine ite_dr (Nat.le_refl _) ?_
  dsimp only
  rw [gw_after]
  generalize hr : (Sem.runT p (invoke d.target d.args) w #[]).1 = r
  have h0 := run_dr p (invoke d.target d.args) w
  rw [← Sem.runT_fst p _ w #[], hr] at h0
  clear hr
  split
  all_goals first
    | exact h0
    | (split <;> exact h0)
    | exact Nat.le_trans h0 (endFatal_dr ..)
theorem unwind_dr (p : Program) (main : Bool) (fr : Frame) (cs : List Frame) (dy : Option Dying) (w : World) : w.drawn ≤ (gw (unwind p main fr cs dy w)).drawn := by
  unfold unwind
  split
  · dsimp only
    rw [gw_after]
    split <;> rename_i heq
    · exact runF heq
    · exact runH heq
  · exact callDeferred_dr ..
  · split
    · exact Nat.le_refl _
    · split
      · exact Nat.le_refl _
      · split
        · exact Nat.le_refl _
        · split
          · split
            · exact Nat.le_refl _
            · split <;> rename_i heq
              · exact run_ok heq
              · exact run_halt heq
              · exact run_halt heq
          · split
            · exact endPrinting_dr ..
            · exact Nat.le_refl _
    · split
      · rw [doReturn_dr]; exact Nat.le_refl _
      · dsimp only
        rw [gw_after]
        split <;> rename_i heq
        · rw [doReturn_dr]; exact runF heq
        · exact runH heq
        · exact runH heq
theorem early_dr (p : Program) (fr : Frame) (cs : List Frame) (dy : Option Dying) (g : Nat) (w : World) : w.drawn ≤ (gw (early p fr cs dy g w)).drawn := by
  unfold early
  extract_lets refuse notYet
  have hn : ∀ w0, (gw (notYet w0)).drawn = w0.drawn := fun w0 => by
    show (gw (match w0.heap[g]? with
      | some (.pending c elem) => .go { frame := fr, callers := cs, status := .running, dying := dy } { w0 with heap := w0.heap.setIfInBounds g (.cells c elem) }
      | _ => .ended (.stuck "early: the variable does not wait" (fr.pos p)) w0)).drawn = _
    split <;> rfl
  split
  · rw [hn]; exact Nat.le_refl _
  · split
    · exact Nat.le_refl _
    · extract_lets there
      have ht : ∀ w0, (gw (there w0)).drawn = w0.drawn := fun w0 => rfl
      clear_value there notYet
      repeat' split
      all_goals first
        | (rw [hn]; exact Nat.le_refl _)
        | (rw [ht]; exact Nat.le_refl _)
        | exact Nat.le_refl _
        | (rename_i heq; rw [hn]; exact run_ok heq)
        | (rename_i heq; rw [ht]; exact run_ok heq)
        | (rename_i heq; exact run_halt heq)
theorem apply_dr (p : Program) (listen : Bool) (fr : Frame) (cs : List Frame) (dy : Option Dying) (s : Sem Next) (w : World) : w.drawn ≤ (gw (stepG.apply p listen fr cs dy s w)).drawn := by
  unfold stepG.apply
  extract_lets go kind
  have hgo : ∀ f w', gw (go f w') = w' := fun _ _ => rfl
  clear_value go kind
  have h0 : w.drawn ≤ (rw' (if listen then s.runT p w #[] else (s.run p w, #[])).1).drawn := by
    split
    · rw [Sem.runT_fst]; exact run_dr p s w
    · exact run_dr p s w
  generalize (if listen then s.runT p w #[] else (s.run p w, #[])) = re at h0
  obtain ⟨r, es⟩ := re
  dsimp only at h0 ⊢
  rw [gw_after]
  split
  all_goals first
    | exact h0
    | (rw [hgo]; exact h0)
    | exact Nat.le_trans h0 (endFatal_dr ..)
    | exact Nat.le_trans h0 (early_dr ..)
    | exact ite_dr h0 h0
    | (split <;> first | exact h0 | (rw [hgo]; exact h0))
theorem oper_dr (p : Program) (listen : Bool) (fr : Frame) (cs : List Frame) (dy : Option Dying) (w : World) : w.drawn ≤ (gw (stepG.oper p listen fr cs dy w)).drawn := by
  unfold stepG.oper
  split
  · exact Nat.le_refl _
  · split
    · exact apply_dr ..
    · exact apply_dr ..
theorem exec_dr (p : Program) (main : Bool) (listen : Bool) (fr : Frame) (cs : List Frame) (dy : Option Dying) (w : World) : w.drawn ≤ (gw (stepG.exec p main listen fr cs dy w)).drawn := by
  unfold stepG.exec
  extract_lets go to lost leave
  have hgo : ∀ f w', gw (go f w') = w' := fun _ _ => rfl
  have hto : ∀ k, gw (to k) = w := fun _ => rfl
  have hlost : ∀ k, gw (lost k) = w := fun _ => rfl
  have hleave : ∀ j, w.drawn ≤ (gw (leave j)).drawn := fun j => by
    show w.drawn ≤ (gw (match fr.roundOf with
      | none => if j matches none | some .ret then go { fr with mode := .returning } w else lost "exit, goto: no such block or label"
      | some l => GStep.after (seen p fr.fn ((Instr.endRound l j).runT p w #[]).2) <| match ((Instr.endRound l j).runT p w #[]).1 with
        | .ok v w => doReturn p main fr cs dy v w
        | .halt _ w => .ended (.stuck "range over a function: no such loop" (fr.pos p)) w)).drawn
    split
    · refine ite_dr ?_ ?_
      · rw [hgo]; exact Nat.le_refl _
      · rw [hlost]; exact Nat.le_refl _
    · rw [gw_after]
      split <;> rename_i heq
      · rw [doReturn_dr]; exact runF heq
      · exact runH heq
  clear_value go to lost leave
  split
  all_goals first
    | exact hleave _
    | (rw [hto]; exact Nat.le_refl _)
    | exact apply_dr ..
    | exact Nat.le_refl _
    | (split <;> first | (rw [hto]; exact Nat.le_refl _) | (rw [hlost]; exact Nat.le_refl _))
    | skip
  · rename_i id k _
    cases exitTo id k with
    | none => exact hleave _
    | some k' => show _ ≤ (gw (to k')).drawn; rw [hto]; exact Nat.le_refl _
  · rename_i l k _
    cases gotoIn l k with
    | none => exact hleave _
    | some k' => show _ ≤ (gw (to k')).drawn; rw [hto]; exact Nat.le_refl _
  · dsimp only
    rw [gw_after]
    split <;> rename_i heq
    · exact Nat.le_trans (runF heq) (apply_dr ..)
    · exact runH heq
  · dsimp only
    rw [gw_after]
    split <;> rename_i heq
    · rw [hgo]; exact runF heq
    · rw [hgo]; exact runH heq
    · exact runH heq
  · rename_i row _ _ _
    cases Extern.next row with
    | none => show _ ≤ (gw (lost _)).drawn; rw [hlost]; exact Nat.le_refl _
    | some e => exact apply_dr ..
  · refine ite_dr ?_ ?_
    · rw [hto]; exact Nat.le_refl _
    · split <;> rename_i heq
      · rw [hgo]; exact run_ok heq
      · exact run_halt heq
  · refine ite_dr (oper_dr ..) ?_
    rw [hgo]; exact Nat.le_refl _
theorem stepG_dr (p : Program) (main : Bool) (g : Goroutine) (w : World) (listen : Bool) : w.drawn ≤ (gw (stepG p main g w listen)).drawn := by
  unfold stepG
  dsimp only
  split
  · exact die_dr ..
  · exact exec_dr ..
  · exact unwind_dr ..
/-- where a machine's step leads -/
def sw : Stepped → World
  | .next m => m.world
  | .ended _ w => w
theorem withPoller_dr (w : World) (os : Os) : ({ w with os := os } : World).drawn = w.drawn := rfl
theorem waiting_dr {rest : Rest} {cases : Array CommCase} {w w' : World} (h : waitingAt rest cases w = some w') : w'.drawn = w.drawn := by
  unfold waitingAt at h
  split at h
  · split at h
    · cases h; rfl
    · cases h
  · cases h; rfl
theorem comm_dr (p : Program) (rest : Rest) (gs : Array Goroutine) (i : Nat) (g : Goroutine) (cases : Array CommCase) (blocking : Bool) (shape : CommShape) (w : World) :
    w.drawn ≤ (sw (communicate p rest gs i g cases blocking shape w).1).drawn := by
  unfold communicate
  extract_lets put illMade me other ready pick
  have hput : ∀ g gs w' ops, sw (put g gs w' ops).1 = w' := fun _ _ _ _ => rfl
  clear_value put
  split
  · exact Nat.le_refl _
  · split
    · split
      · split
        · rename_i heq; exact Nat.le_of_eq (waiting_dr heq).symm
        · exact Nat.le_refl _
      · rw [hput]; exact Nat.le_refl _
    · split
      · rename_i heq; exact run_halt heq
      · rename_i heq
        have h0 := run_ok heq
        extract_lets r
        clear_value r
        split
        all_goals first
          | exact h0
          | (rw [hput]; exact h0)
          | skip
        · split
          · rename_i heq2; rw [hput]; exact Nat.le_trans h0 (run_halt heq2)
          · exact h0
        · extract_lets v buf
          split
          · rw [hput]; exact h0
          · split
            · rename_i heq2
              dsimp only
              rw [hput]
              have h1 := Nat.le_trans h0 (run_ok heq2)
              exact h1
            · rename_i heq2; exact Nat.le_trans h0 (run_halt heq2)
theorem look_dr (p : Program) (gs : Array Goroutine) (rest : Rest) (w : World) : w.drawn ≤ (sw (look p gs rest w)).drawn := by
  unfold look
  split
  · extract_lets
    split
    rename_i heq0
    dsimp only
    split
    · exact Nat.le_refl _
    · split
      · exact Nat.le_refl _
      · split
        all_goals (rename_i heq; first | (have h1 := run_ok heq; exact h1) | (have h1 := run_halt heq; exact h1))
  · exact Nat.le_refl _
theorem serve_dr (p : Program) (m : Machine) (k : Nat) : m.world.drawn ≤ (sw (serve p m k)).drawn := by
  unfold serve
  split
  · exact Nat.le_refl _
  · exact Nat.le_refl _
  · extract_lets
    split <;> exact Nat.le_refl _
theorem drain_dr (w : World) (c : Nat) : (drain w c).2.drawn = w.drawn := by unfold drain; split <;> rfl
theorem retime_dr (m : Machine) (k : Nat) (t : Timer) (x y : Nat) : (retime m k t x y).2.world.drawn = m.world.drawn := by
  unfold retime
  dsimp only
  split
  · exact drain_dr ..
  · rfl
theorem timer_dr {m m' : Machine} {op : TimerOp} {v : Value} (h : timerOp m op = .ok (v, m')) : m'.world.drawn = m.world.drawn := by
  have hnm : ∀ (m : Machine) (n : Nat) var (f : Nat → Timer → Value × Machine), (∀ k t, (f k t).2.world.drawn = n) → timerOp.named m var f = .ok (v, m') → m'.world.drawn = n := fun m n var f hf h => by
    unfold timerOp.named at h
    split at h
    · have e := Except.ok.inj h
      rw [← hf, e]
    · cases h
  unfold timerOp at h
  split at h
  · split at h
    · cases h; rfl
    · split at h
      · split at h
        · cases h
        · cases h; rfl
      · cases h
  · refine hnm _ _ _ _ ?_ h
    intro k t; exact retime_dr ..
  · split at h
    · rename_i heq
      refine hnm _ _ _ _ ?_ h
      intro k t
      rw [retime_dr]
      unfold timerOp.opened at heq
      split at heq
      · split at heq
        · cases heq; rfl
        · cases heq
      · cases heq; rfl
    · cases h
  · cases h; rfl
theorem endThrow_gw (fr : Frame) (m : String) (w : World) : gw (endThrow fr m w) = w := rfl
theorem runT_dr (p : Program) (m : Machine) (i : Nat) (listen : Bool) : m.world.drawn ≤ (sw (runT p m i listen).1).drawn := by
  unfold runT
  dsimp only
  generalize m.gs.swapAt! i { (default : Goroutine) with status := .finished } = gg
  obtain ⟨g, gs⟩ := gg
  dsimp only
  have h0 := stepG_dr p (i == 0) g m.world listen
  generalize stepG p (i == 0) g m.world listen = s at h0
  cases s <;> dsimp only
  all_goals first
    | exact h0
    | exact Nat.le_trans h0 (comm_dr ..)
    | exact Nat.le_trans h0 (look_dr ..)
    | skip
  · split
    · exact h0
    · exact h0
  · split
    · rename_i heq
      have h1 := timer_dr heq
      show _ ≤ (_ : World).drawn
      exact Nat.le_trans h0 (Nat.le_of_eq h1.symm)
    · exact h0
    · exact h0
    · exact h0
  · split
    · exact h0
    · exact h0
    · exact h0
def NextGe (n : Nat) : Stepped → Prop
  | .next m => n ≤ m.world.drawn
  | .ended _ _ => True
def MvGe (n : Nat) : Move → Prop
  | .goroutine m _ => n ≤ m.world.drawn
  | .machine s _ => NextGe n s
theorem NextGe.of {n : Nat} {s : Stepped} (h : n ≤ (sw s).drawn) : NextGe n s := by
  cases s with
  | next m => exact h
  | ended => exact trivial
theorem ask_on_dr (p : Program) (m : Machine) : MvGe m.world.drawn (askOn p m) := by
  unfold askOn
  extract_lets mono rs ds pick
  have hpick : ∀ m0 : Machine, m.world.drawn ≤ m0.world.drawn → MvGe m.world.drawn (pick m0) := fun m0 h0 => by
    show MvGe m.world.drawn (match (choose (.sched rs.length)).run p m0.world with
      | .halt _ w => Move.machine (.ended (.stuck "sched" "") w)
      | .ok k world =>
        if rs.length ≤ 1 then .goroutine { m0 with world } (rs.getD k 0) else
        match (choose (.extern "sched.slice" 65536)).run p world with
        | .halt _ w => .machine (.ended (.stuck "sched.slice" "") w)
        | .ok n world => .goroutine { m0 with world, rest := { m0.rest with slice := if n = 0 then none else some (rs.getD k 0, n) } } (rs.getD k 0))
    cases h1 : (choose (.sched rs.length)).run p m0.world with
    | halt x w => exact trivial
    | ok k w =>
      have g1 := Nat.le_trans h0 (run_ok h1)
      dsimp only
      by_cases hl : rs.length ≤ 1
      · rw [if_pos hl]; exact g1
      · rw [if_neg hl]
        cases h2 : (choose (.extern "sched.slice" 65536)).run p w with
        | halt x w2 => exact trivial
        | ok k w2 => exact Nat.le_trans g1 (run_ok h2)
  clear_value pick
  generalize hs : Sem.run p _ m.world = r
  cases r with
  | halt x w => exact trivial
  | ok k w =>
    have g1 := run_ok hs
    clear hs
    dsimp only
    by_cases hk : k < ds.length
    · rw [if_pos hk]
      exact NextGe.of (Nat.le_trans g1 (serve_dr p { m with world := w } _))
    · rw [if_neg hk]
      clear_value rs
      cases rs with
      | nil =>
        dsimp only
        split
        · exact g1
        · split
          · exact g1
          · split <;> exact trivial
      | cons q qs =>
        dsimp only
        split
        · exact hpick _ g1
        · split
          · exact trivial
          · rename_i heq; exact hpick _ (Nat.le_trans g1 (run_ok heq))
          · rename_i heq; exact (Nat.le_trans g1 (run_ok heq) : m.world.drawn ≤ _)
          · rename_i heq
            have g2 := Nat.le_trans g1 (run_ok heq)
            exact hpick _ g2
theorem MvGe.mono {n n' : Nat} (h : n' ≤ n) {mv : Move} (hm : MvGe n mv) : MvGe n' mv := by
  cases mv with
  | goroutine m i => exact Nat.le_trans h hm
  | machine s o => cases s with
    | next m2 => exact Nat.le_trans h hm
    | ended => exact trivial
theorem ask_dr' (p : Program) (m : Machine) : MvGe m.world.drawn (Go.ask p m) := by
  unfold Go.ask
  by_cases hw : m.rest.watch = true
  · rw [if_pos hw]
    cases h1 : (choose (.extern "collector.look" 2)).run p m.world with
    | halt x w => exact trivial
    | ok k w =>
      have g1 := run_ok h1
      split
      · exact trivial
      · rename_i heq
        cases heq
        have h3 := look_dr p m.gs m.rest w
        cases hl : look p m.gs m.rest w with
        | next m' =>
          rw [hl] at h3
          exact (ask_on_dr p m').mono (Nat.le_trans g1 h3)
        | ended => exact trivial
      · rename_i heq
        cases heq
        exact (ask_on_dr p { m with world := w }).mono g1
  · rw [if_neg hw]; exact ask_on_dr p m
theorem move_dr (p : Program) (m : Machine) : MvGe m.world.drawn (move p m) := by
  unfold move
  split
  · split
    · exact Nat.le_refl _
    · exact trivial
  · split
    · split
      · exact Nat.le_refl _
      · exact ask_dr' p { m with rest := { m.rest with slice := none } }
    · exact ask_dr' p m
theorem step_dr {p : Program} {m m' : Machine} (h : step p m = .next m') : m.world.drawn ≤ m'.world.drawn := by
  unfold step stepT at h
  have h0 := move_dr p m
  cases hm : move p m with
  | goroutine m1 i =>
    rw [hm] at h h0
    have h1 := runT_dr p m1 i true
    dsimp only at h
    rw [h] at h1
    exact Nat.le_trans h0 h1
  | machine s o =>
    rw [hm] at h h0
    dsimp only at h
    subst h
    exact h0
theorem runN_dr {p : Program} : ∀ (n : Nat) {m m' : Machine}, runN p n m = .next m' → m.world.drawn ≤ m'.world.drawn
  | 0, m, m', h => by cases h; exact Nat.le_refl _
  | n + 1, m, m', h => by
    simp only [runN] at h
    cases h1 : step p m with
    | next m1 => rw [h1] at h; exact Nat.le_trans (step_dr h1) (runN_dr n h)
    | ended o w => rw [h1] at h; cases h
/-- HOW OFTEN THE TAPE WAS ASKED NEVER SINKS -/
theorem Steps.dr {p : Program} {m m' : Machine} (h : Steps p m m') : m.world.drawn ≤ m'.world.drawn := let ⟨n, hn⟩ := h; runN_dr n hn
theorem Calls.dr {P : Program} {f : FuncId} {args : Array Value} {w : World} {R : Ending → World → Prop} (h : Calls P f args w R) (hn : ∀ e w', R e w' → e ≠ .outgrown) : Calls P f args w fun e w' => R e w' ∧ w.drawn ≤ w'.drawn := fun cs => by
  obtain ⟨e, w', fr, h1, h2, h3, h4⟩ := h cs
  refine ⟨e, w', fr, ⟨h1, ?_⟩, h2, h3, h4⟩
  cases e with
  | outgrown => exact (hn _ _ h1 rfl).elim
  | returned v => exact Steps.dr h2
  | panicked c => exact Steps.dr h2
end Go.Kin
