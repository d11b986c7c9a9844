/- Several texts in one file. -/
import Derived.WalkKit
import Derived.Test.YtglhbaigigdeeaaGreatQ02
import Derived.Deep.RegionHeld3
import Derived.Test.YtglhbaigigdeeaaGreatQ06
import Derived.Test.YtglhbaigigdeeaaGreatQ04
import Derived.Test.YtglhbaigigdeeaaGreatQ05
import Derived.Test.YtglhbaigigdeeaaGreatQ13
import Derived.Test.YtglhbaigigdeeaaGreatQ19
import Derived.Test.YtglhbaigigdeeaaGreatQ08
import Derived.Test.YtglhbaigigdeeaaGreatQ03
import Derived.Test.YtglhbaigigdeeaaGreatQ01
/- No run takes a draw back: the number of draws never falls. -/
namespace Go.Proofs.YtglhbaigigdeeaaGreat.Drw
set_option maxRecDepth 100000
open Go

def ResUp {α : Type} (n : Nat) : Result α → Prop
  | .ok _ w => n ≤ w.drawn
  | .halt _ w => n ≤ w.drawn

theorem ask_up {α : Type} (n : Nat) : ∀ (a : Ask α) (w : World), n ≤ w.drawn → n ≤ (w.ask a).2.drawn
  | .done a, w, h => by simpa [World.ask] using h
  | .ask what range k, w, h => by
    unfold World.ask
    simp only
    split
    · exact ask_up n _ w h
    · exact ask_up n _ _ (by show n ≤ w.drawn + 1; omega)

theorem sys_up (n : Nat) (w : World) (c : Sys) (h : n ≤ w.drawn) : n ≤ (w.sys c).2.drawn := by
  unfold World.sys
  have := ask_up n (Kernel.perform c w.os) w h
  split
  · exact h
  · rename_i e
    rw [e] at this
    exact this

theorem viewStore_drawn {p : Program} {w : World} {a : Addr} {u : TypeId} {k : Addr} {v : Value} {at_ : Bool} {w' : World} {l : List Addr} (h : w.viewStore p a u k v at_ = .ok (w', l)) : w'.drawn = w.drawn := by
  unfold World.viewStore at h
  simp only [bind, Except.bind, pure, Except.pure] at h
  repeat' (split at h <;> try (cases h; done))
  all_goals first | (cases h; rfl) | (simp at h; obtain ⟨rfl, -⟩ := h; rfl) | skip

theorem farStore_drawn {p : Program} {w : World} {a : Addr} {v : Value} {at_ : Bool} {w' : World} {l : List Addr} (h : w.farStore p a v at_ = .ok (w', l)) : w'.drawn = w.drawn := by
  unfold World.farStore at h
  split at h
  · split at h
    · rename_i e; injection h with h; subst h; exact viewStore_drawn e
    · cases h
  · cases h

theorem freeze_drawn (w : World) (a : Addr) (n : Nat) : (w.freeze a n).drawn = w.drawn := by
  unfold World.freeze; split <;> rfl

theorem run_up {α : Type} (p : Program) (n : Nat) (s : Sem α) : ∀ (w : World), n ≤ w.drawn → ResUp n (s.run p w) := by
  induction s with
  | pure a => intro w h; exact h
  | load m a k ih =>
    intro w h
    unfold Sem.run
    split
    · exact ih _ w h
    · split
      · exact ih _ w h
      · exact h
  | store m a v k ih =>
    intro w h
    have key : ResUp n (match w.cell? a with
        | some _ => if w.frozen? a then .halt (.unsupported (.unsafePointer "a write to bytes that a string shares")) w else k.run p (w.setCell a v)
        | none => match w.farStore p a v (m == .atomic) with
          | .ok (w, _) => k.run p w
          | .error h => .halt h w) := by
      split
      · split
        · exact h
        · exact ih _ h
      · split
        · rename_i e; exact ih _ (by rw [farStore_drawn e]; exact h)
        · exact h
    cases v with
    | agg c => exact h
    | tuple c => exact h
    | _ => exact key
  | new o k ih => intro w h; exact ih _ _ h
  | shape r k ih => intro w h; exact ih _ _ h
  | freeze a m k ih => intro w h; exact ih _ (by rw [freeze_drawn]; exact h)
  | frozen a k ih => intro w h; exact ih _ _ h
  | getObj r k ih =>
    intro w h
    unfold Sem.run
    split
    · exact h
    · exact ih _ w h
    · exact h
  | setObj r o k ih =>
    intro w h
    unfold Sem.run
    split
    · exact h
    · exact ih _ h
    · exact h
  | choose q k ih =>
    intro w h
    unfold Sem.run
    split
    · exact ih _ _ h
    · exact ih _ _ (by show n ≤ w.drawn + 1; omega)
  | sys c k ih => intro w h; exact ih _ _ (sys_up n w c h)
  | program k ih => intro w h; exact ih _ _ h
  | mark m k ih => intro w h; exact ih _ h
  | halt h' => intro w h; exact h

theorem runT_up {α : Type} (p : Program) (n : Nat) (s : Sem α) : ∀ (w : World) (es : Array Event), n ≤ w.drawn → ResUp n (s.runT p w es).1 := by
  induction s with
  | pure a => intro w es h; exact h
  | load m a k ih =>
    intro w es h
    unfold Sem.runT
    split
    · exact ih _ w _ h
    · split
      · exact ih _ w _ h
      · exact h
  | store m a v k ih =>
    intro w es h
    have key : ResUp n (match w.cell? a with
        | some _ =>
          if w.frozen? a then ((.halt (.unsupported (.unsafePointer "a write to bytes that a string shares")) w, es) : Result _ × Array Event)
          else k.runT p (w.setCell a v) (es.push ⟨.cell a, true, m == Mode.atomic⟩)
        | none => match w.farStore p a v (m == Mode.atomic) with
          | .ok (w, touched) => k.runT p w (es ++ touched.toArray.map (fun x => (⟨.cell x, true, m == Mode.atomic⟩ : Event)))
          | .error h => (.halt h w, es)).1 := by
      split
      · split
        · exact h
        · exact ih _ _ h
      · split
        · rename_i e; exact ih _ _ (by rw [farStore_drawn e]; exact h)
        · exact h
    cases v with
    | agg c => exact h
    | tuple c => exact h
    | _ => exact key
  | new o k ih => intro w es h; exact ih _ _ _ h
  | shape r k ih => intro w es h; exact ih _ _ _ h
  | freeze a m k ih => intro w es h; exact ih _ _ (by rw [freeze_drawn]; exact h)
  | frozen a k ih => intro w es h; exact ih _ _ _ h
  | getObj r k ih =>
    intro w es h
    unfold Sem.runT
    split
    · exact h
    · exact ih _ w _ h
    · exact h
  | setObj r o k ih =>
    intro w es h
    unfold Sem.runT
    split
    · exact h
    · exact ih _ _ h
    · exact h
  | choose q k ih =>
    intro w es h
    unfold Sem.runT
    split
    · exact ih _ _ _ h
    · exact ih _ _ _ (by show n ≤ w.drawn + 1; omega)
  | sys c k ih => intro w es h; exact ih _ _ _ (sys_up n w c h)
  | program k ih => intro w es h; exact ih _ _ _ h
  | mark m k ih => intro w es h; exact ih _ _ h
  | halt h' => intro w es h; exact h

theorem run_ok {α : Type} {p : Program} {n : Nat} {s : Sem α} {w : World} {a : α} {w' : World} (e : s.run p w = .ok a w') (h : n ≤ w.drawn) : n ≤ w'.drawn := by
  have := run_up p n s w h; rw [e] at this; exact this

theorem runT_ok {α : Type} {p : Program} {n : Nat} {s : Sem α} {w : World} {es es' : Array Event} {a : α} {w' : World} (e : s.runT p w es = (.ok a w', es')) (h : n ≤ w.drawn) : n ≤ w'.drawn := by
  have := runT_up p n s w es h; rw [e] at this; exact this
theorem runT_halt {α : Type} {p : Program} {n : Nat} {s : Sem α} {w : World} {es es' : Array Event} {a : Halt} {w' : World} (e : s.runT p w es = (.halt a w', es')) (h : n ≤ w.drawn) : n ≤ w'.drawn := by
  have := runT_up p n s w es h; rw [e] at this; exact this
def GUp (n : Nat) : GStep → Prop
  | .go _ w _ | .comm _ _ _ _ w _ | .spawn _ _ w _ | .count _ w _ | .timer _ _ w _ | .alone _ _ w _ | .newcoro _ _ _ w _ | .coroswitch _ _ _ w _ | .collect _ w _ | .watch _ w _ => n ≤ w.drawn
  | .ended .. => True

theorem after_up {n : Nat} {es : Array Event} {s : GStep} (h : GUp n s) : GUp n (s.after es) := by
  cases s <;> exact h

def SUp (n : Nat) : Stepped → Prop
  | .next m => n ≤ m.world.drawn
  | .ended .. => True

theorem dieOf_up {n : Nat} {fr : Frame} {l : List ByteArray} {m : String} {b : Bool} {w : World} (h : n ≤ w.drawn) : GUp n (dieOf fr l m b w) := h
theorem endThrow_up {n : Nat} {fr : Frame} {m : String} {w : World} (h : n ≤ w.drawn) : GUp n (endThrow fr m w) := h
theorem endWith_up {n : Nat} {w : World} {fd : Nat} {t : ByteArray} {o : Outcome} : GUp n (endWith w fd t o) := by
  unfold endWith
  simp only
  split
  · split <;> trivial
  · trivial
  · trivial
theorem endPrinting_up {n : Nat} {p : Program} {fr : Frame} {v : Value} {w : World} (h : n ≤ w.drawn) : GUp n (endPrinting p fr v w) := by
  unfold endPrinting
  simp only
  split
  · exact h
  · trivial
theorem endFatal_up {n : Nat} {p : Program} {fr : Frame} {cs : List Frame} {d : Option Dying} {m : String} {w : World} (h : n ≤ w.drawn) : GUp n (endFatal p fr cs d m w) := by
  unfold endFatal
  simp only
  split
  · rename_i e; exact run_ok e h
  · trivial
  · trivial
theorem writeOn_up {n : Nat} {p : Program} {fr : Frame} {d : Dying} {f : Fatal} {w : World} (h : n ≤ w.drawn) : GUp n (writeOn p fr d f w) := by
  unfold writeOn
  split
  · trivial
  · dsimp only
    generalize hs : Sem.runT p _ w #[] = re
    have hr : ResUp n re.1 := hs ▸ runT_up p n _ w #[] h
    clear hs
    obtain ⟨r, es⟩ := re
    split
    · rename_i e; injection e with e1 e2; subst e1; exact hr
    · rename_i e; injection e with e1 e2; subst e1; exact hr
    · trivial
    · trivial
theorem die_up {n : Nat} {p : Program} {fr : Frame} {d : Dying} {w : World} (h : n ≤ w.drawn) : GUp n (die p fr d w) := by
  unfold die
  split
  · exact writeOn_up h
  · split
    · split
      · exact h
      · exact endWith_up
    · simp only
      split
      · exact h
      · split
        · rename_i e; exact run_ok e h
        · trivial
      · refine after_up ?_
        rename_i t recv name _
        have hr := runT_up p n (invoke (.fn (.method name) #[]) #[.iface t recv]) w #[] h
        revert hr
        generalize (Sem.runT p (invoke (.fn (.method name) #[]) #[.iface t recv]) w #[]).1 = r
        intro hr
        split
        · exact hr
        · exact hr
        · trivial
        · exact endPrinting_up hr
        · trivial
      · trivial
theorem doReturn_up {n : Nat} {p : Program} {b : Bool} {fr : Frame} {cs : List Frame} {d : Option Dying} {v : Value} {w : World} (h : n ≤ w.drawn) : GUp n (doReturn p b fr cs d v w) := by
  unfold doReturn
  split
  · split
    · exact h
    · exact h
    · exact h
    · exact h
  · split
    · exact h
    · trivial
    · split
      · exact h
      · split
        · exact h
        · trivial
theorem callDeferred_up {n : Nat} {p : Program} {fr : Frame} {cs : List Frame} {dy : Option Dying} {d : Deferred} {w : World} (h : n ≤ w.drawn) : GUp n (callDeferred p fr cs dy d w) := by
  unfold callDeferred
  have hr := runT_up p n (invoke d.target d.args) w #[] h
  revert hr
  generalize Sem.runT p (invoke d.target d.args) w #[] = re
  obtain ⟨r, es⟩ := re
  intro hr
  generalize ((d.target matches .nil) && (fr.mode matches .panicking _)) = c
  cases c
  · rw [if_neg (by decide)]
    dsimp only at hr ⊢
    refine after_up ?_
    split
    all_goals first | trivial | exact hr | exact endFatal_up hr | exact endThrow_up hr | skip
    · split <;> exact hr
  · exact trivial
theorem unwind_up {n : Nat} {p : Program} {b : Bool} {fr : Frame} {cs : List Frame} {dy : Option Dying} {w : World} (h : n ≤ w.drawn) : GUp n (unwind p b fr cs dy w) := by
  unfold unwind
  split
  · generalize hs : Sem.runT p _ w #[] = re
    have hr : ResUp n re.1 := hs ▸ runT_up p n _ w #[] h
    clear hs
    obtain ⟨r, es⟩ := re
    dsimp only at hr ⊢
    refine after_up ?_
    split
    · exact hr
    · trivial
  · exact callDeferred_up h
  · split
    · trivial
    · split
      · trivial
      · split
        · exact h
        · split
          · split
            · exact h
            · split
              · rename_i e; exact run_ok e h
              · trivial
              · trivial
          · split
            · exact endPrinting_up h
            · trivial
    · split
      · exact doReturn_up h
      · rename_i fn _
        have hr := runT_up p n (results fn fr.tmps) w #[] h
        revert hr
        generalize Sem.runT p (results fn fr.tmps) w #[] = re
        obtain ⟨r, es⟩ := re
        intro hr
        simp only at hr ⊢
        refine after_up ?_
        split
        · exact doReturn_up hr
        · trivial
        · trivial
theorem early_up {n : Nat} {p : Program} {fr : Frame} {cs : List Frame} {dy : Option Dying} {g : Nat} {w : World} (h : n ≤ w.drawn) : GUp n (early p fr cs dy g w) := by
  have hn : ∀ w : World, n ≤ w.drawn → GUp n (match w.heap[g]? with
    | some (.pending c elem) => .go { frame := fr, callers := cs, status := .running, dying := dy } { w with heap := w.heap.setIfInBounds g (.cells c elem) }
    | _ => .ended (.stuck "early: the variable does not wait" (fr.pos p)) w) := by
    intro w h
    split
    · exact h
    · trivial
  unfold early
  simp only
  split
  · exact hn w h
  · split
    · trivial
    · split
      · exact hn w h
      · split
        · exact hn w h
        · split
          · trivial
          · exact h
          · trivial
          · exact hn w h
          · split
            · exact h
            · split
              · exact hn w h
              · split
                · rename_i e; exact hn _ (run_ok e h)
                · rename_i e; exact run_ok e h
                · trivial
theorem apply_up {n : Nat} {p : Program} {l : Bool} {fr : Frame} {cs : List Frame} {dy : Option Dying} {s : Sem Next} {w : World} (h : n ≤ w.drawn) : GUp n (stepG.apply p l fr cs dy s w) := by
  unfold stepG.apply
  have hr : ResUp n (if l = true then s.runT p w #[] else (s.run p w, #[])).1 := by
    split
    · exact runT_up p n s w #[] h
    · exact run_up p n s w h
  revert hr
  generalize (if l = true then s.runT p w #[] else (s.run p w, #[])) = re
  obtain ⟨r, es⟩ := re
  intro hr
  simp only at hr ⊢
  refine after_up ?_
  split
  all_goals first | trivial | exact hr | exact endFatal_up hr | exact endThrow_up hr | exact early_up hr | skip
  all_goals (split <;> first | trivial | exact hr | exact endThrow_up hr | (split <;> first | exact hr | exact endThrow_up hr))
theorem oper_up {n : Nat} {p : Program} {l : Bool} {fr : Frame} {cs : List Frame} {dy : Option Dying} {w : World} (h : n ≤ w.drawn) : GUp n (stepG.oper p l fr cs dy w) := by
  unfold stepG.oper
  split
  · trivial
  · split <;> exact apply_up h
theorem leave_up {n : Nat} {p : Program} {b : Bool} {fr : Frame} {cs : List Frame} {dy : Option Dying} {w : World} {s : Sem Value} (h : n ≤ w.drawn) :
    GUp n (match s.runT p w #[] with
      | (r, es) => GStep.after (seen p fr.fn es) (match r with
        | .ok v w => doReturn p b fr cs dy v w
        | .halt _ w => .ended (.stuck "range over a function: no such loop" (fr.pos p)) w)) := by
  have hr := runT_up p n s w #[] h
  revert hr
  generalize Sem.runT p s w #[] = re
  obtain ⟨r, es⟩ := re
  intro hr
  simp only at hr ⊢
  refine after_up ?_
  split
  · exact doReturn_up hr
  · trivial
theorem exec_up {n : Nat} {p : Program} {b l : Bool} {fr : Frame} {cs : List Frame} {dy : Option Dying} {w : World} (h : n ≤ w.drawn) : GUp n (stepG.exec p b l fr cs dy w) := by
  have hl : ∀ jump : Option Code, GUp n (match fr.roundOf with
      | none => if jump matches none | some .ret then .go { frame := { fr with mode := .returning }, callers := cs, status := .running, dying := dy } w else .ended (.stuck "exit, goto: no such block or label" (fr.pos p)) w
      | some l =>
        let (r, es) := (Instr.endRound l jump).runT p w #[]
        GStep.after (seen p fr.fn es) <| match r with
        | .ok v w => doReturn p b fr cs dy v w
        | .halt _ w => .ended (.stuck "range over a function: no such loop" (fr.pos p)) w) := by
    intro jump
    split
    · generalize (jump matches none | some .ret) = c
      cases c
      · exact trivial
      · exact h
    · exact leave_up h
  unfold stepG.exec
  dsimp only
  split
  · exact hl none
  · exact hl (some .ret)
  · exact h
  · exact h
  · exact h
  · exact h
  · exact h
  · split
    · exact h
    · trivial
  · exact h
  · exact h
  · exact h
  · exact h
  · rename_i id k _
    cases exitTo id k with
    | none => exact hl (some (.exit id))
    | some t => exact h
  · rename_i id k _
    cases gotoIn id k with
    | none => exact hl (some (.goto id))
    | some t => exact h
  · rename_i f params assign body k _
    have hr := runT_up p n (Instr.enterLoop fr.fn fr.tmps params assign body fr.roundOf) w #[] h
    revert hr
    generalize Sem.runT p (Instr.enterLoop fr.fn fr.tmps params assign body fr.roundOf) w #[] = re
    obtain ⟨r, es⟩ := re
    intro hr
    dsimp only at hr ⊢
    refine after_up ?_
    split
    · exact apply_up hr
    · trivial
  · trivial
  · exact apply_up h
  · rename_i l k _
    have hr := runT_up p n (Instr.endLoop l) w #[] h
    revert hr
    generalize Sem.runT p (Instr.endLoop l) w #[] = re
    obtain ⟨r, es⟩ := re
    intro hr
    dsimp only at hr ⊢
    refine after_up ?_
    split
    · exact hr
    · exact hr
    · trivial
  · trivial
  · exact apply_up h
  · rename_i row args k _
    cases Extern.next row with
    | none => trivial
    | some e => exact apply_up h
  · split
    · exact h
    · split
      · rename_i e; exact run_ok e h
      · trivial
  · exact h
  · split
    · exact oper_up h
    · exact h
theorem stepG_up {n : Nat} {p : Program} {b l : Bool} {g : Goroutine} {w : World} (h : n ≤ w.drawn) : GUp n (stepG p b g w l) := by
  unfold stepG
  obtain ⟨fr, cs, st, dy, of⟩ := g
  simp only
  split
  · exact die_up h
  · exact exec_up h
  · exact unwind_up h
theorem site_up {n : Nat} {c : Prop} [Decidable c] {a b : Stepped} (ha : SUp n a) (hb : SUp n b) : SUp n (if c then a else b) := by split <;> assumption
theorem look_up {n : Nat} {p : Program} {gs : Array Goroutine} {r : Rest} {w : World} (h : n ≤ w.drawn) : SUp n (look p gs r w) := by
  unfold look
  split
  · dsimp only
    refine site_up trivial ?_
    generalize Option.bind _ _ = o
    cases o with
    | none => exact trivial
    | some held =>
      dsimp only
      generalize hs : Sem.run p _ w = re
      have hr : ResUp n re := hs ▸ run_up p n _ w h
      clear hs
      split
      · exact hr
      · trivial
      · trivial
  · trivial
theorem pite_up {n : Nat} {c : Prop} [Decidable c] {a b : Stepped × Array MemOp} (ha : SUp n a.1) (hb : SUp n b.1) : SUp n (if c then a else b).1 := by split <;> assumption
theorem waiting_up {n : Nat} {r : Rest} {cs : Array CommCase} {w w' : World} (h : n ≤ w.drawn) (e : waitingAt r cs w = some w') : n ≤ w'.drawn := by
  unfold waitingAt at e
  split at e
  · split at e
    · injection e with e; subst e; exact h
    · cases e
  · injection e with e; subst e; exact h
theorem communicate_up {n : Nat} {p : Program} {r : Rest} {gs : Array Goroutine} {i : Nat} {g : Goroutine} {cs : Array CommCase} {bl : Bool} {sh : CommShape} {w : World} (h : n ≤ w.drawn) : SUp n (communicate p r gs i g cs bl sh w).1 := by
  unfold communicate
  dsimp only
  refine pite_up trivial (pite_up (pite_up ?_ h) ?_)
  · cases hw : waitingAt r cs w with
    | none => exact trivial
    | some w' => exact waiting_up h hw
  · generalize hs : Sem.run p _ w = re
    have hr : ResUp n re := hs ▸ run_up p n _ w h
    clear hs
    cases re with
    | halt x w1 => exact trivial
    | ok a w1 =>
      obtain ⟨k, c, way⟩ := a
      have h1 : n ≤ w1.drawn := hr
      dsimp only
      split
      · generalize hs : Sem.run p _ w1 = re
        have hr : ResUp n re := hs ▸ run_up p n _ w1 h1
        clear hs
        split
        · exact hr
        · trivial
      · exact h1
      · exact h1
      · split
        · exact h1
        · generalize hs : Sem.run p _ w1 = re
          have hr : ResUp n re := hs ▸ run_up p n _ w1 h1
          clear hs
          cases re with
          | halt x w2 => exact trivial
          | ok a w2 => exact hr
      · exact h1
      · exact h1
      · trivial
theorem timerOp_up {n : Nat} {m : Machine} {op : TimerOp} {v : Value} {m' : Machine} (h : n ≤ m.world.drawn) (e : timerOp m op = .ok (v, m')) : n ≤ m'.world.drawn := by
  have hd : ∀ (w : World) (c : Nat), (drain w c).2.drawn = w.drawn := by intro w c; unfold drain; split <;> rfl
  have hre : ∀ (m : Machine) k t wh pe, (retime m k t wh pe).2.world.drawn = m.world.drawn := by
    intro m k t wh pe
    unfold retime
    simp only
    split
    · exact hd _ _
    · rfl
  have hn : ∀ (var : Addr) (f : Nat → Timer → Value × Machine), (∀ k t, n ≤ (f k t).2.world.drawn) → timerOp.named m var f = .ok (v, m') → n ≤ m'.world.drawn := by
    intro var f hf e
    unfold timerOp.named at e
    split at e
    · injection e with e
      rename_i c _
      have := hf c (m.rest.timers.getD c default)
      rw [e] at this
      exact this
    · cases e
  unfold timerOp at e
  split at e
  · split at e
    · injection e with e; injection e with _ e; subst e; exact h
    · split at e
      · split at e
        · cases e
        · injection e with e; injection e with _ e; subst e; exact h
      · cases e
  · exact hn _ _ (fun k t => by rw [hre]; exact h) e
  · split at e
    · rename_i m1 em
      refine hn _ _ (fun k t => ?_) e
      rw [hre]
      unfold timerOp.opened at em
      split at em
      · split at em
        · injection em with em; subst em; exact h
        · cases em
      · injection em with em; subst em; exact h
    · cases e
  · simp only at e
    injection e with e; injection e with _ e; subst e; exact h
theorem mrunT_up {n : Nat} {p : Program} {m : Machine} {i : Nat} {l : Bool} (h : n ≤ m.world.drawn) : SUp n (Go.runT p m i l).1 := by
  unfold Go.runT
  simp only
  have hg := stepG_up (p := p) (b := i == 0) (l := l) (g := (m.gs.swapAt! i { (default : Goroutine) with status := .finished }).1) h
  revert hg
  generalize stepG p (i == 0) (m.gs.swapAt! i { (default : Goroutine) with status := .finished }).1 m.world l = s
  intro hg
  cases s with
  | ended o w es => trivial
  | comm g cs bl sh w es => exact communicate_up hg
  | go g w es => exact hg
  | spawn g c w es => exact hg
  | count g w es => simp only; split <;> first | trivial | exact hg
  | alone g on w es => exact hg
  | collect g w es => exact look_up hg
  | watch g w es => exact hg
  | newcoro g c d w es => exact hg
  | coroswitch g c ex w es =>
    simp only
    split
    · exact hg
    · split
      · rename_i e
        have := endThrow_up (fr := g.frame) (m := "coroswitch on exited coro") (w := w) hg
        rw [e] at this
        exact this
      · trivial
    · trivial
  | timer g op w es =>
    simp only
    split
    · rename_i v m1 e
      have := timerOp_up (m := { world := w, gs := _, rest := m.rest }) (m' := m1) hg e
      exact this
    · rename_i msg _
      split
      · rename_i e
        have := endThrow_up (fr := g.frame) (m := msg) (w := w) hg
        rw [e] at this
        exact this
      · trivial
    · trivial
    · trivial
def MUp (n : Nat) : Move → Prop
  | .goroutine m _ => n ≤ m.world.drawn
  | .machine s _ => SUp n s
theorem advance_up {n : Nat} {m : Machine} {t : Nat} (h : n ≤ m.world.drawn) : n ≤ (m.advanceTo t).world.drawn := h
theorem serve_up {n : Nat} {p : Program} {m : Machine} {k : Nat} (h : n ≤ m.world.drawn) : SUp n (serve p m k) := by
  unfold serve
  split
  · trivial
  · exact h
  · simp only
    split
    · trivial
    · exact h
theorem askOn_up {n : Nat} {p : Program} {m : Machine} (h : n ≤ m.world.drawn) : MUp n (askOn p m) := by
  unfold askOn
  simp only
  split
  · trivial
  · rename_i k w1 e
    have h1 := run_ok e h
    split
    · exact serve_up h1
    · split
      · split
        · exact advance_up h1
        · split
          · exact h1
          · split <;> trivial
      · split
        · split
          · trivial
          · rename_i e2
            have h2 := run_ok e2 h1
            split
            · exact h2
            · split
              · trivial
              · rename_i e3; exact run_ok e3 h2
        · split
          · trivial
          · rename_i e4
            have h2 := run_ok e4 h1
            split
            · trivial
            · rename_i e5
              have h3 := run_ok e5 h2
              split
              · exact h3
              · split
                · trivial
                · rename_i e6; exact run_ok e6 h3
          · rename_i e4
            have h2 := run_ok e4 h1
            exact advance_up h2
          · rename_i e4
            have h2 := run_ok e4 h1
            split
            · trivial
            · rename_i e5
              have h3 := run_ok e5 (advance_up (m := { m with world := _ }) h2)
              split
              · exact h3
              · split
                · trivial
                · rename_i e6; exact run_ok e6 h3
theorem mask_up {n : Nat} {p : Program} {m : Machine} (h : n ≤ m.world.drawn) : MUp n (ask p m) := by
  unfold ask
  split
  · split
    · trivial
    · rename_i e
      have h1 := run_ok e h
      have h2 := look_up (p := p) (gs := m.gs) (r := m.rest) h1
      split
      · rename_i e2; rw [e2] at h2; exact askOn_up h2
      · exact h2
    · rename_i e
      have h1 := run_ok e h
      exact askOn_up h1
  · exact askOn_up h
theorem move_up {n : Nat} {p : Program} {m : Machine} (h : n ≤ m.world.drawn) : MUp n (move p m) := by
  unfold move
  split
  · split
    · exact h
    · trivial
  · split
    · split
      · exact h
      · exact mask_up h
    · exact mask_up h
theorem step_up {n : Nat} {p : Program} {m : Machine} (h : n ≤ m.world.drawn) : SUp n (step p m) := by
  have hm := move_up (p := p) h
  unfold step stepT
  split
  · rename_i e; rw [e] at hm; exact mrunT_up hm
  · rename_i e; rw [e] at hm; exact hm
theorem runN_up {p : Program} {n : Nat} : ∀ (k : Nat) (m m' : Machine), n ≤ m.world.drawn → runN p k m = .next m' → n ≤ m'.world.drawn
  | 0, m, m', h, e => by rw [runN] at e; injection e with e; subst e; exact h
  | k + 1, m, m', h, e => by
    rw [runN] at e
    have := step_up (p := p) h
    split at e
    · rename_i m1 e1; rw [e1] at this; exact runN_up k m1 m' this e
    · rename_i hx; exact absurd e (hx m')
/-- NO CALL TAKES A DRAW BACK. -/
theorem calls_drawn {P : Program} {f : FuncId} {args : Array Value} {w : World} {R : Ending → World → Prop} (h : Calls P f args w R) (hr : ∀ w', ¬ R .outgrown w') : Calls P f args w fun e w' => R e w' ∧ w.drawn ≤ w'.drawn := by
  intro cs
  obtain ⟨e, w', fr, h1, h2, h3⟩ := h cs
  refine ⟨e, w', fr, ⟨h1, ?_⟩, h2, h3⟩
  cases e with
  | outgrown => exact absurd h1 (hr w')
  | returned v => obtain ⟨k, hk⟩ := h2; exact runN_up k _ _ (Nat.le_refl w.drawn) hk
  | panicked c => obtain ⟨k, hk⟩ := h2; exact runN_up k _ _ (Nat.le_refl w.drawn) hk
end Go.Proofs.YtglhbaigigdeeaaGreat.Drw
/- The implementation's copies of terms. NOT BUILT YET. -/
namespace Go.Proofs.YtglhbaigigdeeaaGreat
set_option maxRecDepth 100000
open Go.RowKit

def CopyT (t : Tm) : Prop := ∀ (S : Nat → Prop) (c0 c1 : Value) (w : World), Tm.at S w c0 c1 t → t.bulk ≤ 1048576 → Calls Tryz.prog 78 #[.agg #[c0, c1]] w (MadeT t w)
def CopyS (ts : List Tm) : Prop := ∀ (S : Nat → Prop) (v : Value) (w : World), D.rd S w v (Tm.sd ts) → ts.length + Tm.bulks ts ≤ 1048576 → Calls Tryz.prog 106 #[v] w (MadeS ts w)

set_option maxHeartbeats 400000 in
theorem copyTermS_of (ts : List Tm) (h : ∀ t ∈ ts, CopyT t) : CopyS ts := by
  intro S v w hr hbk
  obtain ⟨a, cap, rfl, hlen, hcap⟩ := Tm.sd_form hr
  have hmk := run_mk (P := Tryz.prog) Tryz.underlying54 infoTerm ts.length (by omega) hlen
  unfold big at hlen
  by_cases h0 : ts.length = 0
  · have h0' : ((ts.length : Int) == 0) = true := by simp [h0]
    have H0 := hid h0
    clear h0 hmk
    go_enter Tryz.func106, Tryz.ntmps106
    go_wp2_with fail
    go_ret
    obtain rfl : ts = [] := List.length_eq_zero_iff.1 H0.out
    exact ⟨_, [], rfl, by rw [Tm.sd, D.own]; exact ⟨none, 0, rfl, by simp, by simp, by simp, .inl ⟨by simp [Tm.css], rfl⟩⟩, by simp, Below.refl _ _⟩
  have h0' : ((ts.length : Int) == 0) = false := by simpa using h0
  clear h0
  go_enter Tryz.func106, Tryz.ntmps106
  go_wp2_with fail
  go_loopw [14] (fun i wr => ∃ (k : Nat) (F : List Nat), k ≤ ts.length ∧ i = .int .i64 k ∧ Filled wr w.heap.size 56 (ts.length * 2) (Tm.css (ts.take k)) F ∧ (∀ x ∈ F, w.heap.size < x) ∧ Below w.heap.size w wr) (fun i _ => ts.length - (intOf i).toNat)
  case atStart =>
    refine ⟨0, [], Nat.zero_le _, rfl, ?_, by simp, (Below.refl _ _).alloc (Nat.le_refl _) _⟩
    have := Filled.made w (madeCells #[Value.string ByteArray.empty, Value.slice none 0 0] (ts.length * 2)) 56
    rw [size_madeCells] at this
    simpa [Tm.css] using this
  case round =>
    obtain ⟨k, F, hk, rfl, hfl, hF, hb⟩ := hrel
    by_cases hlt : k < ts.length
    · have hne : ts ≠ [] := by intro e; subst e; simp at hlt
      obtain ⟨b, off, rfl, hS, hbl, hrr⟩ := Tm.sd_get hr hne
      obtain ⟨c0, c1, q0, q1, q2⟩ := hrr k hlt
      have q0' := (hb.cell (p := ⟨b, off + k * 2, none⟩) hbl).trans q0
      have q1' := (hb.cell (p := ⟨b, off + k * 2 + 1, none⟩) hbl).trans q1
      have q2' := Tm.at_keep (Keeps.all hb) q2
      have hmem := h ts[k] (List.getElem_mem hlt)
      have hbk' := Tm.bulk_mem (List.getElem_mem hlt)
      clear q0 q1 q2 hr hrr
      obtain ⟨rfl, -, x, xc, rfl⟩ := Tm.at_form q2'
      have hbx : Below wr.heap.size wr (wr.alloc (.cells #[.string ts[k].name, .slice x ts[k].args.length xc] 56)) := (Below.refl _ _).alloc (Nat.le_refl _) _
      have hq0 := cell_alloc q0'
      go_wp2_with fail
      refine (hmem _ _ _ _ (Tm.at_keep (Keeps.all hbx) q2') (by omega)).mono ?_
      rintro e w1 ⟨v, G, rfl, ho, hG, hb2⟩
      have hb1 : Below wr.heap.size wr w1 := hbx.trans (hb2.mono hbx.size)
      replace hG : ∀ x ∈ G, wr.heap.size ≤ x := fun x hx => Nat.le_trans hbx.size (hG x hx)
      clear hb2 hbx
      obtain ⟨a', cap', rfl⟩ := Tm.sd_own_form ho
      have hfl1 := hfl.keep (Keeps.all hb1)
      obtain ⟨x0, hx0⟩ := hfl1.cell (p := k * 2) (by omega)
      obtain ⟨x1, hx1⟩ := hfl1.cell (p := k * 2 + 1) (by omega)
      have hf0 := hfl1.free (k * 2)
      have hf1 := hfl1.free (k * 2 + 1)
      go_wp2_with fail
      go_roundw
      case rel =>
        have hB := hb.size
        have hBl := hfl.lt
        have hG' : w.heap.size ∉ G := fun q => by have := hG _ q; omega
        refine ⟨k + 1, F ++ G, by omega, by go_num, ?_, fun x hx => ?_, ((hb.trans (hb1.mono hB)).setCell (Nat.le_refl _) _).setCell (Nat.le_refl _) _⟩
        · rw [Tm.css_take_succ ts k hlt]
          have hl : (Tm.css (ts.take k)).length = k * 2 := by rw [Tm.css_length, List.length_take, Nat.min_eq_left hk]
          have hsz : ts[k].name.size ≤ maxLen := (Tm.at_form q2').2.1
          have hd : ∀ x ∈ F, x ∉ G := fun x hx hx' => by have := hG x hx'; have := hfl.ltF x hx; omega
          have s1 := hfl1.set (v := .string ts[k].name) (G := []) hl.symm (by omega) (D.own_str hsz) (by simp) (by simp)
          have s2 := s1.set (p := k * 2 + 1) (v := .slice a' ts[k].args.length cap') (G := G) (d := Tm.sd ts[k].args) (by simp [hl]) (by omega) (D.own_keep _ _ _ ((Keeps.refl _ _).setCell (fun q _ => hG' q) _) ho) hG' (by simpa using hd)
          simpa using s2
        · rcases List.mem_append.1 hx with hx | hx
          · exact hF x hx
          · have := hG x hx; omega
      case measure => simp [intOf]; omega
    · obtain rfl : k = ts.length := by omega
      go_wp2_with fail
      go_ret
      rw [List.take_length] at hfl
      by_cases hne : ts = []
      · subst hne
        exact ⟨_, [], rfl, D.own_nil _ _, by simp, hb⟩
      · exact ⟨_, _ :: F, rfl, hfl.own (Tm.css_ne hne) (by unfold big; omega) (Nat.le_refl _), fun x hx => by rcases List.mem_cons.1 hx with rfl | hx; exact Nat.le_refl _; exact Nat.le_of_lt (hF x hx), hb⟩


set_option maxHeartbeats 1000000 in
theorem copyTerm_of (n : ByteArray) (ts : List Tm) (h : CopyS ts) : CopyT (.node n ts) := by
  intro S c0 c1 w hr hbk
  obtain ⟨rfl, hn, a, cap, rfl⟩ := Tm.at_form hr
  have hs := hr.2
  rw [Tm.bulk] at hbk
  simp only [Tm.name, Tm.args] at hn hs ⊢
  clear hr
  have hW : Below w.heap.size w ((w.alloc (.cells #[.string n, .slice a ts.length cap] 56)).alloc (.cells #[.string ByteArray.empty, .slice none 0 0] 56)) := ((Below.refl _ _).alloc (Nat.le_refl _) _).alloc (by simp) _
  have z0 : ((w.alloc (.cells #[.string n, .slice a ts.length cap] 56)).alloc (.cells #[.string ByteArray.empty, .slice none 0 0] 56)).cell? ⟨w.heap.size, 0, none⟩ = some (.string n) := cell_alloc (box1 _ _ _ 0) _
  have z1 : ((w.alloc (.cells #[.string n, .slice a ts.length cap] 56)).alloc (.cells #[.string ByteArray.empty, .slice none 0 0] 56)).cell? ⟨w.heap.size, 1, none⟩ = some (.slice a ts.length cap) := cell_alloc (box1 _ _ _ 1) _
  have zs : w.heap.size + 1 = (w.alloc (.cells #[.string n, .slice a ts.length cap] 56)).heap.size := by simp
  have z2 : ((w.alloc (.cells #[.string n, .slice a ts.length cap] 56)).alloc (.cells #[.string ByteArray.empty, .slice none 0 0] 56)).cell? ⟨w.heap.size + 1, 0, none⟩ = some (.string ByteArray.empty) := by rw [zs]; exact box1 _ _ _ 0
  have z3 : ((w.alloc (.cells #[.string n, .slice a ts.length cap] 56)).alloc (.cells #[.string ByteArray.empty, .slice none 0 0] 56)).cell? ⟨w.heap.size + 1, 1, none⟩ = some (.slice none 0 0) := by rw [zs]; exact box1 _ _ _ 1
  clear zs
  go_enter Tryz.func78, Tryz.ntmps78
  go_wp2_with fail
  go_region_held3 (fun w' => w'.cell? ⟨w.heap.size, 0, none⟩ = some (.string n) ∧ w'.cell? ⟨w.heap.size, 1, none⟩ = some (.slice a ts.length cap))
    (first | go_keep)
    (first | (go_at_call 106; go_must (refine (h S _ _ (D.rd_keep (by first | exact (((Keeps.refl _ _).alloc _).alloc _).drew | exact ((Keeps.refl _ _).alloc _).alloc _ | exact ((((Keeps.refl _ _).alloc _).alloc _).drew).drew) _ _ hs) (by omega)).mono ?_; rintro e w1 ⟨v, F, rfl, ho, hF, hb⟩; (obtain ⟨a', cap', rfl⟩ := Tm.sd_own_form ho); (have y0 : w1.cell? ⟨w.heap.size, 0, none⟩ = some (.string n) := (hb.cell (p := ⟨w.heap.size, 0, none⟩) (by simp; try omega)).trans z0); (have y1 : w1.cell? ⟨w.heap.size, 1, none⟩ = some (.slice a ts.length cap) := (hb.cell (p := ⟨w.heap.size, 1, none⟩) (by simp; try omega)).trans z1); (have y2 := (hb.cell (p := ⟨w.heap.size + 1, 0, none⟩) (by simp; try omega)).trans z2); (have y3 := (hb.cell (p := ⟨w.heap.size + 1, 1, none⟩) (by simp; try omega)).trans z3); (have y4 := hb.frozen (p := ⟨w.heap.size + 1, 0, none⟩) (by simp; try omega)); (have y5 := hb.frozen (p := ⟨w.heap.size + 1, 1, none⟩) (by simp; try omega)))))
  have hz := hb.size
  simp only [World.size_drew, World.size_alloc] at hF hz
  have g1 : w.heap.size + 1 < w1.heap.size := by omega
  go_wp2_with fail
  refine bodyPost_ret (v := .agg #[.string n, .slice a' ts.length cap']) (by simp [results, Tryz.results78, go_sem, y2, y3]) rfl ?_
  refine ⟨_, F, rfl, D.own_keep _ _ _ (((Keeps.refl _ _).set_lt hF (by simp) _).set_lt hF (by simp) _) ho, fun x hx => by have := hF x hx; omega, ?_⟩
  exact ((hW.drew.trans (hb.mono (by simp; omega))).setCell (by simp) _).setCell (by simp) _
theorem copyTerm_any (t : Tm) : CopyT t := Tm.ind (fun n ts h => copyTerm_of n ts (copyTermS_of ts h)) t
end Go.Proofs.YtglhbaigigdeeaaGreat
/- Substitutions are copied: the program's way and the reference's. -/
namespace Go.Proofs.YtglhbaigigdeeaaGreat
set_option maxRecDepth 100000
open Go.RowKit

theorem infoBndI : (Tryz.prog.info? 91).map (fun i => (i.zero, i.size, i.bytes)) = some (some (.agg #[.string ByteArray.empty, .string ByteArray.empty, .slice none 0 0]), 3, 56) := by kernel_rfl
theorem Bnd.own_item {w : World} {x : Bnd} {v : Value} {F : List Nat} (hv : x.var.size ≤ maxLen) (hn : x.term.name.size ≤ maxLen) (h : D.own w v (Tm.sd x.term.args) F) : OwnsL w [.string x.var, .string x.term.name, v] x.cs F := by
  have := OwnsL.cons (F := []) (D.own_str hv) (OwnsL.cons (F := []) (D.own_str hn) (OwnsL.cons h (OwnsL.nil w) (by simp)) (by simp)) (by simp)
  rw [Bnd.cs_eq]
  simpa using this
theorem Bnd.name_le {S : Nat → Prop} {w : World} {c0 c1 c2 : Value} {x : Bnd} (h : Bnd.at S w c0 c1 c2 x) : x.term.name.size ≤ maxLen := by have q := h.2.1; rw [D.rd] at q; exact q.2

/-- a copy of the substitution comes back -/
def CopySb (f : FuncId) : Prop := ∀ (x : Sb) (S : Nat → Prop) (c0 : Value) (w : World), Sb.at S w c0 x → x.bulk ≤ 1048576 → Calls Tryz.prog f #[.agg #[c0]] w (MadeSb x w)

end Go.Proofs.YtglhbaigigdeeaaGreat
/- Rows whose cells are stored anew; what is kept of a list. -/
namespace Go.Proofs.YtglhbaigigdeeaaGreat
set_option maxRecDepth 100000
open Go.RowKit

/-! ### rows whose cells are stored -/
theorem RowAt.setCells {b off : Nat} {e : TypeId} : ∀ (us : List Value) {w : World} {vs : List Value} {s : Nat}, RowAt w b off e vs → s + us.length ≤ vs.length → ∃ vs', RowAt (w.setCells b (off + s) us) b off e vs' ∧ vs'.length = vs.length ∧ ∀ i, i < s → vs'[i]? = vs[i]?
  | [], w, vs, s, h, _ => ⟨vs, h, rfl, fun _ _ => rfl⟩
  | u :: us, w, vs, s, h, hl => by
    simp only [List.length_cons] at hl
    have h1 := h.set (i := s) (by omega) u
    obtain ⟨vs', h2, h3, h4⟩ := RowAt.setCells us (s := s + 1) h1 (by rw [List.length_set]; omega)
    refine ⟨vs', ?_, by rw [h3, List.length_set], fun i hi => ?_⟩
    · rw [World.setCells]
      rw [show off + s + 1 = off + (s + 1) by omega]
      exact h2
    · rw [h4 i (by omega), List.getElem?_set_ne (by omega)]
theorem Mk.setCells {F : List Nat} {b : Nat} (hb : b ∈ F) : ∀ (us : List Value) (o : Nat) (w : World), Mk F w (w.setCells b o us)
  | [], _, w => Mk.refl _ _
  | u :: us, o, w => by rw [World.setCells]; exact (Mk.set hb u).trans (Mk.setCells hb us (o + 1) _)
/-- clear(s) of a list of structs -/
theorem run_clear_rows {P : Program} (w : World) (t e : TypeId) (z : Value) (m : Nat) (ht : P.underlying t = some (.slice e)) (hv : ∀ w, (zeroValue e).run P w = .ok z w) (hz : z.cells.size = m) (hm : 0 < m) (h1 : ∀ v ∈ z.cells.toList, v.oneCell' = true) (b o n c : Nat) (hn : 0 < n)
    (hc : ∀ j, j < n * m → (w.cell? ⟨b, o + j, none⟩).isSome = true) (hf : ∀ j, j < n * m → w.frozen? ⟨b, o + j, none⟩ = false) :
    ∃ us : List Value, us.length = n * m ∧ ∀ ty, (Builtin.clear_ #[t] ty #[.slice (some ⟨b, o, none⟩) n c]).run P w = .ok (.tuple #[]) (w.setCells b o us) := by
  have hl : (Builtin.zeroCells z.cells n).toList.length = n * m := by simp [Builtin.zeroCells, hz]
  refine ⟨(Builtin.zeroCells z.cells n).toList, hl, fun ty => ?_⟩
  have hst := run_storeCells_cells (P := P) b o (Builtin.zeroCells z.cells n).toList 0 w (by rw [hl]; simpa using hc) (by rw [hl]; simpa using hf) (by
    intro v hv'
    simp only [Builtin.zeroCells, Array.toList_map, List.mem_map] at hv'
    obtain ⟨i, hi, rfl⟩ := hv'
    have hlt : i % z.cells.size < z.cells.size := Nat.mod_lt _ (by omega)
    rw [getElem!_pos z.cells _ hlt]
    exact h1 _ (by simp))
  simp only [Nat.add_zero] at hst
  obtain ⟨n, rfl⟩ : ∃ k, n = k + 1 := ⟨n - 1, by omega⟩
  simp [Builtin.clear_, run_underlying ht, hv, hst]

/-! ### what is kept -/
theorem filter_take_snoc {α : Type} (p : α → Bool) (d : List α) (j : Nat) (h : j < d.length) : (d.take (j + 1)).filter p = (d.take j).filter p ++ if p d[j] = true then [d[j]] else [] := by
  rw [List.take_succ_eq_append_getElem h, List.filter_append]
  congr 1
  cases hp : p d[j] <;> simp [hp]
/-- the row after j items: the kept ones ahead, those to come as they were -/
def KInv {α : Type} (p : α → Bool) (d : List α) (j i : Nat) (E : List α) : Prop := E.length = d.length ∧ i = ((d.take j).filter p).length ∧ E.take i = (d.take j).filter p ∧ E.drop j = d.drop j ∧ i < j ∧ j ≤ d.length
theorem KInv.keep {α : Type} {p : α → Bool} {d E : List α} {j i : Nat} (h : KInv p d j i E) (hj : j < d.length) (hp : p d[j] = true) : KInv p d (j + 1) (i + 1) (E.set i d[j]) := by
  obtain ⟨h0, h1, h2, h3, h4, h5⟩ := h
  have hs := filter_take_snoc p d j hj
  rw [if_pos hp] at hs
  refine ⟨by rw [List.length_set, h0], by rw [hs, List.length_append, ← h1]; rfl, ?_, ?_, by omega, by omega⟩
  · rw [hs, ← h2]
    rw [List.take_succ_eq_append_getElem (by rw [List.length_set]; omega), List.take_set_of_le (Nat.le_refl _)]
    simp
  · rw [List.drop_set_of_lt (by omega)]
    have := congrArg (List.drop 1) h3
    simpa only [List.drop_drop] using this
theorem KInv.skip {α : Type} {p : α → Bool} {d E : List α} {j i : Nat} (h : KInv p d j i E) (hj : j < d.length) (hp : p d[j] = false) : KInv p d (j + 1) i E := by
  obtain ⟨h0, h1, h2, h3, h4, h5⟩ := h
  have hs := filter_take_snoc p d j hj
  rw [if_neg (by simp [hp]), List.append_nil] at hs
  exact ⟨h0, by rw [hs]; exact h1, by rw [hs]; exact h2, by have := congrArg (List.drop 1) h3; simpa only [List.drop_drop] using this, by omega, by omega⟩
theorem KInv.at {α : Type} {p : α → Bool} {d E : List α} {j i : Nat} (h : KInv p d j i E) (hj : j < d.length) (hE : j < E.length) : E[j] = d[j] := by
  have h3 := h.2.2.2.1
  rw [List.drop_eq_getElem_cons hE, List.drop_eq_getElem_cons hj] at h3
  injection h3
theorem KInv.start {α : Type} {p : α → Bool} {d : List α} {k : Nat} (hk : k < d.length) (hall : ∀ j (h : j < d.length), j < k → p d[j] = true) (hno : p d[k] = false) : KInv p d (k + 1) k d := by
  have hf : (d.take k).filter p = d.take k := by
    rw [List.filter_eq_self]
    intro a ha
    obtain ⟨j, hj, rfl⟩ := List.mem_iff_getElem.1 ha
    rw [List.length_take] at hj
    rw [List.getElem_take]
    exact hall j (by omega) (by omega)
  have hs := filter_take_snoc p d k hk
  rw [if_neg (by simp [hno]), List.append_nil, hf] at hs
  exact ⟨rfl, by rw [hs, List.length_take]; omega, by rw [hs], rfl, by omega, by omega⟩
end Go.Proofs.YtglhbaigigdeeaaGreat
/- Bindings of some variables: slices.DeleteFunc in the program's text. -/
namespace Go.Proofs.YtglhbaigigdeeaaGreat
set_option maxRecDepth 100000
open Go.RowKit

/-! ### bindings as pairs -/
def Bnd.ev (p : Bnd × Value) : List Value := [.string p.1.var, .string p.1.term.name, p.2]
def Bnd.ed (p : Bnd × Value) : List D := p.1.cs
theorem Bnd.ev_ed (p : Bnd × Value) : (Bnd.ev p).length = (Bnd.ed p).length := by rw [Bnd.ed, Bnd.cs_eq]; rfl
theorem Bnd.items {w : World} : ∀ (xs : List Bnd) (vs : List Value) (F : List Nat), OwnsL w vs (Bnd.css xs) F → ∃ d : List (Bnd × Value), d.map Prod.fst = xs ∧ vs = d.flatMap Bnd.ev ∧ ∀ p ∈ d, p.1.var.size ≤ maxLen ∧ p.1.term.name.size ≤ maxLen ∧ ∃ a c, p.2 = .slice a p.1.term.args.length c
  | [], vs, F, h => by
    have := h.length
    have hv : vs = [] := List.length_eq_zero_iff.1 (by simpa [Bnd.css] using this)
    exact ⟨[], rfl, hv, by simp⟩
  | x :: xs, vs, F, h => by
    have hl := h.length
    rw [Bnd.css_flat, List.flatMap_cons, Bnd.cs_eq] at h hl
    simp only [List.length_append, List.length_cons, List.length_nil] at hl
    match vs, hl, h with
    | v0 :: v1 :: v2 :: vs, _, h =>
      rw [show ([D.str x.var, D.str x.term.name, Tm.sd x.term.args] ++ xs.flatMap Bnd.cs) = D.str x.var :: D.str x.term.name :: Tm.sd x.term.args :: xs.flatMap Bnd.cs from rfl] at h
      rw [OwnsL] at h
      obtain ⟨G0, R0, _, _, o0, h⟩ := h
      rw [OwnsL] at h
      obtain ⟨G1, R1, _, _, o1, h⟩ := h
      rw [OwnsL] at h
      obtain ⟨G2, R2, _, _, o2, h⟩ := h
      rw [D.own] at o0 o1
      obtain ⟨d, hd, hv, hs⟩ := Bnd.items xs vs R2 (by rw [Bnd.css_flat]; exact h)
      refine ⟨(x, v2) :: d, by simp [hd], ?_, fun p hp => ?_⟩
      · rw [o0.1, o1.1, hv, List.flatMap_cons]; rfl
      · rcases List.mem_cons.1 hp with rfl | hp
        · exact ⟨o0.2.1, o1.2.1, Tm.sd_own_form o2⟩
        · exact hs p hp
    | [_, _], hl, _ => simp at hl; omega
    | [_], hl, _ => simp at hl; omega
    | [], hl, _ => simp at hl; omega
theorem Bnd.flat_ed (d : List (Bnd × Value)) : d.flatMap Bnd.ed = Bnd.css (d.map Prod.fst) := by
  induction d with
  | nil => rfl
  | cons p d ih => rw [List.flatMap_cons, ih, List.map_cons, Bnd.css_flat, Bnd.css_flat, List.flatMap_cons]; rfl
theorem Bnd.ev_get : ∀ (d : List (Bnd × Value)) (k : Nat) (h : k < d.length), (d.flatMap Bnd.ev)[k * 3]? = some (.string d[k].1.var) ∧ (d.flatMap Bnd.ev)[k * 3 + 1]? = some (.string d[k].1.term.name) ∧ (d.flatMap Bnd.ev)[k * 3 + 2]? = some d[k].2
  | [], k, h => absurd h (by simp)
  | p :: d, 0, _ => by simp [Bnd.ev]
  | p :: d, k + 1, h => by
    have ih := Bnd.ev_get d k (by simpa using h)
    rw [List.flatMap_cons, Bnd.ev]
    rw [show (k + 1) * 3 = k * 3 + 1 + 1 + 1 by omega, show k * 3 + 1 + 1 + 1 + 1 = (k * 3 + 1) + 1 + 1 + 1 by omega, show k * 3 + 1 + 1 + 1 + 2 = (k * 3 + 2) + 1 + 1 + 1 by omega]
    simpa using ih
theorem Bnd.ev_length (d : List (Bnd × Value)) : (d.flatMap Bnd.ev).length = d.length * 3 := by
  induction d with
  | nil => rfl
  | cons p d ih => rw [List.flatMap_cons, List.length_append, ih, List.length_cons]; show 3 + _ = _; omega
theorem Bnd.ev_set : ∀ (d : List (Bnd × Value)) (k : Nat) (p : Bnd × Value) (_ : k < d.length), (((d.flatMap Bnd.ev).set (k * 3) (.string p.1.var)).set (k * 3 + 1) (.string p.1.term.name)).set (k * 3 + 2) p.2 = (d.set k p).flatMap Bnd.ev
  | [], k, _, h => absurd h (by simp)
  | q :: d, 0, p, _ => by simp [Bnd.ev]
  | q :: d, k + 1, p, h => by
    have ih := Bnd.ev_set d k p (by simpa using h)
    rw [List.set_cons_succ, List.flatMap_cons, List.flatMap_cons, Bnd.ev]
    rw [show (k + 1) * 3 = k * 3 + 1 + 1 + 1 by omega, show k * 3 + 1 + 1 + 1 + 1 = (k * 3 + 1) + 1 + 1 + 1 by omega, show k * 3 + 1 + 1 + 1 + 2 = (k * 3 + 2) + 1 + 1 + 1 by omega]
    simpa using ih
theorem Bnd.ev_take (d : List (Bnd × Value)) (k : Nat) : ∀ i, i < k * 3 → (d.flatMap Bnd.ev)[i]? = ((d.take k).flatMap Bnd.ev)[i]? := by
  intro i hi
  have e : d.flatMap Bnd.ev = (d.take k).flatMap Bnd.ev ++ (d.drop k).flatMap Bnd.ev := by rw [← List.flatMap_append, List.take_append_drop]
  rw [e]
  by_cases hk : k ≤ d.length
  · rw [List.getElem?_append_left (by rw [Bnd.ev_length, List.length_take, Nat.min_eq_left hk]; exact hi)]
  · rw [List.drop_eq_nil_of_le (by omega)]; simp

end Go.Proofs.YtglhbaigigdeeaaGreat
/- Terms that a call owns are marked. -/
namespace Go.Proofs.YtglhbaigigdeeaaGreat
set_option maxRecDepth 100000
open Go.RowKit

mutual
/-- an element of a list of terms with its marks from k on -/
def Tm.mke : Tm → Nat → Tm
  | .node _ ts, k => .node (bs (mtext k)) (Tm.mks ts (k + 1))
def Tm.mks : List Tm → Nat → List Tm
  | [], _ => []
  | t :: ts, k => Tm.mke t k :: Tm.mks ts (k + t.size)
end
theorem Tm.mks_length : ∀ (ts : List Tm) (k : Nat), (Tm.mks ts k).length = ts.length
  | [], k => by simp [Tm.mks]
  | t :: ts, k => by rw [Tm.mks, List.length_cons, List.length_cons, Tm.mks_length ts]
theorem Tm.mks_snoc : ∀ (ts : List Tm) (t : Tm) (k : Nat), Tm.mks (ts ++ [t]) k = Tm.mks ts k ++ [Tm.mke t (k + Tm.sizes ts)]
  | [], t, k => by simp [Tm.mks, Tm.sizes]
  | s :: ts, t, k => by rw [List.cons_append, Tm.mks, Tm.mks_snoc ts t, Tm.mks, Tm.sizes, Nat.add_assoc]; rfl
theorem Tm.mke_eq (t : Tm) (k : Nat) : Tm.mke t k = .node (bs (mtext k)) (Tm.mks t.args (k + 1)) := by cases t; rw [Tm.mke]; rfl
theorem Tm.css_set0 (m : ByteArray) : ∀ (L : List Tm) (j : Nat) (h : j < L.length), (Tm.css L).set (j * 2) (.str m) = Tm.css (L.set j (.node m L[j].args))
  | [], j, h => absurd h (by simp)
  | t :: L, 0, _ => by cases t; simp [Tm.css, Tm.cs, Tm.args]
  | t :: L, j + 1, h => by
    have ih := Tm.css_set0 m L j (by simpa using h)
    cases t
    rw [List.set_cons_succ, Tm.css, Tm.css, List.getElem_cons_succ, ← ih, Tm.cs, show (j + 1) * 2 = j * 2 + 2 by omega]
    rfl
theorem Tm.css_set1 (us : List Tm) : ∀ (L : List Tm) (j : Nat) (h : j < L.length), (Tm.css L).set (j * 2 + 1) (Tm.sd us) = Tm.css (L.set j (.node L[j].name us))
  | [], j, h => absurd h (by simp)
  | t :: L, 0, _ => by cases t; simp [Tm.css, Tm.cs, Tm.name, Tm.sd]
  | t :: L, j + 1, h => by
    have ih := Tm.css_set1 us L j (by simpa using h)
    cases t
    rw [List.set_cons_succ, Tm.css, Tm.css, List.getElem_cons_succ, ← ih, Tm.cs, show (j + 1) * 2 + 1 = j * 2 + 1 + 2 by omega]
    rfl
theorem Tm.css_len (L : List Tm) : (Tm.css L).length = L.length * 2 := by rw [Tm.css_flat, flat_length Tm.cs_wide]
theorem Tm.css_get0 : ∀ (L : List Tm) (j : Nat) (h : j < L.length) (h' : j * 2 < (Tm.css L).length), (Tm.css L)[j * 2] = .str L[j].name
  | [], j, h, _ => absurd h (by simp)
  | t :: L, 0, _, _ => by cases t; simp [Tm.css, Tm.cs, Tm.name]
  | t :: L, j + 1, h, h' => by
    have ih := Tm.css_get0 L j (by simpa using h) (by rw [Tm.css_len]; simp at h; omega)
    cases t
    simp only [Tm.css, Tm.cs, show (j + 1) * 2 = j * 2 + 1 + 1 by omega, List.cons_append, List.getElem_cons_succ, List.nil_append]
    exact ih
theorem Tm.css_get1 : ∀ (L : List Tm) (j : Nat) (h : j < L.length) (h' : j * 2 + 1 < (Tm.css L).length), (Tm.css L)[j * 2 + 1] = Tm.sd L[j].args
  | [], j, h, _ => absurd h (by simp)
  | t :: L, 0, _, _ => by cases t; simp [Tm.css, Tm.cs, Tm.args, Tm.sd]
  | t :: L, j + 1, h, h' => by
    have ih := Tm.css_get1 L j (by simpa using h) (by rw [Tm.css_len]; simp at h; omega)
    cases t
    simp only [Tm.css, Tm.cs, show (j + 1) * 2 + 1 = j * 2 + 1 + 1 + 1 by omega, List.cons_append, List.getElem_cons_succ, List.nil_append]
    exact ih

/-- the list of which j terms are marked -/
def Tm.mix (ts : List Tm) (k j : Nat) : List Tm := Tm.mks (ts.take j) k ++ ts.drop j
theorem Tm.mix_length (ts : List Tm) (k j : Nat) : (Tm.mix ts k j).length = ts.length := by
  rw [Tm.mix, List.length_append, Tm.mks_length, List.length_take, List.length_drop]; omega
theorem Tm.mix_get (ts : List Tm) (k j : Nat) (h : j < ts.length) (h' : j < (Tm.mix ts k j).length) : (Tm.mix ts k j)[j] = ts[j] := by
  simp only [Tm.mix]
  rw [List.getElem_append_right (by rw [Tm.mks_length, List.length_take]; omega)]
  simp only [Tm.mks_length, List.length_take, List.getElem_drop, show min j ts.length = j by omega, Nat.sub_self, Nat.add_zero]
theorem Tm.mix_set (ts : List Tm) (k j : Nat) (h : j < ts.length) : (Tm.mix ts k j).set j (Tm.mke ts[j] (k + Tm.sizes (ts.take j))) = Tm.mix ts k (j + 1) := by
  have hl : (Tm.mks (ts.take j) k).length = j := by rw [Tm.mks_length, List.length_take]; omega
  rw [Tm.mix, List.set_append_right _ _ (by omega), hl, Nat.sub_self, Tm.mix, List.take_succ_eq_append_getElem h, Tm.mks_snoc, List.append_assoc, List.drop_eq_getElem_cons h]
  rfl

def MarkS (ts : List Tm) : Prop := ∀ (k : Nat) (v : Value) (F : List Nat) (w : World), k + Tm.sizes ts ≤ 1099511627776 → D.own w v (Tm.sd ts) F →
  Calls Tryz.prog 33 #[v, .int .i64 k] w fun e w' => e = .returned (.int .i64 (k + Tm.sizes ts : Nat)) ∧ Mk F w w' ∧ D.own w' v (Tm.sd (Tm.mks ts k)) F
theorem own_same {w : World} {b off n cap m : Nat} {cs : List D} {F : List Nat} (h : D.own w (.slice (some ⟨b, off, none⟩) n cap) (.sl m cs) F) : n = m := by
  rw [D.own] at h; obtain ⟨_, _, e, _⟩ := h; injection e
set_option maxHeartbeats 2000000 in
theorem markTermS_of (ts : List Tm) (h : ∀ t ∈ ts, MarkS t.args) : MarkS ts := by
  intro k v F w hk ho
  obtain ⟨a, cap, rfl⟩ := Tm.sd_own_form ho
  obtain ⟨_, _, ef, hlen, _⟩ := Tm.sd_form (D.own_rd _ _ _ ho)
  unfold big at hlen
  clear ef
  go_enter Tryz.func33, Tryz.ntmps33
  go_wp2_with fail
  go_loopw [1, 5] (fun x i wr => ∃ j : Nat, j ≤ ts.length ∧ i = .int .i64 j ∧ x = .int .i64 (k + Tm.sizes (ts.take j) : Nat) ∧ Hid (D.own wr (.slice a ts.length cap) (Tm.sd (Tm.mix ts k j)) F) ∧ Mk F w wr) (fun _ i _ => ts.length - (intOf i).toNat)
  case atStart => exact ⟨0, Nat.zero_le _, rfl, by simp [Tm.sizes], by rw [Tm.mix, List.take_zero, Tm.mks, List.nil_append, List.drop_zero]; exact ho, Mk.refl _ _⟩
  case round =>
    obtain ⟨j, hj, rfl, rfl, HO, hm⟩ := hrel
    by_cases hlt : j < ts.length
    · have hl := Tm.mix_length ts k j
      have hst := Tm.sizes_take ts j hlt
      have hsl := Tm.sizes_le ts (j + 1)
      obtain ⟨q, HQ⟩ : ∃ q, Hid (k + Tm.sizes (ts.take j) = q) := ⟨_, hid rfl⟩
      rw [HQ.out]
      have hsz : ts[j].size = 1 + Tm.sizes ts[j].args := by cases ts[j]; rw [Tm.size]; rfl
      have hq : q + 1 + Tm.sizes ts[j].args ≤ 1099511627776 := by have := HQ.out; omega
      have HE : Hid (q + 1 + Tm.sizes ts[j].args = k + Tm.sizes (ts.take (j + 1))) := by have := HQ.out; show _ = _; omega
      have hne : Tm.mix ts k j ≠ [] := by intro e; rw [e] at hl; simp at hl; omega
      have hcl := Tm.css_len (Tm.mix ts k j)
      have hcne : Tm.css (Tm.mix ts k j) ≠ [] := by intro e; rw [e] at hcl; simp at hcl; omega
      obtain ⟨-, b, off, F', rfl, rfl, hbF, hbl, hfr, -⟩ := D.own_slice HO.out hcne
      have HMT := markText_any q (by omega) wr
      clear hst hsl hsz
      go_wp2_with fail
      refine HMT.mono ?_
      rintro e w1 ⟨_, rfl, hb1, rfl⟩
      have HO1 := hid (D.own_keep _ _ _ (Keeps.all hb1) HO.out)
      obtain ⟨b', off', e, -, -, hrr⟩ := Tm.sd_get (D.own_rd _ _ _ HO1.out) hne
      obtain ⟨rfl, rfl⟩ : b = b' ∧ off = off' := by injection e with e; injection e with e1 e2; exact ⟨e1, e2⟩
      obtain ⟨c0, c1, x0, x1, -⟩ := hrr j (by omega)
      obtain ⟨-, _, _, _, e2, e3, -, -, hfr1, -⟩ := D.own_slice HO1.out hcne
      obtain ⟨rfl, rfl⟩ : _ = _ ∧ _ = _ := by injection e2 with e2; injection e2 with e1 e2; exact ⟨e1, e2⟩
      have hf0 := hfr1 (off + j * 2)
      have HN : Hid (D.own (w1.setCell ⟨b, off + j * 2, none⟩ (.string (bs (mtext q)))) (.slice (some ⟨b, off, none⟩) ts.length cap) (.sl ts.length (Tm.css ((Tm.mix ts k j).set j (.node (bs (mtext q)) ts[j].args)))) (b :: F')) := by
        have h0 := HO1.out
        rw [Tm.sd, hl] at h0
        have h1 := D.own_store h0 (j := j * 2) (u := .string (bs (mtext q))) (d' := .str (bs (mtext q))) (by omega) (fun v G hv => ?_) (fun w' => D.own_str (by rw [bs_size]; have := mtext_length q; unfold maxLen; omega))
        · rw [Tm.css_set0 _ _ _ (by omega), Tm.mix_get _ _ _ hlt] at h1; exact h1
        · rw [Tm.css_get0 _ _ (by omega), D.own] at hv
          exact hv.2.2
      obtain ⟨Fj, vj, y0, y1, hsub, hbj, hup⟩ := D.own_sub HN.out (j := j * 2 + 1) (by rw [Tm.css_len, List.length_set]; omega)
      rw [Tm.css_get1 _ _ (by rw [List.length_set]; omega), List.getElem_set_self] at y1
      have y2 : w1.cell? ⟨b, off + j * 2 + 1, none⟩ = some vj := by
        have y3 := y0
        rw [World.cell?_setCell_other _ _ _ _ (by intro e; injection e with _ e; omega)] at y3
        exact y3
      obtain rfl : c1 = vj := by rw [x1] at y2; injection y2
      have HU := hid hup
      have hsw := World.size_setCell w1 ⟨b, off + j * 2, none⟩ (.string (bs (mtext q)))
      have HM1 := hid ((hm.trans (Mk.of_below hb1)).trans (Mk.set (p := off + j * 2) (List.mem_cons_self ..) (.string (bs (mtext q)))))
      have HR := h ts[j] (List.getElem_mem hlt) (q + 1) _ _ _ (by omega) y1
      rw [show ((q + 1 : Nat) : Int) = (q : Int) + 1 from by omega] at HR
      clear hrr hfr hfr1 e e2 e3 hb1 HMT hup hsw y0 y1 y2
      go_wp2_with fail
      refine HR.mono ?_
      rintro e w2 ⟨rfl, hm2, ho2⟩
      have HX := hid (HU.out w2 _ ho2 hm2.1)
      have HM2 := hid (HM1.out.trans (hm2.mono hsub))
      have HN2 : Hid (D.own w2 (.slice (some ⟨b, off, none⟩) ts.length cap) (Tm.sd (Tm.mix ts k (j + 1))) (b :: F')) := by
        have h1 := HX.out
        rw [Tm.css_set1 _ _ _ (by rw [List.length_set]; omega), List.getElem_set_self, List.set_set] at h1
        rw [Hid, Tm.sd, Tm.mix_length, ← Tm.mix_set _ _ _ hlt, HQ.out, Tm.mke_eq]
        exact h1
      rw [HE.out]
      clear HR hm2 ho2
      go_wp2_with fail
      go_roundw
      case rel => exact ⟨j + 1, by omega, by go_num, rfl, HN2, HM2.out⟩
      case measure => simp [intOf]; omega
    · obtain rfl : j = ts.length := by omega
      go_wp2_with fail
      go_ret
      refine ⟨by rw [List.take_length]; rfl, hm, ?_⟩
      have := HO.out
      rwa [Tm.mix, List.take_length, List.drop_length, List.append_nil] at this
theorem markTermS_any (ts : List Tm) : MarkS ts := by
  have key : ∀ t : Tm, MarkS t.args := fun t => Tm.ind (P := fun t => MarkS t.args) (fun n ts h => markTermS_of ts h) t
  exact key (.node ByteArray.empty ts)
end Go.Proofs.YtglhbaigigdeeaaGreat
