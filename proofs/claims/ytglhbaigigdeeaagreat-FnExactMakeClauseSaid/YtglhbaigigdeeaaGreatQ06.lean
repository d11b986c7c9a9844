/- Several texts in one file. -/
import Derived.WalkKit
import Derived.Test.YtglhbaigigdeeaaGreatRows
import Derived.Test.YtglhbaigigdeeaaGreatQ02
import Derived.WalkSpells
import Derived.WalkLawsBesides
import Derived.Test.YtglhbaigigdeeaaGreatQ01
import Derived.Test.YtglhbaigigdeeaaGreatQ03
/- No run takes a draw back: the number of draws never falls. -/
namespace Go.Proofs.YtglhbaigigdeeaaGreat.Drw
set_option maxRecDepth 100000
open Go

def ResUp {α : Type} (n : Nat) : Result α → Prop
  | .ok _ w => n ≤ w.drawn
  | .halt _ w => n ≤ w.drawn

theorem ask_up {α : Type} (n : Nat) : ∀ (a : Ask α) (w : World), n ≤ w.drawn → n ≤ (w.ask a).2.drawn
  | .done a, w, h => by simpa [World.ask] using h
  | .ask what range k, w, h => by
    unfold World.ask
    simp only
    split
    · exact ask_up n _ w h
    · exact ask_up n _ _ (by show n ≤ w.drawn + 1; omega)

theorem sys_up (n : Nat) (w : World) (c : Sys) (h : n ≤ w.drawn) : n ≤ (w.sys c).2.drawn := by
  unfold World.sys
  have := ask_up n (Kernel.perform c w.os) w h
  split
  · exact h
  · rename_i e
    rw [e] at this
    exact this

theorem viewStore_drawn {p : Program} {w : World} {a : Addr} {u : TypeId} {k : Addr} {v : Value} {at_ : Bool} {w' : World} {l : List Addr} (h : w.viewStore p a u k v at_ = .ok (w', l)) : w'.drawn = w.drawn := by
  unfold World.viewStore at h
  simp only [bind, Except.bind, pure, Except.pure] at h
  repeat' (split at h <;> try (cases h; done))
  all_goals first | (cases h; rfl) | (simp at h; obtain ⟨rfl, -⟩ := h; rfl) | skip

theorem farStore_drawn {p : Program} {w : World} {a : Addr} {v : Value} {at_ : Bool} {w' : World} {l : List Addr} (h : w.farStore p a v at_ = .ok (w', l)) : w'.drawn = w.drawn := by
  unfold World.farStore at h
  split at h
  · split at h
    · rename_i e; injection h with h; subst h; exact viewStore_drawn e
    · cases h
  · cases h

theorem freeze_drawn (w : World) (a : Addr) (n : Nat) : (w.freeze a n).drawn = w.drawn := by
  unfold World.freeze; split <;> rfl

theorem run_up {α : Type} (p : Program) (n : Nat) (s : Sem α) : ∀ (w : World), n ≤ w.drawn → ResUp n (s.run p w) := by
  induction s with
  | pure a => intro w h; exact h
  | load m a k ih =>
    intro w h
    unfold Sem.run
    split
    · exact ih _ w h
    · split
      · exact ih _ w h
      · exact h
  | store m a v k ih =>
    intro w h
    have key : ResUp n (match w.cell? a with
        | some _ => if w.frozen? a then .halt (.unsupported (.unsafePointer "a write to bytes that a string shares")) w else k.run p (w.setCell a v)
        | none => match w.farStore p a v (m == .atomic) with
          | .ok (w, _) => k.run p w
          | .error h => .halt h w) := by
      split
      · split
        · exact h
        · exact ih _ h
      · split
        · rename_i e; exact ih _ (by rw [farStore_drawn e]; exact h)
        · exact h
    cases v with
    | agg c => exact h
    | tuple c => exact h
    | _ => exact key
  | new o k ih => intro w h; exact ih _ _ h
  | shape r k ih => intro w h; exact ih _ _ h
  | freeze a m k ih => intro w h; exact ih _ (by rw [freeze_drawn]; exact h)
  | frozen a k ih => intro w h; exact ih _ _ h
  | getObj r k ih =>
    intro w h
    unfold Sem.run
    split
    · exact h
    · exact ih _ w h
    · exact h
  | setObj r o k ih =>
    intro w h
    unfold Sem.run
    split
    · exact h
    · exact ih _ h
    · exact h
  | choose q k ih =>
    intro w h
    unfold Sem.run
    split
    · exact ih _ _ h
    · exact ih _ _ (by show n ≤ w.drawn + 1; omega)
  | sys c k ih => intro w h; exact ih _ _ (sys_up n w c h)
  | program k ih => intro w h; exact ih _ _ h
  | mark m k ih => intro w h; exact ih _ h
  | halt h' => intro w h; exact h

theorem runT_up {α : Type} (p : Program) (n : Nat) (s : Sem α) : ∀ (w : World) (es : Array Event), n ≤ w.drawn → ResUp n (s.runT p w es).1 := by
  induction s with
  | pure a => intro w es h; exact h
  | load m a k ih =>
    intro w es h
    unfold Sem.runT
    split
    · exact ih _ w _ h
    · split
      · exact ih _ w _ h
      · exact h
  | store m a v k ih =>
    intro w es h
    have key : ResUp n (match w.cell? a with
        | some _ =>
          if w.frozen? a then ((.halt (.unsupported (.unsafePointer "a write to bytes that a string shares")) w, es) : Result _ × Array Event)
          else k.runT p (w.setCell a v) (es.push ⟨.cell a, true, m == Mode.atomic⟩)
        | none => match w.farStore p a v (m == Mode.atomic) with
          | .ok (w, touched) => k.runT p w (es ++ touched.toArray.map (fun x => (⟨.cell x, true, m == Mode.atomic⟩ : Event)))
          | .error h => (.halt h w, es)).1 := by
      split
      · split
        · exact h
        · exact ih _ _ h
      · split
        · rename_i e; exact ih _ _ (by rw [farStore_drawn e]; exact h)
        · exact h
    cases v with
    | agg c => exact h
    | tuple c => exact h
    | _ => exact key
  | new o k ih => intro w es h; exact ih _ _ _ h
  | shape r k ih => intro w es h; exact ih _ _ _ h
  | freeze a m k ih => intro w es h; exact ih _ _ (by rw [freeze_drawn]; exact h)
  | frozen a k ih => intro w es h; exact ih _ _ _ h
  | getObj r k ih =>
    intro w es h
    unfold Sem.runT
    split
    · exact h
    · exact ih _ w _ h
    · exact h
  | setObj r o k ih =>
    intro w es h
    unfold Sem.runT
    split
    · exact h
    · exact ih _ _ h
    · exact h
  | choose q k ih =>
    intro w es h
    unfold Sem.runT
    split
    · exact ih _ _ _ h
    · exact ih _ _ _ (by show n ≤ w.drawn + 1; omega)
  | sys c k ih => intro w es h; exact ih _ _ _ (sys_up n w c h)
  | program k ih => intro w es h; exact ih _ _ _ h
  | mark m k ih => intro w es h; exact ih _ _ h
  | halt h' => intro w es h; exact h

theorem run_ok {α : Type} {p : Program} {n : Nat} {s : Sem α} {w : World} {a : α} {w' : World} (e : s.run p w = .ok a w') (h : n ≤ w.drawn) : n ≤ w'.drawn := by
  have := run_up p n s w h; rw [e] at this; exact this

theorem runT_ok {α : Type} {p : Program} {n : Nat} {s : Sem α} {w : World} {es es' : Array Event} {a : α} {w' : World} (e : s.runT p w es = (.ok a w', es')) (h : n ≤ w.drawn) : n ≤ w'.drawn := by
  have := runT_up p n s w es h; rw [e] at this; exact this
theorem runT_halt {α : Type} {p : Program} {n : Nat} {s : Sem α} {w : World} {es es' : Array Event} {a : Halt} {w' : World} (e : s.runT p w es = (.halt a w', es')) (h : n ≤ w.drawn) : n ≤ w'.drawn := by
  have := runT_up p n s w es h; rw [e] at this; exact this
def GUp (n : Nat) : GStep → Prop
  | .go _ w _ | .comm _ _ _ _ w _ | .spawn _ _ w _ | .count _ w _ | .timer _ _ w _ | .alone _ _ w _ | .newcoro _ _ _ w _ | .coroswitch _ _ _ w _ | .collect _ w _ | .watch _ w _ => n ≤ w.drawn
  | .ended .. => True

theorem after_up {n : Nat} {es : Array Event} {s : GStep} (h : GUp n s) : GUp n (s.after es) := by
  cases s <;> exact h

def SUp (n : Nat) : Stepped → Prop
  | .next m => n ≤ m.world.drawn
  | .ended .. => True

theorem dieOf_up {n : Nat} {fr : Frame} {l : List ByteArray} {m : String} {b : Bool} {w : World} (h : n ≤ w.drawn) : GUp n (dieOf fr l m b w) := h
theorem endThrow_up {n : Nat} {fr : Frame} {m : String} {w : World} (h : n ≤ w.drawn) : GUp n (endThrow fr m w) := h
theorem endWith_up {n : Nat} {w : World} {fd : Nat} {t : ByteArray} {o : Outcome} : GUp n (endWith w fd t o) := by
  unfold endWith
  simp only
  split
  · split <;> trivial
  · trivial
  · trivial
theorem endPrinting_up {n : Nat} {p : Program} {fr : Frame} {v : Value} {w : World} (h : n ≤ w.drawn) : GUp n (endPrinting p fr v w) := by
  unfold endPrinting
  simp only
  split
  · exact h
  · trivial
theorem endFatal_up {n : Nat} {p : Program} {fr : Frame} {cs : List Frame} {d : Option Dying} {m : String} {w : World} (h : n ≤ w.drawn) : GUp n (endFatal p fr cs d m w) := by
  unfold endFatal
  simp only
  split
  · rename_i e; exact run_ok e h
  · trivial
  · trivial
theorem writeOn_up {n : Nat} {p : Program} {fr : Frame} {d : Dying} {f : Fatal} {w : World} (h : n ≤ w.drawn) : GUp n (writeOn p fr d f w) := by
  unfold writeOn
  split
  · trivial
  · dsimp only
    generalize hs : Sem.runT p _ w #[] = re
    have hr : ResUp n re.1 := hs ▸ runT_up p n _ w #[] h
    clear hs
    obtain ⟨r, es⟩ := re
    split
    · rename_i e; injection e with e1 e2; subst e1; exact hr
    · rename_i e; injection e with e1 e2; subst e1; exact hr
    · trivial
    · trivial
theorem die_up {n : Nat} {p : Program} {fr : Frame} {d : Dying} {w : World} (h : n ≤ w.drawn) : GUp n (die p fr d w) := by
  unfold die
  split
  · exact writeOn_up h
  · split
    · split
      · exact h
      · exact endWith_up
    · simp only
      split
      · exact h
      · split
        · rename_i e; exact run_ok e h
        · trivial
      · refine after_up ?_
        rename_i t recv name _
        have hr := runT_up p n (invoke (.fn (.method name) #[]) #[.iface t recv]) w #[] h
        revert hr
        generalize (Sem.runT p (invoke (.fn (.method name) #[]) #[.iface t recv]) w #[]).1 = r
        intro hr
        split
        · exact hr
        · exact hr
        · trivial
        · exact endPrinting_up hr
        · trivial
      · trivial
theorem doReturn_up {n : Nat} {p : Program} {b : Bool} {fr : Frame} {cs : List Frame} {d : Option Dying} {v : Value} {w : World} (h : n ≤ w.drawn) : GUp n (doReturn p b fr cs d v w) := by
  unfold doReturn
  split
  · split
    · exact h
    · exact h
    · exact h
    · exact h
  · split
    · exact h
    · trivial
    · split
      · exact h
      · split
        · exact h
        · trivial
theorem callDeferred_up {n : Nat} {p : Program} {fr : Frame} {cs : List Frame} {dy : Option Dying} {d : Deferred} {w : World} (h : n ≤ w.drawn) : GUp n (callDeferred p fr cs dy d w) := by
  unfold callDeferred
  have hr := runT_up p n (invoke d.target d.args) w #[] h
  revert hr
  generalize Sem.runT p (invoke d.target d.args) w #[] = re
  obtain ⟨r, es⟩ := re
  intro hr
  generalize ((d.target matches .nil) && (fr.mode matches .panicking _)) = c
  cases c
  · rw [if_neg (by decide)]
    dsimp only at hr ⊢
    refine after_up ?_
    split
    all_goals first | trivial | exact hr | exact endFatal_up hr | exact endThrow_up hr | skip
    · split <;> exact hr
  · exact trivial
theorem unwind_up {n : Nat} {p : Program} {b : Bool} {fr : Frame} {cs : List Frame} {dy : Option Dying} {w : World} (h : n ≤ w.drawn) : GUp n (unwind p b fr cs dy w) := by
  unfold unwind
  split
  · generalize hs : Sem.runT p _ w #[] = re
    have hr : ResUp n re.1 := hs ▸ runT_up p n _ w #[] h
    clear hs
    obtain ⟨r, es⟩ := re
    dsimp only at hr ⊢
    refine after_up ?_
    split
    · exact hr
    · trivial
  · exact callDeferred_up h
  · split
    · trivial
    · split
      · trivial
      · split
        · exact h
        · split
          · split
            · exact h
            · split
              · rename_i e; exact run_ok e h
              · trivial
              · trivial
          · split
            · exact endPrinting_up h
            · trivial
    · split
      · exact doReturn_up h
      · rename_i fn _
        have hr := runT_up p n (results fn fr.tmps) w #[] h
        revert hr
        generalize Sem.runT p (results fn fr.tmps) w #[] = re
        obtain ⟨r, es⟩ := re
        intro hr
        simp only at hr ⊢
        refine after_up ?_
        split
        · exact doReturn_up hr
        · trivial
        · trivial
theorem early_up {n : Nat} {p : Program} {fr : Frame} {cs : List Frame} {dy : Option Dying} {g : Nat} {w : World} (h : n ≤ w.drawn) : GUp n (early p fr cs dy g w) := by
  have hn : ∀ w : World, n ≤ w.drawn → GUp n (match w.heap[g]? with
    | some (.pending c elem) => .go { frame := fr, callers := cs, status := .running, dying := dy } { w with heap := w.heap.setIfInBounds g (.cells c elem) }
    | _ => .ended (.stuck "early: the variable does not wait" (fr.pos p)) w) := by
    intro w h
    split
    · exact h
    · trivial
  unfold early
  simp only
  split
  · exact hn w h
  · split
    · trivial
    · split
      · exact hn w h
      · split
        · exact hn w h
        · split
          · trivial
          · exact h
          · trivial
          · exact hn w h
          · split
            · exact h
            · split
              · exact hn w h
              · split
                · rename_i e; exact hn _ (run_ok e h)
                · rename_i e; exact run_ok e h
                · trivial
theorem apply_up {n : Nat} {p : Program} {l : Bool} {fr : Frame} {cs : List Frame} {dy : Option Dying} {s : Sem Next} {w : World} (h : n ≤ w.drawn) : GUp n (stepG.apply p l fr cs dy s w) := by
  unfold stepG.apply
  have hr : ResUp n (if l = true then s.runT p w #[] else (s.run p w, #[])).1 := by
    split
    · exact runT_up p n s w #[] h
    · exact run_up p n s w h
  revert hr
  generalize (if l = true then s.runT p w #[] else (s.run p w, #[])) = re
  obtain ⟨r, es⟩ := re
  intro hr
  simp only at hr ⊢
  refine after_up ?_
  split
  all_goals first | trivial | exact hr | exact endFatal_up hr | exact endThrow_up hr | exact early_up hr | skip
  all_goals (split <;> first | trivial | exact hr | exact endThrow_up hr | (split <;> first | exact hr | exact endThrow_up hr))
theorem oper_up {n : Nat} {p : Program} {l : Bool} {fr : Frame} {cs : List Frame} {dy : Option Dying} {w : World} (h : n ≤ w.drawn) : GUp n (stepG.oper p l fr cs dy w) := by
  unfold stepG.oper
  split
  · trivial
  · split <;> exact apply_up h
theorem leave_up {n : Nat} {p : Program} {b : Bool} {fr : Frame} {cs : List Frame} {dy : Option Dying} {w : World} {s : Sem Value} (h : n ≤ w.drawn) :
    GUp n (match s.runT p w #[] with
      | (r, es) => GStep.after (seen p fr.fn es) (match r with
        | .ok v w => doReturn p b fr cs dy v w
        | .halt _ w => .ended (.stuck "range over a function: no such loop" (fr.pos p)) w)) := by
  have hr := runT_up p n s w #[] h
  revert hr
  generalize Sem.runT p s w #[] = re
  obtain ⟨r, es⟩ := re
  intro hr
  simp only at hr ⊢
  refine after_up ?_
  split
  · exact doReturn_up hr
  · trivial
theorem exec_up {n : Nat} {p : Program} {b l : Bool} {fr : Frame} {cs : List Frame} {dy : Option Dying} {w : World} (h : n ≤ w.drawn) : GUp n (stepG.exec p b l fr cs dy w) := by
  have hl : ∀ jump : Option Code, GUp n (match fr.roundOf with
      | none => if jump matches none | some .ret then .go { frame := { fr with mode := .returning }, callers := cs, status := .running, dying := dy } w else .ended (.stuck "exit, goto: no such block or label" (fr.pos p)) w
      | some l =>
        let (r, es) := (Instr.endRound l jump).runT p w #[]
        GStep.after (seen p fr.fn es) <| match r with
        | .ok v w => doReturn p b fr cs dy v w
        | .halt _ w => .ended (.stuck "range over a function: no such loop" (fr.pos p)) w) := by
    intro jump
    split
    · generalize (jump matches none | some .ret) = c
      cases c
      · exact trivial
      · exact h
    · exact leave_up h
  unfold stepG.exec
  dsimp only
  split
  · exact hl none
  · exact hl (some .ret)
  · exact h
  · exact h
  · exact h
  · exact h
  · exact h
  · split
    · exact h
    · trivial
  · exact h
  · exact h
  · exact h
  · exact h
  · rename_i id k _
    cases exitTo id k with
    | none => exact hl (some (.exit id))
    | some t => exact h
  · rename_i id k _
    cases gotoIn id k with
    | none => exact hl (some (.goto id))
    | some t => exact h
  · rename_i f params assign body k _
    have hr := runT_up p n (Instr.enterLoop fr.fn fr.tmps params assign body fr.roundOf) w #[] h
    revert hr
    generalize Sem.runT p (Instr.enterLoop fr.fn fr.tmps params assign body fr.roundOf) w #[] = re
    obtain ⟨r, es⟩ := re
    intro hr
    dsimp only at hr ⊢
    refine after_up ?_
    split
    · exact apply_up hr
    · trivial
  · trivial
  · exact apply_up h
  · rename_i l k _
    have hr := runT_up p n (Instr.endLoop l) w #[] h
    revert hr
    generalize Sem.runT p (Instr.endLoop l) w #[] = re
    obtain ⟨r, es⟩ := re
    intro hr
    dsimp only at hr ⊢
    refine after_up ?_
    split
    · exact hr
    · exact hr
    · trivial
  · trivial
  · exact apply_up h
  · rename_i row args k _
    cases Extern.next row with
    | none => trivial
    | some e => exact apply_up h
  · split
    · exact h
    · split
      · rename_i e; exact run_ok e h
      · trivial
  · exact h
  · split
    · exact oper_up h
    · exact h
theorem stepG_up {n : Nat} {p : Program} {b l : Bool} {g : Goroutine} {w : World} (h : n ≤ w.drawn) : GUp n (stepG p b g w l) := by
  unfold stepG
  obtain ⟨fr, cs, st, dy, of⟩ := g
  simp only
  split
  · exact die_up h
  · exact exec_up h
  · exact unwind_up h
theorem site_up {n : Nat} {c : Prop} [Decidable c] {a b : Stepped} (ha : SUp n a) (hb : SUp n b) : SUp n (if c then a else b) := by split <;> assumption
theorem look_up {n : Nat} {p : Program} {gs : Array Goroutine} {r : Rest} {w : World} (h : n ≤ w.drawn) : SUp n (look p gs r w) := by
  unfold look
  split
  · dsimp only
    refine site_up trivial ?_
    generalize Option.bind _ _ = o
    cases o with
    | none => exact trivial
    | some held =>
      dsimp only
      generalize hs : Sem.run p _ w = re
      have hr : ResUp n re := hs ▸ run_up p n _ w h
      clear hs
      split
      · exact hr
      · trivial
      · trivial
  · trivial
theorem pite_up {n : Nat} {c : Prop} [Decidable c] {a b : Stepped × Array MemOp} (ha : SUp n a.1) (hb : SUp n b.1) : SUp n (if c then a else b).1 := by split <;> assumption
theorem waiting_up {n : Nat} {r : Rest} {cs : Array CommCase} {w w' : World} (h : n ≤ w.drawn) (e : waitingAt r cs w = some w') : n ≤ w'.drawn := by
  unfold waitingAt at e
  split at e
  · split at e
    · injection e with e; subst e; exact h
    · cases e
  · injection e with e; subst e; exact h
theorem communicate_up {n : Nat} {p : Program} {r : Rest} {gs : Array Goroutine} {i : Nat} {g : Goroutine} {cs : Array CommCase} {bl : Bool} {sh : CommShape} {w : World} (h : n ≤ w.drawn) : SUp n (communicate p r gs i g cs bl sh w).1 := by
  unfold communicate
  dsimp only
  refine pite_up trivial (pite_up (pite_up ?_ h) ?_)
  · cases hw : waitingAt r cs w with
    | none => exact trivial
    | some w' => exact waiting_up h hw
  · generalize hs : Sem.run p _ w = re
    have hr : ResUp n re := hs ▸ run_up p n _ w h
    clear hs
    cases re with
    | halt x w1 => exact trivial
    | ok a w1 =>
      obtain ⟨k, c, way⟩ := a
      have h1 : n ≤ w1.drawn := hr
      dsimp only
      split
      · generalize hs : Sem.run p _ w1 = re
        have hr : ResUp n re := hs ▸ run_up p n _ w1 h1
        clear hs
        split
        · exact hr
        · trivial
      · exact h1
      · exact h1
      · split
        · exact h1
        · generalize hs : Sem.run p _ w1 = re
          have hr : ResUp n re := hs ▸ run_up p n _ w1 h1
          clear hs
          cases re with
          | halt x w2 => exact trivial
          | ok a w2 => exact hr
      · exact h1
      · exact h1
      · trivial
theorem timerOp_up {n : Nat} {m : Machine} {op : TimerOp} {v : Value} {m' : Machine} (h : n ≤ m.world.drawn) (e : timerOp m op = .ok (v, m')) : n ≤ m'.world.drawn := by
  have hd : ∀ (w : World) (c : Nat), (drain w c).2.drawn = w.drawn := by intro w c; unfold drain; split <;> rfl
  have hre : ∀ (m : Machine) k t wh pe, (retime m k t wh pe).2.world.drawn = m.world.drawn := by
    intro m k t wh pe
    unfold retime
    simp only
    split
    · exact hd _ _
    · rfl
  have hn : ∀ (var : Addr) (f : Nat → Timer → Value × Machine), (∀ k t, n ≤ (f k t).2.world.drawn) → timerOp.named m var f = .ok (v, m') → n ≤ m'.world.drawn := by
    intro var f hf e
    unfold timerOp.named at e
    split at e
    · injection e with e
      rename_i c _
      have := hf c (m.rest.timers.getD c default)
      rw [e] at this
      exact this
    · cases e
  unfold timerOp at e
  split at e
  · split at e
    · injection e with e; injection e with _ e; subst e; exact h
    · split at e
      · split at e
        · cases e
        · injection e with e; injection e with _ e; subst e; exact h
      · cases e
  · exact hn _ _ (fun k t => by rw [hre]; exact h) e
  · split at e
    · rename_i m1 em
      refine hn _ _ (fun k t => ?_) e
      rw [hre]
      unfold timerOp.opened at em
      split at em
      · split at em
        · injection em with em; subst em; exact h
        · cases em
      · injection em with em; subst em; exact h
    · cases e
  · simp only at e
    injection e with e; injection e with _ e; subst e; exact h
theorem mrunT_up {n : Nat} {p : Program} {m : Machine} {i : Nat} {l : Bool} (h : n ≤ m.world.drawn) : SUp n (Go.runT p m i l).1 := by
  unfold Go.runT
  simp only
  have hg := stepG_up (p := p) (b := i == 0) (l := l) (g := (m.gs.swapAt! i { (default : Goroutine) with status := .finished }).1) h
  revert hg
  generalize stepG p (i == 0) (m.gs.swapAt! i { (default : Goroutine) with status := .finished }).1 m.world l = s
  intro hg
  cases s with
  | ended o w es => trivial
  | comm g cs bl sh w es => exact communicate_up hg
  | go g w es => exact hg
  | spawn g c w es => exact hg
  | count g w es => simp only; split <;> first | trivial | exact hg
  | alone g on w es => exact hg
  | collect g w es => exact look_up hg
  | watch g w es => exact hg
  | newcoro g c d w es => exact hg
  | coroswitch g c ex w es =>
    simp only
    split
    · exact hg
    · split
      · rename_i e
        have := endThrow_up (fr := g.frame) (m := "coroswitch on exited coro") (w := w) hg
        rw [e] at this
        exact this
      · trivial
    · trivial
  | timer g op w es =>
    simp only
    split
    · rename_i v m1 e
      have := timerOp_up (m := { world := w, gs := _, rest := m.rest }) (m' := m1) hg e
      exact this
    · rename_i msg _
      split
      · rename_i e
        have := endThrow_up (fr := g.frame) (m := msg) (w := w) hg
        rw [e] at this
        exact this
      · trivial
    · trivial
    · trivial
def MUp (n : Nat) : Move → Prop
  | .goroutine m _ => n ≤ m.world.drawn
  | .machine s _ => SUp n s
theorem advance_up {n : Nat} {m : Machine} {t : Nat} (h : n ≤ m.world.drawn) : n ≤ (m.advanceTo t).world.drawn := h
theorem serve_up {n : Nat} {p : Program} {m : Machine} {k : Nat} (h : n ≤ m.world.drawn) : SUp n (serve p m k) := by
  unfold serve
  split
  · trivial
  · exact h
  · simp only
    split
    · trivial
    · exact h
theorem askOn_up {n : Nat} {p : Program} {m : Machine} (h : n ≤ m.world.drawn) : MUp n (askOn p m) := by
  unfold askOn
  simp only
  split
  · trivial
  · rename_i k w1 e
    have h1 := run_ok e h
    split
    · exact serve_up h1
    · split
      · split
        · exact advance_up h1
        · split
          · exact h1
          · split <;> trivial
      · split
        · split
          · trivial
          · rename_i e2
            have h2 := run_ok e2 h1
            split
            · exact h2
            · split
              · trivial
              · rename_i e3; exact run_ok e3 h2
        · split
          · trivial
          · rename_i e4
            have h2 := run_ok e4 h1
            split
            · trivial
            · rename_i e5
              have h3 := run_ok e5 h2
              split
              · exact h3
              · split
                · trivial
                · rename_i e6; exact run_ok e6 h3
          · rename_i e4
            have h2 := run_ok e4 h1
            exact advance_up h2
          · rename_i e4
            have h2 := run_ok e4 h1
            split
            · trivial
            · rename_i e5
              have h3 := run_ok e5 (advance_up (m := { m with world := _ }) h2)
              split
              · exact h3
              · split
                · trivial
                · rename_i e6; exact run_ok e6 h3
theorem mask_up {n : Nat} {p : Program} {m : Machine} (h : n ≤ m.world.drawn) : MUp n (ask p m) := by
  unfold ask
  split
  · split
    · trivial
    · rename_i e
      have h1 := run_ok e h
      have h2 := look_up (p := p) (gs := m.gs) (r := m.rest) h1
      split
      · rename_i e2; rw [e2] at h2; exact askOn_up h2
      · exact h2
    · rename_i e
      have h1 := run_ok e h
      exact askOn_up h1
  · exact askOn_up h
theorem move_up {n : Nat} {p : Program} {m : Machine} (h : n ≤ m.world.drawn) : MUp n (move p m) := by
  unfold move
  split
  · split
    · exact h
    · trivial
  · split
    · split
      · exact h
      · exact mask_up h
    · exact mask_up h
theorem step_up {n : Nat} {p : Program} {m : Machine} (h : n ≤ m.world.drawn) : SUp n (step p m) := by
  have hm := move_up (p := p) h
  unfold step stepT
  split
  · rename_i e; rw [e] at hm; exact mrunT_up hm
  · rename_i e; rw [e] at hm; exact hm
theorem runN_up {p : Program} {n : Nat} : ∀ (k : Nat) (m m' : Machine), n ≤ m.world.drawn → runN p k m = .next m' → n ≤ m'.world.drawn
  | 0, m, m', h, e => by rw [runN] at e; injection e with e; subst e; exact h
  | k + 1, m, m', h, e => by
    rw [runN] at e
    have := step_up (p := p) h
    split at e
    · rename_i m1 e1; rw [e1] at this; exact runN_up k m1 m' this e
    · rename_i hx; exact absurd e (hx m')
/-- NO CALL TAKES A DRAW BACK. -/
theorem calls_drawn {P : Program} {f : FuncId} {args : Array Value} {w : World} {R : Ending → World → Prop} (h : Calls P f args w R) (hr : ∀ w', ¬ R .outgrown w') : Calls P f args w fun e w' => R e w' ∧ w.drawn ≤ w'.drawn := by
  intro cs
  obtain ⟨e, w', fr, h1, h2, h3⟩ := h cs
  refine ⟨e, w', fr, ⟨h1, ?_⟩, h2, h3⟩
  cases e with
  | outgrown => exact absurd h1 (hr w')
  | returned v => obtain ⟨k, hk⟩ := h2; exact runN_up k _ _ (Nat.le_refl w.drawn) hk
  | panicked c => obtain ⟨k, hk⟩ := h2; exact runN_up k _ _ (Nat.le_refl w.drawn) hk
end Go.Proofs.YtglhbaigigdeeaaGreat.Drw
/- The program and the reference measure terms: nodes and depth. -/
namespace Go.Proofs.YtglhbaigigdeeaaGreat
set_option maxRecDepth 100000
open Go.RowKit

/-- the call returns a number that stands for the size of t, up to m -/
def SizeRet (m : Nat) (t : Tm) (w : World) (e : Ending) (w' : World) : Prop := ∃ r : Nat, e = .returned (.int .i64 r) ∧ Upto m t.size r ∧ Below w.heap.size w w'
def ImplSize (t : Tm) : Prop := ∀ (S : Nat → Prop) (c0 c1 : Value) (w : World), Tm.at S w c0 c1 t → t.bulk ≤ 1048576 → Calls Tryz.prog 96 #[.agg #[c0, c1]] w (SizeRet 30 t w)

set_option maxHeartbeats 400000 in
theorem implSize_of (n : ByteArray) (ts : List Tm) (h : ∀ t ∈ ts, ImplSize t) : ImplSize (.node n ts) := by
  intro S c0 c1 w hr hbk
  obtain ⟨rfl, hn, a, cap, rfl⟩ := Tm.at_form hr
  have hs := hr.2
  simp only [Tm.name, Tm.args] at hs hn ⊢
  clear hr
  obtain ⟨a', cap', he, hlen, hcap⟩ := Tm.sd_form hs
  injection he with e0 e1 e2
  subst e0 e2
  clear e1
  unfold big at hlen
  have hbs := Tm.size_bulk (.node n ts)
  have hsd : Hid ((Tm.node n ts).size = 1 + Tm.sizes ts) := by rw [Hid, Tm.size]
  go_enter Tryz.func96, Tryz.ntmps96
  go_wp2_with fail
  go_loopw [3, 9] (fun x i wr => ∃ (k r : Nat), k ≤ ts.length ∧ i = .int .i64 k ∧ x = .int .i64 r ∧ r ≤ 1048577 ∧ Hid (Upto 30 (1 + Tm.sizes (ts.take k)) r) ∧ Below (w.heap.size + 1) (w.alloc (.cells #[.string n, .slice a ts.length cap] 56)) wr) (fun _ i _ => ts.length - (intOf i).toNat)
  case atStart => exact ⟨0, 1, Nat.zero_le _, rfl, rfl, by omega, by simp [Hid, Upto, Tm.sizes], Below.refl _ _⟩
  case round =>
    obtain ⟨k, r, hk, rfl, rfl, hr1, HX, hb⟩ := hrel
    have hbw : Below w.heap.size w wr := ((Below.refl _ _).alloc (Nat.le_refl _) _).trans (hb.mono (by omega))
    have hz := hb.size
    simp only [World.size_alloc] at hz
    have hz0 : w.heap.size < wr.heap.size := by omega
    have e10 : wr.cell? ⟨w.heap.size, 0, none⟩ = some (.string n) := (hb.cell (by simp)).trans (box1 _ _ _ _)
    have e11 : wr.cell? ⟨w.heap.size, 1, none⟩ = some (.slice a ts.length cap) := (hb.cell (by simp)).trans (box1 _ _ _ _)
    by_cases hlt : k < ts.length
    · have hne : ts ≠ [] := by intro e; subst e; simp at hlt
      obtain ⟨b, off, rfl, hS, hbl, hrr⟩ := Tm.sd_get hs hne
      obtain ⟨c0, c1, q0, q1, q2⟩ := hrr k hlt
      obtain ⟨rfl, -, x, xc, rfl⟩ := Tm.at_form q2
      replace q0 := (hbw.cell (p := ⟨b, off + k * 2, none⟩) hbl).trans q0
      replace q1 := (hbw.cell (p := ⟨b, off + k * 2 + 1, none⟩) hbl).trans q1
      replace q2 := Tm.at_keep (Keeps.all hbw) q2
      have hmem := h ts[k] (List.getElem_mem hlt)
      clear hs hrr
      have hst := hid (Tm.sizes_take ts k hlt)
      have hsl := hid (Tm.sizes_le ts (k + 1))
      have hbm : ts[k].bulk ≤ 1048576 := by have := Tm.bulk_mem (List.getElem_mem hlt); rw [Tm.bulk] at hbk; omega
      by_cases h30 : 30 < r
      · have HS : Hid (Upto 30 (Tm.node n ts).size r) := by
          have := HX.out; have := hst.out; have := hsl.out; have := hsd.out
          unfold Hid Upto at *; omega
        have h30' : (30 : Int) < (r : Int) := by omega
        go_wp2_with fail
        go_ret
        exact ⟨r, rfl, HS.out, hbw.trans ((Below.refl _ _).alloc hbw.size _)⟩
      · have h30' : ¬ (30 : Int) < (r : Int) := by omega
        have hq0 := cell_alloc q0
        go_wp2_with fail
        have hbx : Below wr.heap.size wr (wr.alloc (.cells #[.string ts[k].name, .slice x ts[k].args.length xc] 56)) := (Below.refl _ _).alloc (Nat.le_refl _) _
        refine (hmem _ _ _ _ (Tm.at_keep (Keeps.all hbx) q2) hbm).mono ?_
        rintro e w2 ⟨r2, rfl, hu, hb2⟩
        have hb3 := hbx.trans (hb2.mono hbx.size)
        clear hbx hb2
        have HS : Hid (Upto 30 (1 + Tm.sizes (ts.take (k + 1))) (r + r2)) := by
          have := HX.out.add hu; have := hst.out; rw [Hid, this, ← Nat.add_assoc]; assumption
        have hr2 : r2 ≤ 1048577 := by have := hu.2.2; have := Tm.size_bulk ts[k]; omega
        have hr3 : r + r2 ≤ 1048577 := by have := HS.out.2.2; have := hsl.out; have := hsd.out; omega
        clear hu
        go_wp2_with fail
        go_roundw
        case rel => exact ⟨k + 1, r + r2, by omega, by go_num, by go_num, hr3, HS, hb.trans (hb3.mono hz)⟩
        case measure => simp [intOf]; omega
    · obtain rfl : k = ts.length := by omega
      have HS : Hid (Upto 30 (Tm.node n ts).size r) := by rw [Hid, hsd.out]; have := HX.out; rwa [List.take_length] at this
      go_wp2_with fail
      go_ret
      exact ⟨r, rfl, HS.out, hbw⟩
theorem implSize_any (t : Tm) : ImplSize t := Tm.ind (fun n ts h => implSize_of n ts h) t

def DepthIs (f : FuncId) (t : Tm) : Prop := ∀ (S : Nat → Prop) (c0 c1 : Value) (w : World), Tm.at S w c0 c1 t → t.bulk ≤ 1048576 → Calls Tryz.prog f #[.agg #[c0, c1]] w (Gives w (.int .i64 t.depth))

set_option maxHeartbeats 400000 in
theorem implDepth_of (n : ByteArray) (ts : List Tm) (h : ∀ t ∈ ts, DepthIs 97 t) : DepthIs 97 (.node n ts) := by
  intro S c0 c1 w hr hbk
  obtain ⟨rfl, hn, a, cap, rfl⟩ := Tm.at_form hr
  have hs := hr.2
  simp only [Tm.name, Tm.args] at hs hn ⊢
  clear hr
  obtain ⟨a', cap', he, hlen, hcap⟩ := Tm.sd_form hs
  injection he with e0 e1 e2
  subst e0 e2
  clear e1
  unfold big at hlen
  have hsd : Hid ((Tm.node n ts).depth = Tm.depths ts + 1) := by rw [Hid, Tm.depth]
  go_enter Tryz.func97, Tryz.ntmps97
  go_wp2_with fail
  go_loopw [3, 9] (fun x i wr => ∃ (k r : Nat), k ≤ ts.length ∧ i = .int .i64 k ∧ x = .int .i64 r ∧ r ≤ 1048577 ∧ Hid (r = Tm.depths (ts.take k)) ∧ Below (w.heap.size + 1) (w.alloc (.cells #[.string n, .slice a ts.length cap] 56)) wr) (fun _ i _ => ts.length - (intOf i).toNat)
  case atStart => exact ⟨0, 0, Nat.zero_le _, rfl, rfl, by omega, by simp [Hid, Tm.depths], Below.refl _ _⟩
  case round =>
    obtain ⟨k, r, hk, rfl, rfl, hr1, HX, hb⟩ := hrel
    have hbw : Below w.heap.size w wr := ((Below.refl _ _).alloc (Nat.le_refl _) _).trans (hb.mono (by omega))
    have hz := hb.size
    simp only [World.size_alloc] at hz
    have hz0 : w.heap.size < wr.heap.size := by omega
    have e10 : wr.cell? ⟨w.heap.size, 0, none⟩ = some (.string n) := (hb.cell (by simp)).trans (box1 _ _ _ _)
    have e11 : wr.cell? ⟨w.heap.size, 1, none⟩ = some (.slice a ts.length cap) := (hb.cell (by simp)).trans (box1 _ _ _ _)
    by_cases hlt : k < ts.length
    · have hne : ts ≠ [] := by intro e; subst e; simp at hlt
      obtain ⟨b, off, rfl, hS, hbl, hrr⟩ := Tm.sd_get hs hne
      obtain ⟨c0, c1, q0, q1, q2⟩ := hrr k hlt
      obtain ⟨rfl, -, x, xc, rfl⟩ := Tm.at_form q2
      replace q0 := (hbw.cell (p := ⟨b, off + k * 2, none⟩) hbl).trans q0
      replace q1 := (hbw.cell (p := ⟨b, off + k * 2 + 1, none⟩) hbl).trans q1
      replace q2 := Tm.at_keep (Keeps.all hbw) q2
      have hmem := h ts[k] (List.getElem_mem hlt)
      clear hs hrr
      have hst := hid (Tm.depths_take ts k hlt)
      have hbm : ts[k].bulk ≤ 1048576 := by have := Tm.bulk_mem (List.getElem_mem hlt); rw [Tm.bulk] at hbk; omega
      have hdm : ts[k].depth ≤ 1048577 := by have := Tm.size_bulk ts[k]; have := Tm.depth_size ts[k]; omega
      have hq0 := cell_alloc q0
      go_wp2_with fail
      have hbx : Below wr.heap.size wr (wr.alloc (.cells #[.string ts[k].name, .slice x ts[k].args.length xc] 56)) := (Below.refl _ _).alloc (Nat.le_refl _) _
      refine (hmem _ _ _ _ (Tm.at_keep (Keeps.all hbx) q2) hbm).mono ?_
      rintro e w2 ⟨_, rfl, hb2, rfl⟩
      have hb3 := hbx.trans (hb2.mono hbx.size)
      clear hbx hb2
      obtain ⟨r2, HR⟩ : ∃ r2, Hid (ts[k].depth = r2) := ⟨_, hid rfl⟩
      rw [HR.out] at hdm ⊢
      have HS : Hid (max r r2 = Tm.depths (ts.take (k + 1))) := by rw [Hid, hst.out, HR.out, HX.out]
      go_wp2_with fail
      go_roundw
      case rel => exact ⟨k + 1, max r r2, by omega, by go_num, by congr 1; split <;> omega, by omega, HS, hb.trans (hb3.mono hz)⟩
      case measure => simp [intOf]; omega
    · obtain rfl : k = ts.length := by omega
      have HS : Hid (r + 1 = (Tm.node n ts).depth) := by rw [Hid, hsd.out]; have := HX.out; rw [List.take_length] at this; omega
      go_wp2_with fail
      go_ret
      exact Gives.mk (ret_i64 (by rw [← HS.out]; rfl)) hbw
theorem implDepth_any (t : Tm) : DepthIs 97 t := Tm.ind (fun n ts h => implDepth_of n ts h) t

theorem l1Most_any (a b : Nat) (w : World) : Calls Tryz.prog 94 #[.int .i64 a, .int .i64 b] w fun e w' => e = .returned (.int .i64 (max a b : Nat)) ∧ w = w' := by
  by_cases h : (b : Int) < a
  · have H : Hid ((a : Int) = (max a b : Nat)) := by show (_ : Int) = _; omega
    go_enter Tryz.func94, Tryz.ntmps94
    go_wp2
    go_ret
    exact ⟨ret_i64 H.out, rfl⟩
  · have H : Hid ((b : Int) = (max a b : Nat)) := by show (_ : Int) = _; omega
    go_enter Tryz.func94, Tryz.ntmps94
    go_wp2
    go_ret
    exact ⟨ret_i64 H.out, rfl⟩

set_option maxHeartbeats 400000 in
theorem l2Depth_of (n : ByteArray) (ts : List Tm) (h : ∀ t ∈ ts, DepthIs 68 t) : DepthIs 68 (.node n ts) := by
  intro S c0 c1 w hr hbk
  obtain ⟨rfl, hn, a, cap, rfl⟩ := Tm.at_form hr
  have hs := hr.2
  simp only [Tm.name, Tm.args] at hs hn ⊢
  clear hr
  obtain ⟨a', cap', he, hlen, hcap⟩ := Tm.sd_form hs
  injection he with e0 e1 e2
  subst e0 e2
  clear e1
  unfold big at hlen
  have hsd : Hid ((Tm.node n ts).depth = Tm.depths ts + 1) := by rw [Hid, Tm.depth]
  go_enter Tryz.func68, Tryz.ntmps68
  go_wp2_with fail
  go_loopw [3, 4] (fun x i wr => ∃ (k r : Nat), k ≤ ts.length ∧ i = .int .i64 k ∧ x = .int .i64 r ∧ r ≤ 1048577 ∧ Hid (r = Tm.depths (ts.take k)) ∧ Below (w.heap.size + 1) (w.alloc (.cells #[.string n, .slice a ts.length cap] 56)) wr) (fun _ i _ => ts.length - (intOf i).toNat)
  case atStart => exact ⟨0, 0, Nat.zero_le _, rfl, rfl, by omega, by simp [Hid, Tm.depths], Below.refl _ _⟩
  case round =>
    obtain ⟨k, r, hk, rfl, rfl, hr1, HX, hb⟩ := hrel
    have hbw : Below w.heap.size w wr := ((Below.refl _ _).alloc (Nat.le_refl _) _).trans (hb.mono (by omega))
    have hz := hb.size
    simp only [World.size_alloc] at hz
    have hz0 : w.heap.size < wr.heap.size := by omega
    have e10 : wr.cell? ⟨w.heap.size, 0, none⟩ = some (.string n) := (hb.cell (by simp)).trans (box1 _ _ _ _)
    have e11 : wr.cell? ⟨w.heap.size, 1, none⟩ = some (.slice a ts.length cap) := (hb.cell (by simp)).trans (box1 _ _ _ _)
    by_cases hlt : k < ts.length
    · have hne : ts ≠ [] := by intro e; subst e; simp at hlt
      obtain ⟨b, off, rfl, hS, hbl, hrr⟩ := Tm.sd_get hs hne
      obtain ⟨c0, c1, q0, q1, q2⟩ := hrr k hlt
      obtain ⟨rfl, -, x, xc, rfl⟩ := Tm.at_form q2
      replace q0 := (hbw.cell (p := ⟨b, off + k * 2, none⟩) hbl).trans q0
      replace q1 := (hbw.cell (p := ⟨b, off + k * 2 + 1, none⟩) hbl).trans q1
      replace q2 := Tm.at_keep (Keeps.all hbw) q2
      have hmem := h ts[k] (List.getElem_mem hlt)
      clear hs hrr
      have hst := hid (Tm.depths_take ts k hlt)
      have hbm : ts[k].bulk ≤ 1048576 := by have := Tm.bulk_mem (List.getElem_mem hlt); rw [Tm.bulk] at hbk; omega
      have hdm : ts[k].depth ≤ 1048577 := by have := Tm.size_bulk ts[k]; have := Tm.depth_size ts[k]; omega
      go_wp2_with fail
      refine (hmem _ _ _ _ q2 hbm).mono ?_
      rintro e w2 ⟨_, rfl, hb3, rfl⟩
      obtain ⟨r2, HR⟩ : ∃ r2, Hid (ts[k].depth = r2) := ⟨_, hid rfl⟩
      rw [HR.out] at hdm ⊢
      have HS : Hid (max r r2 = Tm.depths (ts.take (k + 1))) := by rw [Hid, hst.out, HR.out, HX.out]
      go_wp2_with fail
      refine (l1Most_any r r2 _).mono ?_
      rintro e w' ⟨rfl, rfl⟩
      obtain ⟨r3, HM⟩ : ∃ r3, Hid (max r r2 = r3) := ⟨_, hid rfl⟩
      have hr3 : r3 ≤ 1048577 := by have := HM.out; omega
      rw [HM.out]
      go_wp2_with fail
      go_roundw
      case rel => exact ⟨k + 1, r3, by omega, by go_num, rfl, hr3, by rw [Hid, ← HM.out]; exact HS.out, hb.trans (hb3.mono hz)⟩
      case measure => simp [intOf]; omega
    · obtain rfl : k = ts.length := by omega
      have HS : Hid (r + 1 = (Tm.node n ts).depth) := by rw [Hid, hsd.out]; have := HX.out; rw [List.take_length] at this; omega
      go_wp2_with fail
      go_ret
      exact Gives.mk (ret_i64 (by rw [← HS.out]; rfl)) hbw
theorem l2Depth_any (t : Tm) : DepthIs 68 t := Tm.ind (fun n ts h => l2Depth_of n ts h) t

def Many (t : Tm) : Prop := ∀ (m : Nat) (S : Nat → Prop) (c0 c1 : Value) (w : World), m ≤ 1048576 → Tm.at S w c0 c1 t → t.bulk ≤ 1048576 → Calls Tryz.prog 67 #[.agg #[c0, c1], .int .i64 m] w (SizeRet m t w)
set_option maxHeartbeats 1000000 in
theorem l2Many_of (n : ByteArray) (ts : List Tm) (h : ∀ t ∈ ts, Many t) : Many (.node n ts) := by
  intro m S c0 c1 w hm hr hbk
  obtain ⟨rfl, hn, a, cap, rfl⟩ := Tm.at_form hr
  have hs := hr.2
  simp only [Tm.name, Tm.args] at hs hn ⊢
  clear hr
  obtain ⟨a', cap', he, hlen, hcap⟩ := Tm.sd_form hs
  injection he with e0 e1 e2
  subst e0 e2
  clear e1
  unfold big at hlen
  have hbs := Tm.size_bulk (.node n ts)
  have hsd : Hid ((Tm.node n ts).size = 1 + Tm.sizes ts) := by rw [Hid, Tm.size]
  go_enter Tryz.func67, Tryz.ntmps67
  go_wp2_with fail
  go_loopw [5, 6] (fun x i wr => ∃ (k r : Nat), k ≤ ts.length ∧ i = .int .i64 k ∧ x = .int .i64 r ∧ r ≤ 1048577 ∧ Hid (Upto m (1 + Tm.sizes (ts.take k)) r) ∧ Below (w.heap.size + 1) (w.alloc (.cells #[.string n, .slice a ts.length cap] 56)) wr) (fun _ i _ => ts.length - (intOf i).toNat)
  case atStart => exact ⟨0, 1, Nat.zero_le _, rfl, rfl, by omega, by simp [Hid, Upto, Tm.sizes], Below.refl _ _⟩
  case round =>
    obtain ⟨k, r, hk, rfl, rfl, hr1, HX, hb⟩ := hrel
    have hbw : Below w.heap.size w wr := ((Below.refl _ _).alloc (Nat.le_refl _) _).trans (hb.mono (by omega))
    have hz := hb.size
    simp only [World.size_alloc] at hz
    have hz0 : w.heap.size < wr.heap.size := by omega
    have e10 : wr.cell? ⟨w.heap.size, 0, none⟩ = some (.string n) := (hb.cell (by simp)).trans (box1 _ _ _ _)
    have e11 : wr.cell? ⟨w.heap.size, 1, none⟩ = some (.slice a ts.length cap) := (hb.cell (by simp)).trans (box1 _ _ _ _)
    by_cases hlt : k < ts.length
    · by_cases hrm : r ≤ m
      · have hne : ts ≠ [] := by intro e; subst e; simp at hlt
        obtain ⟨b, off, rfl, hS, hbl, hrr⟩ := Tm.sd_get hs hne
        obtain ⟨c0, c1, q0, q1, q2⟩ := hrr k hlt
        obtain ⟨rfl, -, x, xc, rfl⟩ := Tm.at_form q2
        replace q0 := (hbw.cell (p := ⟨b, off + k * 2, none⟩) hbl).trans q0
        replace q1 := (hbw.cell (p := ⟨b, off + k * 2 + 1, none⟩) hbl).trans q1
        replace q2 := Tm.at_keep (Keeps.all hbw) q2
        have hmem := h ts[k] (List.getElem_mem hlt)
        clear hs hrr
        have hst := hid (Tm.sizes_take ts k hlt)
        have hsl := hid (Tm.sizes_le ts (k + 1))
        have hbm : ts[k].bulk ≤ 1048576 := by have := Tm.bulk_mem (List.getElem_mem hlt); rw [Tm.bulk] at hbk; omega
        have hrm' : (r : Int) ≤ m := by omega
        go_wp2_with fail
        rw [show ((m : Int) - (r : Int)) = ((m - r : Nat) : Int) by omega]
        refine (hmem (m - r) _ _ _ _ (by omega) q2 hbm).mono ?_
        rintro e w2 ⟨r2, rfl, hu, hb3⟩
        have HS : Hid (Upto m (1 + Tm.sizes (ts.take (k + 1))) (r + r2)) := by
          have := HX.out; have := hst.out; unfold Hid Upto at *; omega
        have hr2 : r2 ≤ 1048577 := by have := hu.2.2; have := Tm.size_bulk ts[k]; omega
        have hr3 : r + r2 ≤ 1048577 := by have := HS.out.2.2; have := hsl.out; have := hsd.out; omega
        clear hu
        go_wp2_with fail
        go_roundw
        case rel => exact ⟨k + 1, r + r2, by omega, by go_num, by go_num, hr3, HS, hb.trans (hb3.mono hz)⟩
        case measure => simp [intOf]; omega
      · have hsl := hid (Tm.sizes_le ts k)
        have HS : Hid (Upto m (Tm.node n ts).size r) := by
          have := HX.out; have := hsl.out; have := hsd.out
          unfold Hid Upto at *; omega
        have hrm' : (m : Int) < r := by omega
        go_wp2_with fail
        go_ret
        exact ⟨r, rfl, HS.out, hbw⟩
    · obtain rfl : k = ts.length := by omega
      have HS : Hid (Upto m (Tm.node n ts).size r) := by rw [Hid, hsd.out]; have := HX.out; rwa [List.take_length] at this
      go_wp2_with fail
      go_ret
      exact ⟨r, rfl, HS.out, hbw⟩
theorem l2Many_any (t : Tm) : Many t := Tm.ind (fun n ts h => l2Many_of n ts h) t
end Go.Proofs.YtglhbaigigdeeaaGreat
/- A number lies between two: the program's and the reference's. -/
namespace Go.Proofs.YtglhbaigigdeeaaGreat
set_option maxRecDepth 100000
open Go.RowKit

/-- lo ≤ n ≤ hi -/
def inB (n lo hi : Int) : Bool := decide (lo ≤ n) && decide (n ≤ hi)
theorem inB_yes {n lo hi : Int} (h : lo ≤ n) (k : n ≤ hi) : inB n lo hi = true := by simp [inB, h, k]
theorem inB_no {n lo hi : Int} (h : n < lo ∨ hi < n) : inB n lo hi = false := by
  rw [Bool.eq_false_iff]; intro e; simp [inB] at e; omega
theorem within_any (n lo hi : Int) (w : World) : Calls Tryz.prog 103 #[.int .i64 n, .int .i64 lo, .int .i64 hi] w fun e w' => e = .returned (.bool (inB n lo hi)) ∧ w = w' := by
  have H : Hid (inB n lo hi = (decide (lo ≤ n) && decide (n ≤ hi))) := rfl
  by_cases h1 : lo ≤ n
  all_goals
    go_enter Tryz.func103, Tryz.ntmps103
    go_wp2
    go_ret
    exact ⟨ret_bool (by rw [H.out, Bool.eq_iff_iff]; simp; omega), rfl⟩
theorem l1In_any (n lo hi : Int) (w : World) : Calls Tryz.prog 69 #[.int .i64 n, .int .i64 lo, .int .i64 hi] w fun e w' => e = .returned (.bool (inB n lo hi)) ∧ w = w' := by
  have H : Hid (inB n lo hi = (decide (lo ≤ n) && decide (n ≤ hi))) := rfl
  by_cases h1 : lo ≤ n
  all_goals
    go_enter Tryz.func69, Tryz.ntmps69
    go_wp2
    go_ret
    exact ⟨ret_bool (by rw [H.out, Bool.eq_iff_iff]; simp; omega), rfl⟩
end Go.Proofs.YtglhbaigigdeeaaGreat
/- The program and the reference tell names of variables and of symbols. -/
namespace Go.Proofs.YtglhbaigigdeeaaGreat
set_option maxRecDepth 100000
open Go.RowKit

theorem isLower_any (n : Nat) (w : World) : Calls Tryz.prog 101 #[.int .u8 n] w fun e w' => e = .returned (.bool (lowB n)) ∧ w = w' := by
  have H : Hid (lowB n = (decide (97 ≤ n) && decide (n ≤ 122))) := rfl
  by_cases h1 : 97 ≤ n
  all_goals
    go_enter Tryz.func101, Tryz.ntmps101
    go_wp2
    go_ret
    exact ⟨ret_bool (by rw [H.out, Bool.eq_iff_iff]; simp; omega), rfl⟩
theorem isDigit_any (n : Nat) (w : World) : Calls Tryz.prog 102 #[.int .u8 n] w fun e w' => e = .returned (.bool (digB n)) ∧ w = w' := by
  have H : Hid (digB n = (decide (48 ≤ n) && decide (n ≤ 57))) := rfl
  by_cases h1 : 48 ≤ n
  all_goals
    go_enter Tryz.func102, Tryz.ntmps102
    go_wp2
    go_ret
    exact ⟨ret_bool (by rw [H.out, Bool.eq_iff_iff]; simp; omega), rfl⟩
theorem isUpper_any (n : Nat) (w : World) : Calls Tryz.prog 124 #[.int .u8 n] w fun e w' => e = .returned (.bool (upB n)) ∧ w = w' := by
  have H : Hid (upB n = (decide (65 ≤ n) && decide (n ≤ 90))) := rfl
  by_cases h1 : 65 ≤ n
  all_goals
    go_enter Tryz.func124, Tryz.ntmps124
    go_wp2
    go_ret
    exact ⟨ret_bool (by rw [H.out, Bool.eq_iff_iff]; simp; omega), rfl⟩
theorem l2Small_any (n : Nat) (w : World) : Calls Tryz.prog 70 #[.int .u8 n] w fun e w' => e = .returned (.bool (lowB n || digB n)) ∧ w = w' := by
  have H : Hid ((lowB n || digB n) = ((decide (97 ≤ n) && decide (n ≤ 122)) || (decide (48 ≤ n) && decide (n ≤ 57)))) := rfl
  by_cases h1 : 97 ≤ n
  · by_cases h2 : n ≤ 122
    all_goals
      by_cases h3 : 48 ≤ n
      all_goals
        go_enter Tryz.func70, Tryz.ntmps70
        go_wp2
        all_goals
          go_ret
          exact ⟨ret_bool (by rw [H.out, Bool.eq_iff_iff]; simp; omega), rfl⟩
  · by_cases h3 : 48 ≤ n
    all_goals
      go_enter Tryz.func70, Tryz.ntmps70
      go_wp2
      go_ret
      exact ⟨ret_bool (by rw [H.out, Bool.eq_iff_iff]; simp; omega), rfl⟩
set_option maxHeartbeats 1000000 in
theorem isVariable_any (s : ByteArray) (hs : s.size ≤ maxLen) (w : World) : Calls Tryz.prog 98 #[.string s] w fun e w' => e = .returned (.bool (varName s)) ∧ w = w' := by
  unfold maxLen at hs
  have HV : Hid (varName s = (allCh varCh s s.size && decide (1 ≤ s.size) && decide (s.size ≤ 4))) := rfl
  go_enter Tryz.func98, Tryz.ntmps98
  go_wp2_with fail
  go_loop [6] (fun i => ∃ k : Nat, k ≤ s.size ∧ i = .int .i64 k ∧ Hid (allCh varCh s k = true)) (fun i => s.size - (intOf i).toNat)
  case atStart => exact ⟨0, Nat.zero_le _, rfl, allCh_zero _ _⟩
  case round =>
    obtain ⟨k, hk, rfl, HX⟩ := hrel
    by_cases hlt : k < s.size
    · have hbe := byteAt_eq hlt
      have hstep := hid (allCh_succ varCh s k)
      have hlt0 : (k : Int) < s.size := by omega
      by_cases h0 : k = 0
      · subst h0
        by_cases HU : upB (byteAt s 0) = true
        · have HS : Hid (allCh varCh s (0 + 1) = true) := by rw [Hid, hstep.out, HX.out]; simp [varCh, HU]
          go_wp2_with (first | (go_at_call 124; refine (isUpper_any _ _).mono ?_; rintro e w' ⟨rfl, rfl⟩; rw [HU]))
          go_round
          case rel => exact ⟨0 + 1, by omega, by go_num, HS⟩
          case measure => simp [intOf]; omega
        · replace HU : upB (byteAt s 0) = false := by simpa using HU
          have HS : Hid (varName s = false) := by rw [Hid, HV.out, allCh_no hlt (by simp [varCh, HU])]; rfl
          go_wp2_with (first | (go_at_call 124; refine (isUpper_any _ _).mono ?_; rintro e w' ⟨rfl, rfl⟩; rw [HU]))
          go_ret
          exact ⟨ret_bool HS.out.symm, rfl⟩
      · have hk0 : ((k : Int) == 0) = false := by rw [beq_eq_false_iff_ne]; omega
        have hk1 : 0 < (k : Int) := by omega
        by_cases HL : lowB (byteAt s k) = true
        · have HS : Hid (allCh varCh s (k + 1) = true) := by rw [Hid, hstep.out, HX.out]; simp [varCh, HL, h0]
          go_wp2_with (first | (go_at_call 101; refine (isLower_any _ _).mono ?_; rintro e w' ⟨rfl, rfl⟩; rw [HL]))
          go_round
          case rel => exact ⟨k + 1, by omega, by go_num, HS⟩
          case measure => simp [intOf]; omega
        · replace HL : lowB (byteAt s k) = false := by simpa using HL
          by_cases HD : digB (byteAt s k) = true
          · have HS : Hid (allCh varCh s (k + 1) = true) := by rw [Hid, hstep.out, HX.out]; simp [varCh, HD, h0]
            go_wp2_with (first | (go_at_call 101; refine (isLower_any _ _).mono ?_; rintro e w' ⟨rfl, rfl⟩; rw [HL]) | (go_at_call 102; refine (isDigit_any _ _).mono ?_; rintro e w' ⟨rfl, rfl⟩; rw [HD]))
            go_round
            case rel => exact ⟨k + 1, by omega, by go_num, HS⟩
            case measure => simp [intOf]; omega
          · replace HD : digB (byteAt s k) = false := by simpa using HD
            have HS : Hid (varName s = false) := by rw [Hid, HV.out, allCh_no hlt (by simp [varCh, h0, HL, HD])]; rfl
            go_wp2_with (first | (go_at_call 101; refine (isLower_any _ _).mono ?_; rintro e w' ⟨rfl, rfl⟩; rw [HL]) | (go_at_call 102; refine (isDigit_any _ _).mono ?_; rintro e w' ⟨rfl, rfl⟩; rw [HD]))
            go_ret
            exact ⟨ret_bool HS.out.symm, rfl⟩
    · obtain rfl : k = s.size := by omega
      have HS : Hid (varName s = inB s.size 1 4) := by rw [Hid, HV.out, HX.out, Bool.eq_iff_iff]; simp [inB]; omega
      go_wp2_with (first | (go_at_call 103; refine (within_any _ _ _ _).mono ?_; rintro e w' ⟨rfl, rfl⟩))
      go_ret
      exact ⟨ret_bool HS.out.symm, rfl⟩

/-- r tells whether s is in the list -/
def Found (ss : List ByteArray) (s : ByteArray) (w : World) (e : Ending) (w' : World) : Prop := ∃ r : Int, e = .returned (.int .i64 r) ∧ ((0 ≤ r ∧ hasStr ss s = true) ∨ (r < 0 ∧ hasStr ss s = false)) ∧ w = w'

set_option maxHeartbeats 400000 in
theorem indexStr_any {S : Nat → Prop} {v : Value} {ss : List ByteArray} (s : ByteArray) {w : World} (h : D.rd S w v (slOf strE ss)) : Calls Tryz.prog 126 #[v, .string s] w (Found ss s w) := by
  obtain ⟨a, cap, rfl, hlen, hcap⟩ := slOf_form h
  unfold big at hlen
  go_enter Tryz.func126, Tryz.ntmps126
  go_wp2_with fail
  go_loop [8] (fun i => ∃ k : Nat, k ≤ ss.length ∧ i = .int .i64 k ∧ Hid (s ∉ ss.take k)) (fun i => ss.length - (intOf i).toNat)
  case atStart => exact ⟨0, Nat.zero_le _, rfl, by simp [Hid]⟩
  case round =>
    obtain ⟨k, hk, rfl, HX⟩ := hrel
    by_cases hlt : k < ss.length
    · have hne : ss ≠ [] := by intro e; subst e; simp at hlt
      obtain ⟨b, off, rfl, hS, hbl, hrr⟩ := strs_get h hne
      obtain ⟨q0, q1⟩ := hrr k hlt
      clear h hrr
      by_cases he : s = ss[k]
      · have hq : (s.toList == ss[k].toList) = true := by rw [toList_beq]; simpa using he
        have HF : Hid (hasStr ss s = true) := (hasStr_iff _ _).2 (he ▸ List.getElem_mem hlt)
        clear he
        go_wp2_with fail
        go_ret
        exact ⟨k, rfl, .inl ⟨by omega, HF.out⟩, rfl⟩
      · have hq : (s.toList == ss[k].toList) = false := toList_ne he
        have HF : Hid (s ∉ ss.take (k + 1)) := by
          rw [Hid, List.take_succ_eq_append_getElem hlt, List.mem_append]
          rintro (q | q)
          · exact HX.out q
          · exact he (by simpa using q)
        clear he
        go_wp2_with fail
        go_round
        case rel => exact ⟨k + 1, by omega, by go_num, HF⟩
        case measure => simp [intOf]; omega
    · obtain rfl : k = ss.length := by omega
      have HF : Hid (hasStr ss s = false) := by
        rw [Hid, Bool.eq_false_iff, Ne, hasStr_iff]
        have := HX.out
        rwa [List.take_length] at this
      go_wp2_with fail
      go_ret
      exact ⟨-1, rfl, .inr ⟨by omega, HF.out⟩, rfl⟩

set_option maxHeartbeats 400000 in
theorem containsStr_any {S : Nat → Prop} {v : Value} {ss : List ByteArray} (s : ByteArray) {w : World} (h : D.rd S w v (slOf strE ss)) : Calls Tryz.prog 104 #[v, .string s] w fun e w' => e = .returned (.bool (hasStr ss s)) ∧ w = w' := by
  go_enter Tryz.func104, Tryz.ntmps104
  go_wp2_with fail
  refine (indexStr_any s h).mono ?_
  rintro e w' ⟨r, rfl, hr, rfl⟩
  rcases hr with ⟨h0, h1⟩ | ⟨h0, h1⟩
  · have H := hid h1
    clear h1
    go_wp2_with fail
    go_ret
    exact ⟨ret_bool H.out.symm, rfl⟩
  · have H := hid h1
    clear h1
    go_wp2_with fail
    go_ret
    exact ⟨ret_bool (by rw [H.out]; simp; omega), rfl⟩

theorem reserved_any (w : World) : Calls Tryz.prog 105 #[] w (Yields w fun v w' => D.rd (fun _ => True) w' v (slOf strE reservedL)) := by
  go_enter Tryz.func105, Tryz.ntmps105
  go_wp2_with fail
  go_ret
  refine ⟨_, rfl, (Below.refl _ _).alloc (Nat.le_refl _) _, ?_⟩
  refine slOf_strs (ss := reservedL) trivial (by simp) (by decide) (fun i hi => ?_) (by decide)
  rw [box1]
  match i, hi with
  | 0, _ => exact ⟨rfl, by simp [reservedL, ByteArray.size, maxLen]⟩
  | 1, _ => exact ⟨rfl, by simp [reservedL, ByteArray.size, maxLen]⟩
  | 2, _ => exact ⟨rfl, by simp [reservedL, ByteArray.size, maxLen]⟩
  | 3, _ => exact ⟨rfl, by simp [reservedL, ByteArray.size, maxLen]⟩
  | 4, _ => exact ⟨rfl, by simp [reservedL, ByteArray.size, maxLen]⟩
  | 5, _ => exact ⟨rfl, by simp [reservedL, ByteArray.size, maxLen]⟩
  | 6, _ => exact ⟨rfl, by simp [reservedL, ByteArray.size, maxLen]⟩
  | 7, _ => exact ⟨rfl, by simp [reservedL, ByteArray.size, maxLen]⟩

set_option maxHeartbeats 2000000 in
theorem isSymbol_any (s : ByteArray) (hs : s.size ≤ maxLen) (w : World) : Calls Tryz.prog 76 #[.string s] w (Gives w (.bool (symName s))) := by
  unfold maxLen at hs
  have HV : Hid (symName s = (allCh symCh s s.size && decide (1 ≤ s.size) && decide (s.size ≤ 6) && !hasStr reservedL s)) := rfl
  go_enter Tryz.func76, Tryz.ntmps76
  go_wp2_with fail
  go_loop [6] (fun i => ∃ k : Nat, k ≤ s.size ∧ i = .int .i64 k ∧ Hid (allCh symCh s k = true)) (fun i => s.size - (intOf i).toNat)
  case atStart => exact ⟨0, Nat.zero_le _, rfl, allCh_zero _ _⟩
  case round =>
    obtain ⟨k, hk, rfl, HX⟩ := hrel
    by_cases hlt : k < s.size
    · have hbe := byteAt_eq hlt
      have hstep := hid (allCh_succ symCh s k)
      have hlt0 : (k : Int) < s.size := by omega
      by_cases h0 : k = 0
      · subst h0
        by_cases HL : lowB (byteAt s 0) = true
        · have HS : Hid (allCh symCh s (0 + 1) = true) := by rw [Hid, hstep.out, HX.out]; simp [symCh, HL]
          go_wp2_with (first | (go_at_call 101; refine (isLower_any _ _).mono ?_; rintro e w' ⟨rfl, rfl⟩; rw [HL]))
          go_round
          case rel => exact ⟨0 + 1, by omega, by go_num, HS⟩
          case measure => simp [intOf]; omega
        · replace HL : lowB (byteAt s 0) = false := by simpa using HL
          have HS : Hid (symName s = false) := by rw [Hid, HV.out, allCh_no hlt (by simp [symCh, HL])]; rfl
          go_wp2_with (first | (go_at_call 101; refine (isLower_any _ _).mono ?_; rintro e w' ⟨rfl, rfl⟩; rw [HL]))
          go_ret
          exact Gives.mk (ret_bool HS.out.symm) (Below.refl _ _)
      · have hk0 : ((k : Int) == 0) = false := by rw [beq_eq_false_iff_ne]; omega
        by_cases HL : lowB (byteAt s k) = true
        · have HS : Hid (allCh symCh s (k + 1) = true) := by rw [Hid, hstep.out, HX.out]; simp [symCh, HL, h0]
          go_wp2_with (first | (go_at_call 101; refine (isLower_any _ _).mono ?_; rintro e w' ⟨rfl, rfl⟩; rw [HL]))
          go_round
          case rel => exact ⟨k + 1, by omega, by go_num, HS⟩
          case measure => simp [intOf]; omega
        · replace HL : lowB (byteAt s k) = false := by simpa using HL
          by_cases HD : digB (byteAt s k) = true
          · have HS : Hid (allCh symCh s (k + 1) = true) := by rw [Hid, hstep.out, HX.out]; simp [symCh, HD, h0]
            go_wp2_with (first | (go_at_call 101; refine (isLower_any _ _).mono ?_; rintro e w' ⟨rfl, rfl⟩; rw [HL]) | (go_at_call 102; refine (isDigit_any _ _).mono ?_; rintro e w' ⟨rfl, rfl⟩; rw [HD]))
            go_round
            case rel => exact ⟨k + 1, by omega, by go_num, HS⟩
            case measure => simp [intOf]; omega
          · replace HD : digB (byteAt s k) = false := by simpa using HD
            by_cases hu : byteAt s k = 95
            · have HS : Hid (allCh symCh s (k + 1) = true) := by rw [Hid, hstep.out, HX.out]; simp [symCh, hu, h0]
              have hq : ((byteAt s k : Int) != 95) = false := by rw [hu]; rfl
              have hq' : ((byteAt s k : Int) == 95) = true := by rw [hu]; rfl
              clear hu
              go_wp2_with (first | (go_at_call 101; refine (isLower_any _ _).mono ?_; rintro e w' ⟨rfl, rfl⟩; rw [HL]) | (go_at_call 102; refine (isDigit_any _ _).mono ?_; rintro e w' ⟨rfl, rfl⟩; rw [HD]))
              go_round
              case rel => exact ⟨k + 1, by omega, by go_num, HS⟩
              case measure => simp [intOf]; omega
            · have HS : Hid (symName s = false) := by rw [Hid, HV.out, allCh_no hlt (by simp [symCh, h0, HL, HD, hu])]; rfl
              have hq : ((byteAt s k : Int) != 95) = true := by rw [bne_iff_ne]; omega
              have hq' : ((byteAt s k : Int) == 95) = false := by rw [beq_eq_false_iff_ne]; omega
              clear hu
              go_wp2_with (first | (go_at_call 101; refine (isLower_any _ _).mono ?_; rintro e w' ⟨rfl, rfl⟩; rw [HL]) | (go_at_call 102; refine (isDigit_any _ _).mono ?_; rintro e w' ⟨rfl, rfl⟩; rw [HD]))
              go_ret
              exact Gives.mk (ret_bool HS.out.symm) (Below.refl _ _)
    · obtain rfl : k = s.size := by omega
      by_cases hin : 1 ≤ s.size ∧ s.size ≤ 6
      · have HI := inB_yes (n := s.size) (lo := 1) (hi := 6) (by omega) (by omega)
        have HS : Hid (symName s = !hasStr reservedL s) := by rw [Hid, HV.out, HX.out]; simp [hin]
        go_wp2_with (first | (go_at_call 103; refine (within_any _ _ _ _).mono ?_; rintro e w' ⟨rfl, rfl⟩; rw [HI]))
        refine (reserved_any _).mono ?_
        rintro e w1 ⟨v, rfl, hb, hr⟩
        go_wp2_with fail
        refine (containsStr_any s hr).mono ?_
        rintro e w' ⟨rfl, rfl⟩
        go_wp2_with fail
        go_ret
        exact Gives.mk (ret_bool HS.out.symm) hb
      · have HI := inB_no (n := s.size) (lo := 1) (hi := 6) (by omega)
        have HS : Hid (symName s = false) := by rw [Hid, HV.out, Bool.eq_false_iff]; intro e; simp at e; omega
        go_wp2_with (first | (go_at_call 103; refine (within_any _ _ _ _).mono ?_; rintro e w' ⟨rfl, rfl⟩; rw [HI]))
        go_ret
        exact Gives.mk (ret_bool HS.out.symm) (Below.refl _ _)
end Go.Proofs.YtglhbaigigdeeaaGreat
