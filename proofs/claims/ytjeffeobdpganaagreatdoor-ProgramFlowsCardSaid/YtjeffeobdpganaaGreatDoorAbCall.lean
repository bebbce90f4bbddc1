/- Calls, panics and all other operations, one law; regions in their own order. -/
import Derived.Test.YtjeffeobdpganaaGreatDoorAbAll
import Derived.Tactics
set_option linter.unusedSimpArgs false
set_option linter.unusedVariables false
namespace Go.Ab
open Go.RowKit (Below)

/-- How a call's end stands to the abstract machine's. -/
def Post (B : Nat) (w : World) (g : Gh) (r : AEnd) (h' : Hp) : Ending → World → Prop
  | .returned val, w' => ∃ v g', r = .ret v ∧ R B w' g' v val ∧ HR B h' g' w' ∧ Step B w g w' g'
  | .panicked chain, w' => ∃ v val g', r = .pan v ∧ chain = [{ v := val, recovered := false }] ∧ R B w' g' v val ∧ HR B h' g' w' ∧ Step B w g w' g'
  | .outgrown, _ => False

/-- What a call of a function does: with a text of its own, or of the library's. -/
def Does (P : Program) (f : FuncId) (vals : List Value) (w : World) (Q : Ending → World → Prop) : Prop :=
  (∃ fn, P.funcs[f]? = some fn ∧ fn.name ≠ "runtime.NumGoroutine" ∧ fn.body.isSome = true ∧ Calls P f vals.toArray w Q) ∨
  (∃ val w', (callFunc f vals.toArray).run P w = .ok (.value val) w' ∧ Q (.returned val) w')

def CallOk (P : Program) (call : CallO) : Prop :=
  ∀ f args h r h', call f args h = some (r, h') → ∀ B w g vals, RL B w g args vals → HR B h g w → Does P f vals w (Post B w g r h')

section
variable {P : Program} {B : Nat} {w : World} {g : Gh} {h : Hp}

theorem chkM_call {op : Op} {f' : Opd} {args' : List Opd} (hc : chkM P op (.call f' args') = true) : ∃ c fo, op = .call c ∧ c.callee = .value fo ∧ chkO fo f' = true ∧ chkOL c.args.toList args' = true := by
  unfold chkM at hc
  split at hc <;> try (rename_i h1; cases h1; done)
  all_goals try contradiction
  rename_i c
  split at hc <;> try contradiction
  rename_i fo fq aq hcal heq
  injection heq with h1 h2
  subst h1
  subst h2
  simp only [chkCall, Bool.and_eq_true] at hc
  exact ⟨c, fo, rfl, hcal, hc.1, hc.2⟩
theorem chkM_pan {op : Op} {y : Opd} (hc : chkM P op (.pan y) = true) : ∃ x, op = .panic x ∧ chkO x y = true := by
  unfold chkM at hc
  split at hc <;> try contradiction
  · rename_i x y' heq
    injection heq with h1
    subst h1
    exact ⟨x, rfl, hc⟩
  · split at hc <;> contradiction
theorem R.fn_inv {f : FuncId} {cap : List AV} {v : Value} (h : R B w g (.fn f cap) v) : ∃ vs : List Value, v = .func (.func f) #[] vs.toArray ∧ RL B w g cap vs := by
  cases h with
  | fn _ _ vs hl hr => exact ⟨vs, rfl, hl, hr⟩
theorem R.iface_inv {t : TypeId} {x : AV} {v : Value} (h : R B w g (.iface t x) v) : ∃ u, v = .iface t u := by
  cases h with
  | iface _ _ u hr => exact ⟨u, rfl⟩

/-- An operation of whatever kind. -/
theorem opv_wp {call : CallO} (hok : CallOk P call) {o : Oper} {m : MOp} (hc : chkM P o.op m = true) (H : HR B h g w) {e : Nat → AV} {a : Act} (he : ER B w g e a) {r : AEnd} {h' : Hp}
    (hev : opv call (Opd.ev e) h m = some (r, h')) {K : Act → World → Prop} {Q : Exit → Act → World → Prop}
    (hK : ∀ v val w' g', r = .ret v → R B w' g' v val → HR B h' g' w' → Step B w g w' g' → K (a.put o.dst val) w')
    (hQ : ∀ v val w' g', r = .pan v → R B w' g' v val → HR B h' g' w' → Step B w g w' g' → Q (.panic [{ v := val, recovered := false }]) a w') : o.wp P a w K Q := by
  have plain : (evop (Opd.ev e) h m).map (fun r => (AEnd.ret r.1, r.2)) = some (r, h') → o.wp P a w K Q := by
    intro hmap
    obtain ⟨⟨v, h1⟩, hevv, heq⟩ := Option.map_eq_some_iff.1 hmap
    injection heq with h2 h3
    subst h2
    dsimp only at h3
    subst h3
    obtain ⟨nx, val, w', g', hrun, hnv, hR, hH, hS⟩ := op_good hc H he hevv
    unfold Oper.wp
    rw [hrun]
    cases nx <;> simp only [nv] at hnv <;> try cases hnv
    · rw [Oper.upon_value]; exact hK _ _ _ _ rfl hR hH hS
    · rw [Oper.upon_skip]; exact hK _ _ _ _ rfl hR hH hS
  cases m
  case call f args =>
    obtain ⟨c, fo, hop, hcal, hf, hargs⟩ := chkM_call hc
    simp only [opv] at hev
    have rf := he.opd hf
    split at hev
    · rename_i k cap hfe
      rw [hfe] at rf
      obtain ⟨vs, hfv, hvs⟩ := rf.fn_inv
      have hra := (he.opds hargs).append hvs
      have hrun : (execOp a.eval o).run P w = (callFunc k (c.args.toList.map a.eval ++ vs).toArray).run P w := by
        unfold execOp
        rw [hop]
        simp only [resolve, hcal, hfv, Deferred.ofValue, Sem.run_bind, Sem.run_pure, Result.andThen_ok, invoke]
        congr 2
        apply Array.ext'
        simp
      unfold Oper.wp
      rw [hrun]
      rcases hok _ _ _ _ _ hev B w g _ hra H with ⟨fn, hfn, hnm, hbody, hcalls⟩ | ⟨val, w', hrun', v, g', rfl, hR, hH, hS⟩
      · have hcf : (callFunc k (c.args.toList.map a.eval ++ vs).toArray).run P w = .ok (.enter k (c.args.toList.map a.eval ++ vs).toArray) w := by
          have hb : fn.body.isNone = false := by
            cases hq : fn.body with
            | none => rw [hq] at hbody; cases hbody
            | some _ => rfl
          have hb' : fn.body ≠ none := fun e => by rw [e] at hb; cases hb
          simp [callFunc, hfn, hnm, hb']
        rw [hcf, Oper.upon_enter]
        refine hcalls.mono fun e' w' hp => ?_
        cases e' with
        | returned val =>
          obtain ⟨v, g', rfl, hR, hH, hS⟩ := hp
          exact hK _ _ _ _ rfl hR hH hS
        | panicked chain =>
          obtain ⟨v, val, g', rfl, rfl, hR, hH, hS⟩ := hp
          exact hQ _ _ _ _ rfl hR hH hS
        | outgrown => exact hp.elim
      · rw [hrun', Oper.upon_value]
        exact hK _ _ _ _ rfl hR hH hS
    · cases hev
  case pan y =>
    obtain ⟨x, hop, hx⟩ := chkM_pan hc
    simp only [opv] at hev
    have rx := he.opd hx
    split at hev
    · rename_i t v hv
      injection hev with hev
      injection hev with h1 h2
      subst h1
      subst h2
      rw [hv] at rx
      obtain ⟨u, hu⟩ := rx.iface_inv
      have hrun : (execOp a.eval o).run P w = .halt (.panic (.iface t u)) w := by
        unfold execOp
        rw [hop]
        simp only [hu, Instr.panic, Sem.run_bind, run_goPanic]
        rfl
      unfold Oper.wp
      rw [hrun, Oper.upon_panic]
      exact hQ _ _ _ g rfl (hu ▸ rx) H (Step.refl _ _ _)
    · cases hev
  all_goals exact plain hev
end
end Go.Ab
