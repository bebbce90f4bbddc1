/- Tables of texts, sought by number. -/
import Derived.Test.YtjeffeobdpganaaGreatDoorAbClone
set_option linter.unusedSimpArgs false
set_option linter.unusedVariables false
namespace Go.Ab

inductive Tr (α : Type) where
  | nil
  | node (k : Nat) (v : α) (l r : Tr α)
def Tr.get {α : Type} : Tr α → Nat → Option α
  | .nil, _ => none
  | .node k v l r, f => bif Nat.beq f k then some v else bif Nat.blt f k then l.get f else r.get f
def Tr.All {α : Type} (p : Nat → α → Prop) : Tr α → Prop
  | .nil => True
  | .node k v l r => p k v ∧ l.All p ∧ r.All p
theorem Tr.get_all {α : Type} {p : Nat → α → Prop} : ∀ {t : Tr α}, t.All p → ∀ {f : Nat} {v : α}, t.get f = some v → p f v
  | .nil, _, f, v, h => by cases h
  | .node k u l r, ha, f, v, h => by
    simp only [Tr.get] at h
    cases hb : Nat.beq f k with
    | true =>
      rw [hb] at h
      simp only [cond_true] at h
      injection h with h
      subst h
      have := Nat.eq_of_beq_eq_true hb
      subst this
      exact ha.1
    | false =>
      rw [hb] at h
      simp only [cond_false] at h
      cases hl : Nat.blt f k with
      | true => rw [hl] at h; exact Tr.get_all ha.2.1 h
      | false => rw [hl] at h; exact Tr.get_all ha.2.2 h
/-- A contract by hand. -/
def PrimOk (P : Program) (f : FuncId) (p : List AV → Hp → Option (AEnd × Hp)) : Prop :=
  ∀ args h r h', p args h = some (r, h') → ∀ B w g vals, RL B w g args vals → HR B h g w → Does P f vals w (Post B w g r h')
theorem fits_of {P : Program} {tf : Tr MFn} {td : Tr DFn} {tp : Tr (List AV → Hp → Option (AEnd × Hp))}
    (hf : tf.All fun f m => ∃ fn, P.funcs[f]? = some fn ∧ chkF P fn m = true) (hd : td.All fun f d => ∃ fn, P.funcs[f]? = some fn ∧ chkDf P fn d = true) (hp : tp.All (PrimOk P)) :
    Fits P { fn := tf.get, dfn := td.get, prim := tp.get } :=
  ⟨fun _ _ _ h => Tr.get_all hd h, fun _ _ _ _ h => Tr.get_all hf h, fun _ _ h => Tr.get_all hp h⟩
end Go.Ab
