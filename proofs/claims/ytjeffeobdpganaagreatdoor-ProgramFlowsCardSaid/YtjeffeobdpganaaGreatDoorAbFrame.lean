/- A call without arguments that answers a truth value, whatever else is there. -/
import Derived.Test.YtjeffeobdpganaaGreatDoorAbK
set_option linter.unusedSimpArgs false
set_option linter.unusedVariables false
namespace Go.Ab
open Go.RowKit (Below)
theorem Grew.of {w w' : World} (h : Below w.heap.size w w') : Grew w w' := ⟨h.os, h.tape, h.output, h.size, h.block⟩
theorem closed_ok {P : Program} {S : Sys} (F : Fits P S) {f : FuncId} {b : Bool} {h0 : Hp} (he : EF S f [] ⟨[], []⟩ = some (.ret (.bool b), h0)) {p : List AV → Hp → Option (AEnd × Hp)}
    (hp : ∀ args h r h', p args h = some (r, h') → args = [] ∧ r = .ret (.bool b) ∧ h' = h) : PrimOk P f p := by
  intro args h r h' hk B w g vals hr H
  obtain ⟨rfl, rfl, rfl⟩ := hp _ _ _ _ hk
  have H0 : HR w.heap.size ⟨[], []⟩ ⟨[], [], fun k _ => k < w.heap.size⟩ w :=
    ⟨rfl, rfl, fun b x k h => by simp at h, fun a A G h => by simp at h, List.nodup_nil, fun k h => by simp at h, fun k h => by simp at h, fun k o h => h, Nat.le_refl _⟩
  have hv : vals = [] := List.eq_nil_of_length_eq_zero hr.len.symm
  subst hv
  have fin : ∀ e w', Post w.heap.size w ⟨[], [], fun k _ => k < w.heap.size⟩ (.ret (.bool b)) h0 e w' → Post B w g (.ret (.bool b)) h' e w' := by
    intro e w' hpost
    cases e with
    | returned val =>
      obtain ⟨v, g', hv, hR, _, hS⟩ := hpost
      injection hv with hv
      subst hv
      cases hR
      have hG := Grew.of hS.below
      exact ⟨_, g, rfl, .bool b, H.grew hG, hG.step H.sz g⟩
    | panicked chain =>
      obtain ⟨v, val, g', hv, _⟩ := hpost
      cases hv
    | outgrown => exact hpost.elim
  rcases EF_ok F _ _ _ _ _ he _ _ _ _ RL.nil H0 with ⟨fn, h1, h2, h3, hc⟩ | ⟨val, w', hrun, hpost⟩
  · exact .inl ⟨fn, h1, h2, h3, hc.mono fin⟩
  · exact .inr ⟨val, w', hrun, fin _ _ hpost⟩
end Go.Ab
