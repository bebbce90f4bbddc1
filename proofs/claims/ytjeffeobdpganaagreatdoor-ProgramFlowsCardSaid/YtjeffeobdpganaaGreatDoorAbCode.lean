/- Codes. -/
import Derived.Test.YtjeffeobdpganaaGreatDoorAbCall
set_option linter.unusedSimpArgs false
set_option linter.unusedVariables false
namespace Go.Ab
open Go.RowKit (Below)
section
variable {P : Program} {B : Nat} {w : World} {g : Gh} {h : Hp} {nt : Nat} {K : Nat → Bool} {dd : List Deferred} {e0 : Nat → AV}

def CPost (B : Nat) (w : World) (g : Gh) (nt : Nat) (K : Nat → Bool) (dd : List Deferred) (e0 : Nat → AV) (x : AEx) (e' : Nat → AV) (h' : Hp) (ex : Exit) (a' : Act) (w' : World) : Prop :=
  ∃ g', HR B h' g' w' ∧ Step B w g w' g' ∧ a'.defers = dd ∧ match x, ex with
    | .norm, .normal => ER B w' g' e' a' ∧ a'.tmps.size = nt
    | .ret, .ret => ER B w' g' e' a' ∧ a'.tmps.size = nt
    | .exit i, .exit j => i = j ∧ ER B w' g' e' a' ∧ a'.tmps.size = nt
    | .pan v, .panic chain => (∃ val, chain = [{ v := val, recovered := false }] ∧ R B w' g' v val) ∧ ∀ t, K t = true → R B w' g' (e0 t) (a'.tmps.getD t undef)
    | _, _ => False
theorem CPost.from {w1 : World} {g1 : Gh} (hs : Step B w g w1 g1) {x : AEx} {e' : Nat → AV} {h' : Hp} {ex : Exit} {a' : Act} {w' : World} (hp : CPost B w1 g1 nt K dd e0 x e' h' ex a' w') : CPost B w g nt K dd e0 x e' h' ex a' w' := by
  obtain ⟨g', a, b, c, d⟩ := hp
  exact ⟨g', a, hs.trans b, c, d⟩

theorem CPost.env {e1 : Nat → AV} (he : ∀ t, K t = true → e1 t = e0 t) {x : AEx} {e' : Nat → AV} {h' : Hp} {ex : Exit} {a' : Act} {w' : World} (hp : CPost B w g nt K dd e1 x e' h' ex a' w') : CPost B w g nt K dd e0 x e' h' ex a' w' := by
  obtain ⟨g', a, b, c, d⟩ := hp
  refine ⟨g', a, b, c, ?_⟩
  cases x <;> cases ex <;> first | exact d | skip
  exact ⟨d.1, fun t ht => by rw [← he t ht]; exact d.2 t ht⟩
theorem puts_keep {e : Nat → AV} {d : Option Nat} {v : AV} (hd : ∀ q, d = some q → K q = false) (t : Nat) (ht : K t = true) : puts e d v t = e t := by
  cases d with
  | none => rfl
  | some q =>
    simp only [puts, upd]
    rw [if_neg]
    intro e'
    rw [e', hd q rfl] at ht
    cases ht

theorem ER.put {e : Nat → AV} {a : Act} (he : ER B w g e a) (hn : a.tmps.size = nt) {d : Option Nat} {v : AV} {val : Value} (hd : ∀ t, d = some t → t < nt) (hr : R B w g v val) :
    ER B w g (puts e d v) (a.put d val) ∧ (a.put d val).tmps.size = nt ∧ (a.put d val).defers = a.defers := by
  cases d with
  | none => exact ⟨he, hn, rfl⟩
  | some t =>
    have ht := hd t rfl
    refine ⟨fun q => ?_, by simp [Act.put, hn], rfl⟩
    simp only [puts, upd, Act.put]
    split
    · rename_i e'
      subst e'
      have : (a.tmps.setIfInBounds q val).getD q undef = val := by
        rw [Array.getD_eq_getD_getElem?, Array.getElem?_setIfInBounds_self_of_lt (by omega)]
        rfl
      rw [this]
      exact hr
    · rename_i hne
      have : (a.tmps.setIfInBounds t val).getD q undef = a.tmps.getD q undef := by
        rw [Array.getD_eq_getD_getElem?, Array.getD_eq_getD_getElem?, Array.getElem?_setIfInBounds_ne (Ne.symm hne)]
      rw [this]
      exact he q

theorem wanted_grd {ops : Array Oper} {o : Oper} {i : Option (Nat × Bool)} (hc : chkG nt ops o.guard i = true) {e : Nat → AV} {a : Act} (he : ER B w g e a) (hn : a.tmps.size = nt) : Region.wanted o (yielded ops a.tmps) = grd i e := by
  unfold Region.wanted
  cases hg : o.guard with
  | none =>
    rw [hg] at hc
    cases i with
    | none => rfl
    | some p => cases hc
  | some p =>
    obtain ⟨j, b⟩ := p
    rw [hg] at hc
    cases i with
    | none => cases hc
    | some q =>
      obtain ⟨t, b'⟩ := q
      simp only [chkG, Bool.and_eq_true, beq_iff_eq] at hc
      obtain ⟨⟨hlt, rfl⟩, hd⟩ := hc
      have hR := he t
      have htl : t < a.tmps.size := by rw [hn]; simpa using hlt
      have hget : a.tmps[t]? = some (a.tmps.getD t undef) := by
        rw [Array.getD_eq_getD_getElem?, Array.getElem?_eq_getElem htl]
        rfl
      simp only [yielded, hd, Option.bind_some, grd, hget]
      generalize a.tmps.getD t undef = val at hR
      generalize e t = x at hR
      cases hR <;> first
        | rfl
        | (rename_i c; cases c <;> cases b <;> rfl)
        | skip
      all_goals (cases b <;> rfl)
theorem chkI_parts {ops : Array Oper} {o : Oper} {i : MI} (hc : chkI P nt ops o i = true) :
    o.dst = i.d ∧ (∀ t, o.dst = some t → t < nt) ∧ chkG nt ops o.guard i.g = true ∧ chkM P o.op i.op = true := by
  simp only [chkI, Bool.and_eq_true, beq_iff_eq] at hc
  obtain ⟨⟨⟨h1, h2⟩, h3⟩, h4⟩ := hc
  refine ⟨h1, fun t ht => ?_, h3, h4⟩
  rw [h1] at ht
  rw [ht] at h2
  simpa using h2

theorem ops_wp {call : CallO} (hok : CallOk P call) {ops : Array Oper} {Q : Exit → Act → World → Prop} : ∀ (os : List Oper) (is : List MI) (w : World) (g : Gh) (h : Hp) (e : Nat → AV) (a : Act)
    (x : AEx) (e' : Nat → AV) (h' : Hp), chkIs P nt ops os is = true → evops call is e h = some (x, e', h') → (∀ i ∈ is, ∀ q, i.d = some q → K q = false) → HR B h g w → ER B w g e a → a.tmps.size = nt → a.defers = dd →
    (∀ ex a' w', CPost B w g nt K dd e x e' h' ex a' w' → Q ex a' w') → wpList P ops Q os a w
  | [], [], w, g, h, e, a, x, e', h', _, hev, _, H, he, hn, hd, hQ => by
    simp only [evops] at hev
    injection hev with hev
    injection hev with h1 h2
    injection h2 with h2 h3
    subst h1
    subst h2
    subst h3
    exact wpList_nil (hQ _ _ _ ⟨g, H, Step.refl _ _ _, hd, he, hn⟩)
  | o :: os, i :: is, w, g, h, e, a, x, e', h', hc, hev, hK, H, he, hn, hd, hQ => by
    simp only [chkIs, Bool.and_eq_true] at hc
    obtain ⟨hci, hcs⟩ := hc
    obtain ⟨hdst, hlt, hg, hm⟩ := chkI_parts hci
    simp only [evops] at hev
    obtain ⟨⟨x1, e1, h1⟩, hs, hev⟩ := Option.bind_eq_some_iff.1 hev
    unfold wpList
    rw [wanted_grd hg he hn]
    unfold stp at hs
    split at hs
    · rename_i hgr
      rw [if_pos hgr]
      obtain ⟨⟨r, h2⟩, hop, hb⟩ := Option.map_eq_some_iff.1 hs
      refine .inl (opv_wp hok hm H he hop (fun v val w' g' hr hR hH hS => ?_) (fun v val w' g' hr hR hH hS => ?_))
      · subst hr
        simp only [back] at hb
        injection hb with hb1 hb2
        injection hb2 with hb2 hb3
        subst hb1
        subst hb2
        subst hb3
        rw [hdst]
        rw [hdst] at hlt
        obtain ⟨p1, p2, p3⟩ := (he.step hS).put hn hlt hR
        exact ops_wp hok os is w' g' _ _ _ x e' h' hcs hev (fun i' hi' => hK i' (by simp [hi'])) hH p1 p2 (p3.trans hd) fun ex a' w'' hp => hQ _ _ _ ((hp.from hS).env (puts_keep (hK i (by simp))))
      · subst hr
        simp only [back] at hb
        injection hb with hb1 hb2
        injection hb2 with hb2 hb3
        subst hb1
        subst hb2
        subst hb3
        dsimp only at hev
        injection hev with hev
        injection hev with h3 h4
        injection h4 with h4 h5
        subst h3
        subst h4
        subst h5
        exact hQ _ _ _ ⟨g', hH, hS, hd, ⟨val, rfl, hR⟩, fun t _ => (he.step hS) t⟩
    · rename_i hgr
      rw [if_neg hgr]
      injection hs with hs
      injection hs with hs1 hs2
      injection hs2 with hs2 hs3
      subst hs1
      subst hs2
      subst hs3
      rw [hdst]
      rw [hdst] at hlt
      obtain ⟨p1, p2, p3⟩ := he.put hn hlt undef_R
      exact ops_wp hok os is w g _ _ _ x e' h' hcs hev (fun i' hi' => hK i' (by simp [hi'])) H p1 p2 (p3.trans hd) fun ex a' w'' hp => hQ _ _ _ (hp.env (puts_keep (hK i (by simp))))
  | [], _ :: _, _, _, _, _, _, _, _, _, hc, _, _, _, _, _, _, _ => by cases hc
  | _ :: _, [], _, _, _, _, _, _, _, _, hc, _, _, _, _, _, _, _ => by cases hc
end
end Go.Ab
