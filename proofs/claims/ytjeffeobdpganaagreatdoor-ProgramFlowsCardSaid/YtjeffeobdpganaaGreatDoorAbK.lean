/- The evaluation once more, its places in a tree: made for the kernel. -/
import Derived.Test.YtjeffeobdpganaaGreatDoorAbSys
set_option linter.unusedSimpArgs false
set_option linter.unusedVariables false
namespace Go.Ab

/-- A frame's places. -/
inductive Ev where
  | nil
  | node (v : AV) (l r : Ev)
namespace Ev
def get : Ev → Nat → AV
  | .nil, _ => undefA
  | .node v l r, n => bif Nat.beq n 0 then v else bif Nat.beq (n % 2) 1 then l.get (n / 2) else r.get (n / 2 - 1)
def set : Ev → Nat → AV → Ev
  | .nil, _, _ => .nil
  | .node v l r, n, x => bif Nat.beq n 0 then .node x l r else bif Nat.beq (n % 2) 1 then .node v (l.set (n / 2) x) r else .node v l (r.set (n / 2 - 1) x)
/-- Full to a depth. -/
def full : Nat → Ev
  | 0 => .nil
  | k + 1 => .node undefA (full k) (full k)
def deep : Nat → Ev → Prop
  | 0, _ => True
  | k + 1, .node _ l r => deep k l ∧ deep k r
  | _ + 1, .nil => False
theorem deep_full : ∀ k, deep k (full k)
  | 0 => trivial
  | k + 1 => ⟨deep_full k, deep_full k⟩
theorem get_full : ∀ k n, (full k).get n = undefA
  | 0, _ => rfl
  | k + 1, n => by
    simp only [full, get]
    cases Nat.beq n 0 with
    | true => rfl
    | false =>
      cases Nat.beq (n % 2) 1 with
      | true => exact get_full k _
      | false => exact get_full k _
theorem deep_set : ∀ {k : Nat} {e : Ev} (n : Nat) (x : AV), deep k e → deep k (e.set n x)
  | 0, _, _, _, _ => trivial
  | k + 1, .node v l r, n, x, h => by
    simp only [set]
    cases Nat.beq n 0 with
    | true => exact h
    | false =>
      cases Nat.beq (n % 2) 1 with
      | true => exact ⟨deep_set _ _ h.1, h.2⟩
      | false => exact ⟨h.1, deep_set _ _ h.2⟩
  | k + 1, .nil, _, _, h => h.elim
theorem get_set : ∀ {k : Nat} {e : Ev} {d : Nat} (x : AV), deep k e → d + 1 < 2 ^ k → (e.set d x).get = upd e.get d x
  | 0, _, d, _, _, h => by simp at h
  | k + 1, .nil, _, _, h, _ => h.elim
  | k + 1, .node v l r, d, x, h, hd => by
    have hp : 2 ^ (k + 1) = 2 * 2 ^ k := by rw [Nat.pow_succ, Nat.mul_comm]
    funext t
    simp only [set]
    cases h0 : Nat.beq d 0 with
    | true =>
      have := Nat.eq_of_beq_eq_true h0
      subst this
      simp only [cond_true, get, upd]
      cases ht : Nat.beq t 0 with
      | true => have := Nat.eq_of_beq_eq_true ht; subst this; simp
      | false =>
        have : t ≠ 0 := fun e => by subst e; cases ht
        rw [if_neg this]
        simp only [cond_false]
    | false =>
      have hd0 : d ≠ 0 := fun e => by subst e; cases h0
      cases h1 : Nat.beq (d % 2) 1 with
      | true =>
        have hd1 := Nat.eq_of_beq_eq_true h1
        have ih := get_set (e := l) (d := d / 2) x h.1 (by omega)
        simp only [cond_true, cond_false, get, upd]
        cases ht : Nat.beq t 0 with
        | true =>
          have := Nat.eq_of_beq_eq_true ht
          subst this
          rw [if_neg (by omega)]
          simp only [cond_true]
        | false =>
          have ht0 : t ≠ 0 := fun e => by subst e; cases ht
          simp only [cond_false]
          cases ht1 : Nat.beq (t % 2) 1 with
          | true =>
            have ht1' := Nat.eq_of_beq_eq_true ht1
            simp only [cond_true, ih, upd]
            by_cases htd : t = d
            · subst htd; simp
            · rw [if_neg htd, if_neg (by omega)]
          | false =>
            have : t ≠ d := fun e => by subst e; rw [h1] at ht1; cases ht1
            rw [if_neg this]
            simp only [cond_false]
      | false =>
        have hd1 : d % 2 ≠ 1 := fun e => by rw [e] at h1; cases h1
        have ih := get_set (e := r) (d := d / 2 - 1) x h.2 (by omega)
        simp only [cond_false, get, upd]
        cases ht : Nat.beq t 0 with
        | true =>
          have := Nat.eq_of_beq_eq_true ht
          subst this
          rw [if_neg (by omega)]
          simp only [cond_true]
        | false =>
          have ht0 : t ≠ 0 := fun e => by subst e; cases ht
          simp only [cond_false]
          cases ht1 : Nat.beq (t % 2) 1 with
          | true =>
            have ht1' := Nat.eq_of_beq_eq_true ht1
            rw [if_neg (by omega)]
            simp only [cond_true]
          | false =>
            have ht1' : t % 2 ≠ 1 := fun e => by rw [e] at ht1; cases ht1
            simp only [cond_false, ih, upd]
            by_cases htd : t = d
            · subst htd; simp
            · rw [if_neg htd, if_neg (by omega)]
end Ev

/-- A frame of 511 places. -/
def fr0 : Ev := Ev.full 9
def EvOk (E : Ev) : Prop := Ev.deep 9 E
def putK (E : Ev) (d : Option Nat) (v : AV) : Option Ev :=
  match d with
  | none => some E
  | some d => bif Nat.blt d 511 then some (E.set d v) else none
theorem putK_ok {E E' : Ev} {d : Option Nat} {v : AV} (hE : EvOk E) (h : putK E d v = some E') : EvOk E' ∧ puts E.get d v = E'.get := by
  cases d with
  | none => injection h with h; subst h; exact ⟨hE, rfl⟩
  | some d =>
    simp only [putK] at h
    cases hb : Nat.blt d 511 with
    | false => rw [hb] at h; cases h
    | true =>
      rw [hb] at h
      injection h with h
      subst h
      have : d < 511 := by simpa [Nat.blt_eq] using hb
      exact ⟨Ev.deep_set _ _ hE, (Ev.get_set v hE (by omega)).symm⟩
def argsK : List AV → Nat → Ev → Option Ev
  | [], _, E => some E
  | v :: l, k, E => (putK E (some k) v).bind (argsK l (k + 1))
theorem argsK_ok : ∀ {l pre : List AV} {E E' : Ev}, EvOk E → E.get = env0 pre → argsK l pre.length E = some E' → EvOk E' ∧ E'.get = env0 (pre ++ l)
  | [], pre, E, E', hE, he, h => by
    simp only [argsK] at h
    injection h with h
    subst h
    exact ⟨hE, by simpa using he⟩
  | v :: l, pre, E, E', hE, he, h => by
    simp only [argsK] at h
    obtain ⟨E1, h1, h2⟩ := Option.bind_eq_some_iff.1 h
    obtain ⟨hE1, hp⟩ := putK_ok hE h1
    have := argsK_ok (l := l) (pre := pre ++ [v]) hE1 (by
      rw [← hp, he]
      funext t
      simp only [puts, upd, env0]
      by_cases ht : t = pre.length
      · subst ht; simp [List.getD]
      · rw [if_neg ht]
        simp only [List.getD]
        rcases Nat.lt_or_gt_of_ne ht with h' | h'
        · rw [List.getElem?_append_left h']
        · rw [List.getElem?_append_right (by omega), List.getElem?_eq_none (by omega), List.getElem?_eq_none (by simp; omega)]) (by simpa using h2)
    simpa using this

abbrev KRes := AEx × Ev × Hp
/-- What an evaluation in a tree says of the other one. -/
def Says (k : Option KRes) (r : Option ARes) : Prop := ∀ x E h, k = some (x, E, h) → EvOk E ∧ r = some (x, E.get, h)

def stpK (call : CallO) (i : MI) (E : Ev) (h : Hp) : Option KRes :=
  match grd i.g E.get with
  | true => (opv call (Opd.ev E.get) h i.op).bind fun r => match r.1 with
    | .ret v => (putK E i.d v).map fun E' => (.norm, E', r.2)
    | .pan v => some (.pan v, E, r.2)
  | false => (putK E i.d undefA).map fun E' => (.norm, E', h)
theorem opv_mono {call call' : CallO} (hc : ∀ f a h r, call f a h = some r → call' f a h = some r) {E : Opd → AV} {h : Hp} {m : MOp} {r : AEnd × Hp} (ho : opv call E h m = some r) : opv call' E h m = some r := by
  cases m
  case call f args =>
    simp only [opv] at ho ⊢
    split at ho
    · exact hc _ _ _ _ ho
    · cases ho
  all_goals exact ho
theorem stpK_ok {call call' : CallO} (hc : ∀ f a h r, call f a h = some r → call' f a h = some r) {i : MI} {E : Ev} {h : Hp} (hE : EvOk E) : Says (stpK call i E h) (stp call' i E.get h) := by
  intro x E1 h1 hk
  unfold stpK at hk
  unfold stp
  cases hg : grd i.g E.get with
  | true =>
    rw [hg] at hk
    dsimp only at hk
    obtain ⟨⟨r, h2⟩, hop, hk⟩ := Option.bind_eq_some_iff.1 hk
    rw [if_pos rfl, opv_mono hc hop]
    cases r with
    | ret v =>
      obtain ⟨E2, hp, hk⟩ := Option.map_eq_some_iff.1 hk
      injection hk with e1 e2
      injection e2 with e2 e3
      subst e1; subst e2; subst e3
      obtain ⟨q1, q2⟩ := putK_ok hE hp
      exact ⟨q1, by simp [back, q2]⟩
    | pan v =>
      injection hk with hk
      injection hk with e1 e2
      injection e2 with e2 e3
      subst e1; subst e2; subst e3
      exact ⟨hE, rfl⟩
  | false =>
    rw [hg] at hk
    dsimp only at hk
    obtain ⟨E2, hp, hk⟩ := Option.map_eq_some_iff.1 hk
    injection hk with e1 e2
    injection e2 with e2 e3
    subst e1; subst e2; subst e3
    obtain ⟨q1, q2⟩ := putK_ok hE hp
    rw [if_neg (by simp)]
    exact ⟨q1, by rw [q2]⟩

def evopsK (call : CallO) : List MI → Ev → Hp → Option KRes
  | [], E, h => some (.norm, E, h)
  | i :: l, E, h => (stpK call i E h).bind fun r => match r.1 with
    | .norm => evopsK call l r.2.1 r.2.2
    | _ => some r
theorem evopsK_ok {call call' : CallO} (hc : ∀ f a h r, call f a h = some r → call' f a h = some r) : ∀ {l : List MI} {E : Ev} {h : Hp}, EvOk E → Says (evopsK call l E h) (evops call' l E.get h)
  | [], E, h, hE => by
    intro x E1 h1 hk
    simp only [evopsK] at hk
    injection hk with hk
    injection hk with e1 e2
    injection e2 with e2 e3
    subst e1; subst e2; subst e3
    exact ⟨hE, rfl⟩
  | i :: l, E, h, hE => by
    intro x E1 h1 hk
    simp only [evopsK] at hk
    obtain ⟨⟨x2, E2, h2⟩, hs, hk⟩ := Option.bind_eq_some_iff.1 hk
    obtain ⟨hE2, hs'⟩ := stpK_ok hc hE _ _ _ hs
    simp only [evops, hs', Option.bind_some]
    cases x2 with
    | norm => exact evopsK_ok hc hE2 _ _ _ hk
    | exit _ | ret | pan _ =>
      injection hk with hk
      injection hk with e1 e2
      injection e2 with e2 e3
      subst e1; subst e2; subst e3
      exact ⟨hE2, rfl⟩
def evdK (call : CallO) (all : List MD) : List MD → Ev → Hp → Option KRes
  | [], E, h => some (.norm, E, h)
  | x :: l, E, h => (stpK call x.i E h).bind fun r => match r.1 with
    | .norm => match sames all r.2.1.get r.2.2 x.rc with
      | true => evdK call all l r.2.1 r.2.2
      | false => none
    | _ => some r
theorem evdK_ok {call call' : CallO} (hc : ∀ f a h r, call f a h = some r → call' f a h = some r) {all : List MD} : ∀ {l : List MD} {E : Ev} {h : Hp}, EvOk E → Says (evdK call all l E h) (evd call' all l E.get h)
  | [], E, h, hE => by
    intro x E1 h1 hk
    simp only [evdK] at hk
    injection hk with hk
    injection hk with e1 e2
    injection e2 with e2 e3
    subst e1; subst e2; subst e3
    exact ⟨hE, rfl⟩
  | i :: l, E, h, hE => by
    intro x E1 h1 hk
    simp only [evdK] at hk
    obtain ⟨⟨x2, E2, h2⟩, hs, hk⟩ := Option.bind_eq_some_iff.1 hk
    obtain ⟨hE2, hs'⟩ := stpK_ok hc hE _ _ _ hs
    simp only [evd, hs', Option.bind_some]
    cases x2 with
    | norm =>
      dsimp only at hk ⊢
      cases hsm : sames all E2.get h2 i.rc with
      | true =>
        rw [hsm] at hk
        rw [if_pos rfl]
        exact evdK_ok hc hE2 _ _ _ hk
      | false => rw [hsm] at hk; cases hk
    | exit _ | ret | pan _ =>
      injection hk with hk
      injection hk with e1 e2
      injection e2 with e2 e3
      subst e1; subst e2; subst e3
      exact ⟨hE2, rfl⟩

/-- A function that defers. -/
def handK (cc : MC → Ev → Hp → Option KRes) (co : CallO) (hm : HFn) (cap : List AV) (rv : AV) (h : Hp) : Option Hp :=
  if cap.length = hm.np then (argsK cap 0 fr0).bind fun E0 => (putK E0 (some hm.rt) rv).bind fun E1 => (evopsK co hm.ops E1 h).bind fun r => match r.1 with
    | .norm => (cc hm.rest r.2.1 r.2.2).bind fun q => match q.1 with
      | .norm => some q.2.2
      | .ret => some q.2.2
      | _ => none
    | _ => none
  else none
def dlastK (cc : MC → Ev → Hp → Option KRes) (co : CallO) (d : DFn) (h : Hp) (E : Ev) (cl : List AV) (r : KRes) : Option (AEnd × Hp) :=
  match r.1 with
  | .norm => (handK cc co d.h cl .nili r.2.2).bind fun h4 => dfin d h r.2.1.get h4
  | .ret => (handK cc co d.h cl .nili r.2.2).bind fun h4 => dfin d h r.2.1.get h4
  | .pan v => (handK cc co d.h cl v r.2.2).bind fun h4 => dfin d h E.get h4
  | .exit _ => none
def dmidK (cc : MC → Ev → Hp → Option KRes) (co : CallO) (d : DFn) (h : Hp) (r : KRes) : Option (AEnd × Hp) :=
  match r.1 with
  | .norm => (putK r.2.1 (some d.t) (.fn d.h.f (d.cap.map (Opd.ev r.2.1.get)))).bind fun E1 =>
    (cc d.rest E1 r.2.2).bind (dlastK cc co d h E1 (d.cap.map (Opd.ev r.2.1.get)))
  | .ret => dfin d h r.2.1.get r.2.2
  | _ => none
def dbodyK (cc : MC → Ev → Hp → Option KRes) (co : CallO) (d : DFn) (args : List AV) (h : Hp) : Option (AEnd × Hp) :=
  if args.length = d.np then (argsK args 0 fr0).bind fun E0 => (cc d.pre1 E0 h).bind fun r => match r.1 with
    | .norm => (cc d.pre2 r.2.1 r.2.2).bind (dmidK cc co d h)
    | _ => none
  else none
theorem fr0_ok : EvOk fr0 := Ev.deep_full 9
theorem args_ok {args : List AV} {E : Ev} (h : argsK args 0 fr0 = some E) : EvOk E ∧ E.get = env0 args := by
  have := argsK_ok (l := args) (pre := []) fr0_ok (by
    funext t
    rw [fr0, Ev.get_full]
    rfl) h
  simpa using this

section
variable {cc : MC → Ev → Hp → Option KRes} {cf : MC → (Nat → AV) → Hp → Option ARes} {co co' : CallO}
theorem handK_ok (hcc : ∀ c E h, EvOk E → Says (cc c E h) (cf c E.get h)) (hco : ∀ l E h, EvOk E → Says (evopsK co l E h) (evops co' l E.get h)) {hm : HFn} {cap : List AV} {rv : AV} {h h' : Hp} (hk : handK cc co hm cap rv h = some h') :
    hand cf co' hm cap rv h = some h' := by
  unfold handK at hk
  obtain ⟨hl, hk⟩ := ite_opt hk
  obtain ⟨E0, h0, hk⟩ := Option.bind_eq_some_iff.1 hk
  obtain ⟨E1, h1, hk⟩ := Option.bind_eq_some_iff.1 hk
  obtain ⟨⟨x2, E2, h2⟩, hs, hk⟩ := Option.bind_eq_some_iff.1 hk
  obtain ⟨q0, q0'⟩ := args_ok h0
  obtain ⟨q1, q1'⟩ := putK_ok q0 h1
  obtain ⟨q2, q2'⟩ := hco _ _ _ q1 _ _ _ hs
  unfold hand
  have e1 : upd (env0 cap) hm.rt rv = E1.get := by rw [← q1', ← q0']; rfl
  rw [if_pos hl, e1, q2', Option.bind_some]
  cases x2 <;> dsimp only at hk ⊢ <;> try (cases hk; done)
  obtain ⟨⟨x3, E3, h3⟩, hs3, hk⟩ := Option.bind_eq_some_iff.1 hk
  obtain ⟨q3, q3'⟩ := hcc _ _ _ q2 _ _ _ hs3
  rw [q3', Option.bind_some]
  exact hk
theorem dbodyK_ok (hcc : ∀ c E h, EvOk E → Says (cc c E h) (cf c E.get h)) (hco : ∀ l E h, EvOk E → Says (evopsK co l E h) (evops co' l E.get h)) {d : DFn} {args : List AV} {h : Hp} {r : AEnd × Hp} (hk : dbodyK cc co d args h = some r) :
    dbody cf co' d args h = some r := by
  unfold dbodyK at hk
  obtain ⟨hl, hk⟩ := ite_opt hk
  obtain ⟨E0, h0, hk⟩ := Option.bind_eq_some_iff.1 hk
  obtain ⟨⟨x1, E1, h1⟩, hs, hk⟩ := Option.bind_eq_some_iff.1 hk
  obtain ⟨q0, q0'⟩ := args_ok h0
  obtain ⟨q1, q1'⟩ := hcc _ _ _ q0 _ _ _ hs
  unfold dbody
  rw [if_pos hl, ← q0', q1', Option.bind_some]
  unfold dbeg
  cases x1 <;> dsimp only at hk ⊢ <;> try (cases hk; done)
  obtain ⟨⟨x2, E2, h2⟩, hs2, hk⟩ := Option.bind_eq_some_iff.1 hk
  obtain ⟨q2, q2'⟩ := hcc _ _ _ q1 _ _ _ hs2
  rw [q2', Option.bind_some]
  unfold dmidK at hk
  unfold dmid
  cases x2 <;> dsimp only at hk ⊢ <;> try (first | exact hk | (cases hk; done))
  obtain ⟨E3, h3, hk⟩ := Option.bind_eq_some_iff.1 hk
  obtain ⟨⟨x4, E4, h4⟩, hs4, hk⟩ := Option.bind_eq_some_iff.1 hk
  obtain ⟨q3, q3'⟩ := putK_ok q2 h3
  obtain ⟨q4, q4'⟩ := hcc _ _ _ q3 _ _ _ hs4
  have e3 : upd E2.get d.t (.fn d.h.f (d.cap.map (Opd.ev E2.get))) = E3.get := q3'
  rw [e3, q4', Option.bind_some]
  unfold dlastK at hk
  unfold dlast
  cases x4 <;> dsimp only at hk ⊢ <;> try (cases hk; done)
  all_goals
    obtain ⟨h5, hs5, hk⟩ := Option.bind_eq_some_iff.1 hk
    rw [handK_ok hcc hco hs5, Option.bind_some]
    exact hk
end

mutual
def kC (O : CallO) (S : Sys) : Nat → MC → Ev → Hp → Option KRes
  | 0, _, _, _ => none
  | _ + 1, .skip, e, h => some (.norm, e, h)
  | n + 1, .reg ops, e, h => evopsK (kF O S n) ops e h
  | n + 1, .dreg l, e, h => evdK (kF O S n) l l e h
  | n + 1, .seq a b, e, h => (kC O S n a e h).bind fun (x, e', h') => match x with
    | .norm => kC O S n b e' h'
    | x => some (x, e', h')
  | n + 1, .cond c a b, e, h => match c.ev e.get with
    | .bool t => match t with
      | true => kC O S n a e h
      | false => kC O S n b e h
    | _ => none
  | n + 1, .block id b, e, h => (kC O S n b e h).bind fun (x, e', h') => match x with
    | .exit id' => if id' = id then some (.norm, e', h') else some (.exit id', e', h')
    | x => some (x, e', h')
  | n + 1, .loop b, e, h => (kC O S n b e h).bind fun (x, e', h') => match x with
    | .norm => kC O S n (.loop b) e' h'
    | x => some (x, e', h')
  | _ + 1, .exit id, e, h => some (.exit id, e, h)
  | _ + 1, .ret, e, h => some (.ret, e, h)
  | _ + 1, .bad, _, _ => none
def kF (O : CallO) (S : Sys) : Nat → FuncId → List AV → Hp → Option (AEnd × Hp)
  | 0, _, _, _ => none
  | n + 1, f, args, h =>
    match O f args h with
    | some r => some r
    | none => match S.prim f with
    | some p => p args h
    | none => match S.dfn f with
    | some d => dbodyK (kC O S n) (kF O S n) d args h
    | none => match S.fn f with
      | none => none
      | some m => if args.length = m.np then (argsK args 0 fr0).bind fun E0 => (kC O S n m.body E0 h).bind fun (x, e, h') => match x with
          | .norm | .ret => (resV e.get h' m.res).bind fun vs => gc m.gc h.nb h.na (.ret (one1 vs)) h'
          | .pan v => gc m.gc h.nb h.na (.pan v) h'
          | .exit _ => none
        else none
end

theorem k_ok (S : Sys) {O : CallO} (hO : ∀ f args h r, O f args h = some r → EF S f args h = some r) : ∀ n, (∀ f args h r, kF O S n f args h = some r → EF S f args h = some r) ∧ (∀ c E h, EvOk E → Says (kC O S n c E h) (EC S c E.get h)) := by
  intro n
  induction n with
  | zero => exact ⟨fun f args h r hk => by simp [kF] at hk, fun c E h _ x E1 h1 hk => by simp [kC] at hk⟩
  | succ n ih =>
    obtain ⟨ihF, ihC⟩ := ih
    refine ⟨fun f args h r hk => ?_, fun c E h hE x E1 h1 hk => ?_⟩
    · rw [kF] at hk
      cases ho : O f args h with
      | some r' =>
        simp only [ho] at hk
        injection hk with hk
        subst hk
        exact hO _ _ _ _ ho
      | none =>
      simp only [ho] at hk
      cases hp : S.prim f with
      | some p => simp only [hp] at hk; rw [EF_prim hp]; exact hk
      | none =>
        simp only [hp] at hk
        cases hd : S.dfn f with
        | some d =>
          simp only [hd] at hk
          rw [EF_dfn hp hd]
          exact dbodyK_ok ihC (fun l E h hE => evopsK_ok ihF hE) hk
        | none =>
          simp only [hd] at hk
          cases hm : S.fn f with
          | none => simp only [hm] at hk; cases hk
          | some m =>
            simp only [hm] at hk
            obtain ⟨hl, hk⟩ := ite_opt hk
            obtain ⟨E0, h0, hk⟩ := Option.bind_eq_some_iff.1 hk
            obtain ⟨⟨x1, E1, h1⟩, hs, hk⟩ := Option.bind_eq_some_iff.1 hk
            obtain ⟨q0, q0'⟩ := args_ok h0
            obtain ⟨q1, q1'⟩ := ihC _ _ _ q0 _ _ _ hs
            rw [EF_fn hp hd hm hl, ← q0', q1', Option.bind_some]
            exact hk
    · cases c with
      | skip | exit _ | ret =>
        simp only [kC] at hk
        injection hk with hk
        injection hk with e1 e2
        injection e2 with e2 e3
        subst e1; subst e2; subst e3
        first | exact ⟨hE, EC_skip⟩ | exact ⟨hE, EC_exit⟩ | exact ⟨hE, EC_ret⟩
      | bad => simp [kC] at hk
      | reg ops =>
        simp only [kC] at hk
        rw [EC_reg]
        exact evopsK_ok ihF hE _ _ _ hk
      | dreg l =>
        simp only [kC] at hk
        rw [EC_dreg]
        exact evdK_ok ihF hE _ _ _ hk
      | seq a b =>
        simp only [kC] at hk
        rw [EC_seq]
        obtain ⟨⟨x2, E2, h2⟩, hs, hk⟩ := Option.bind_eq_some_iff.1 hk
        obtain ⟨q2, q2'⟩ := ihC _ _ _ hE _ _ _ hs
        rw [q2', Option.bind_some]
        cases x2 with
        | norm => exact ihC _ _ _ q2 _ _ _ hk
        | exit _ | ret | pan _ =>
          injection hk with hk
          injection hk with e1 e2
          injection e2 with e2 e3
          subst e1; subst e2; subst e3
          exact ⟨q2, rfl⟩
      | cond co a b =>
        simp only [kC] at hk
        split at hk
        · rename_i t ht
          rw [EC_cond ht]
          cases t with
          | true => exact ihC _ _ _ hE _ _ _ hk
          | false => exact ihC _ _ _ hE _ _ _ hk
        · cases hk
      | block id b =>
        simp only [kC] at hk
        rw [EC_block]
        obtain ⟨⟨x2, E2, h2⟩, hs, hk⟩ := Option.bind_eq_some_iff.1 hk
        obtain ⟨q2, q2'⟩ := ihC _ _ _ hE _ _ _ hs
        rw [q2', Option.map_some]
        simp only [blk]
        cases x2 with
        | exit id' =>
          dsimp only at hk ⊢
          split at hk
          · rename_i he
            rw [if_pos he]
            injection hk with hk
            injection hk with e1 e2
            injection e2 with e2 e3
            subst e1; subst e2; subst e3
            exact ⟨q2, rfl⟩
          · rename_i he
            rw [if_neg he]
            injection hk with hk
            injection hk with e1 e2
            injection e2 with e2 e3
            subst e1; subst e2; subst e3
            exact ⟨q2, rfl⟩
        | norm | ret | pan _ =>
          injection hk with hk
          injection hk with e1 e2
          injection e2 with e2 e3
          subst e1; subst e2; subst e3
          exact ⟨q2, rfl⟩
      | loop b =>
        simp only [kC] at hk
        rw [EC_loop]
        obtain ⟨⟨x2, E2, h2⟩, hs, hk⟩ := Option.bind_eq_some_iff.1 hk
        obtain ⟨q2, q2'⟩ := ihC _ _ _ hE _ _ _ hs
        rw [q2', Option.bind_some]
        cases x2 with
        | norm => exact ihC _ _ _ q2 _ _ _ hk
        | exit _ | ret | pan _ =>
          injection hk with hk
          injection hk with e1 e2
          injection e2 with e2 e3
          subst e1; subst e2; subst e3
          exact ⟨q2, rfl⟩
/-- Nothing is known. -/
def noO : CallO := fun _ _ _ => none
/-- What is reckoned in the tree holds in the limit. -/
theorem EF_of_kF {S : Sys} {n : Nat} {f : FuncId} {args : List AV} {h : Hp} {r : AEnd × Hp} (hk : kF noO S n f args h = some r) : EF S f args h = some r :=
  (k_ok S (fun _ _ _ _ h => by cases h) n).1 _ _ _ _ hk

/-- Are they one? -/
def Box.beq : Box → Box → Bool
  | .cells t cs, .cells t' cs' => t == t' && AV.beqL cs cs'
  | .map es, .map es' => AV.beqL (es.map (·.1)) (es'.map (·.1)) && AV.beqL (es.map (·.2)) (es'.map (·.2))
  | .siter s p, .siter s' p' => s == s' && p == p'
  | _, _ => false
def Arr.beq (a b : Arr) : Bool := a.t == b.t && a.esz == b.esz && a.bytes == b.bytes && a.ver == b.ver && AV.beqLL a.es b.es && a.fz == b.fz
def lbeq {α : Type} (f : α → α → Bool) : List α → List α → Bool
  | [], [] => true
  | a :: l, b :: m => f a b && lbeq f l m
  | _, _ => false
def Hp.beq (a b : Hp) : Bool := lbeq Box.beq a.bx b.bx && lbeq Arr.beq a.ar b.ar
theorem lbeq_eq {α : Type} {f : α → α → Bool} (hf : ∀ a b, f a b = true → a = b) : ∀ {l m : List α}, lbeq f l m = true → l = m
  | [], [], _ => rfl
  | a :: l, b :: m, h => by
    simp only [lbeq, Bool.and_eq_true] at h
    rw [hf a b h.1, lbeq_eq hf h.2]
  | [], _ :: _, h => by cases h
  | _ :: _, [], h => by cases h
theorem pairs_eq : ∀ {l m : List (AV × AV)}, l.map (·.1) = m.map (·.1) → l.map (·.2) = m.map (·.2) → l = m
  | [], [], _, _ => rfl
  | (a, b) :: l, (c, d) :: m, h1, h2 => by
    simp only [List.map_cons, List.cons.injEq] at h1 h2
    obtain ⟨rfl, h1⟩ := h1
    obtain ⟨rfl, h2⟩ := h2
    rw [pairs_eq h1 h2]
  | [], _ :: _, h, _ => by simp at h
  | _ :: _, [], h, _ => by simp at h
theorem Box.eq_of_beq {a b : Box} (h : Box.beq a b = true) : a = b := by
  cases a <;> cases b <;> simp only [Box.beq, Bool.and_eq_true, beq_iff_eq, Bool.false_eq_true] at h
  · rw [h.1, AV.eqL_of_beq h.2]
  · rw [pairs_eq (AV.eqL_of_beq h.1) (AV.eqL_of_beq h.2)]
  · rw [h.1, h.2]
theorem Arr.eq_of_beq {a b : Arr} (h : Arr.beq a b = true) : a = b := by
  cases a
  cases b
  simp only [Arr.beq, Bool.and_eq_true, beq_iff_eq] at h
  obtain ⟨⟨⟨⟨⟨rfl, rfl⟩, rfl⟩, rfl⟩, h5⟩, rfl⟩ := h
  rw [AV.eqLL_of_beq h5]
theorem Hp.eq_of_beq {a b : Hp} (h : Hp.beq a b = true) : a = b := by
  cases a
  cases b
  simp only [Hp.beq, Bool.and_eq_true] at h
  rw [lbeq_eq (fun _ _ => Box.eq_of_beq) h.1, lbeq_eq (fun _ _ => Arr.eq_of_beq) h.2]
/-- A call whose answer is known. -/
structure Known where
  f : FuncId
  args : List AV
  h : Hp
  r : AEnd × Hp
def Known.says (S : Sys) (k : Known) : Prop := EF S k.f k.args k.h = some k.r
def tab : List Known → CallO
  | [], _, _, _ => none
  | k :: l, f, args, h => bif Nat.beq f k.f && (AV.beqL args k.args && Hp.beq h k.h) then some k.r else tab l f args h
theorem tab_ok {S : Sys} : ∀ {l : List Known}, (∀ k ∈ l, k.says S) → ∀ f args h r, tab l f args h = some r → EF S f args h = some r
  | [], _, _, _, _, _, h => by cases h
  | k :: l, hl, f, args, h, r, ht => by
    simp only [tab] at ht
    cases hb : Nat.beq f k.f && (AV.beqL args k.args && Hp.beq h k.h) with
    | true =>
      rw [hb] at ht
      injection ht with ht
      subst ht
      simp only [Bool.and_eq_true] at hb
      obtain ⟨h1, h2, h3⟩ := hb
      rw [Nat.eq_of_beq_eq_true h1, AV.eqL_of_beq h2, Hp.eq_of_beq h3]
      exact hl k (by simp)
    | false =>
      rw [hb] at ht
      exact tab_ok (fun k hk => hl k (by simp [hk])) f args h r ht
/-- One call, out of those that it leads to. -/
theorem known {S : Sys} (l : List Known) (hl : ∀ k ∈ l, k.says S) (n : Nat) (k : Known) (hk : kF (tab l) S n k.f k.args k.h = some k.r) : k.says S :=
  (k_ok S (tab_ok hl) n).1 _ _ _ _ hk
end Go.Ab
