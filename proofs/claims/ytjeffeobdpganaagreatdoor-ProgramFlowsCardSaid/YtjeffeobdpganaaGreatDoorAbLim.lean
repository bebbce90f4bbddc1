/- The abstract machine with as many rounds as are needed. -/
import Derived.Test.YtjeffeobdpganaaGreatDoorAbEv
set_option linter.unusedSimpArgs false
set_option linter.unusedVariables false
namespace Go.Ab

/-- A chain that answers once and then always so. -/
def Up {α : Type} (x : Nat → Option α) : Prop := ∀ n r, x n = some r → x (n + 1) = some r
theorem Up.le {α : Type} {x : Nat → Option α} (h : Up x) {n m : Nat} (hnm : n ≤ m) {r : α} (hr : x n = some r) : x m = some r := by
  induction hnm with
  | refl => exact hr
  | step _ ih => exact h _ _ ih
open Classical in
noncomputable def lim {α : Type} (x : Nat → Option α) : Option α := if h : ∃ n, (x n).isSome then x (Classical.choose h) else none
theorem lim_some {α : Type} {x : Nat → Option α} (h : Up x) {r : α} : lim x = some r ↔ ∃ n, x n = some r := by
  unfold lim
  constructor
  · intro hr
    split at hr
    · exact ⟨_, hr⟩
    · cases hr
  · rintro ⟨n, hn⟩
    have hex : ∃ n, (x n).isSome := ⟨n, by simp [hn]⟩
    rw [dif_pos hex]
    obtain ⟨r', hr'⟩ := Option.isSome_iff_exists.1 (Classical.choose_spec hex)
    have h1 := h.le (Nat.le_max_left n (Classical.choose hex)) hn
    have h2 := h.le (Nat.le_max_right n (Classical.choose hex)) hr'
    rw [hr', ← h2, h1]
theorem lim_eq {α : Type} {x y : Nat → Option α} (hx : Up x) (hy : Up y) (h : ∀ r, (∃ n, x n = some r) ↔ ∃ n, y n = some r) : lim x = lim y := by
  apply Option.ext
  intro r
  rw [lim_some hx, lim_some hy, h]
theorem lim_shift {α : Type} {x y : Nat → Option α} (hx : Up x) (hy : Up y) (h : ∀ n, x (n + 1) = y n) : lim x = lim y :=
  lim_eq hx hy fun r => ⟨fun ⟨n, hn⟩ => ⟨n, by rw [← h]; exact hx _ _ hn⟩, fun ⟨n, hn⟩ => ⟨n + 1, by rw [h]; exact hn⟩⟩
theorem Up.const {α : Type} (r : Option α) : Up fun _ => r := fun _ _ h => h
theorem lim_const {α : Type} (r : Option α) : (lim fun _ => r) = r := by
  apply Option.ext
  intro a
  rw [lim_some (Up.const r)]
  exact ⟨fun ⟨_, h⟩ => h, fun h => ⟨0, h⟩⟩
theorem Up.bind {α β : Type} {x : Nat → Option α} {f : Nat → α → Option β} (hx : Up x) (hf : ∀ a, Up fun n => f n a) : Up fun n => (x n).bind (f n) := by
  intro n r h
  obtain ⟨a, ha, hr⟩ := Option.bind_eq_some_iff.1 h
  exact Option.bind_eq_some_iff.2 ⟨a, hx _ _ ha, hf a _ _ hr⟩
theorem lim_bind {α β : Type} {x : Nat → Option α} {f : Nat → α → Option β} (hx : Up x) (hf : ∀ a, Up fun n => f n a) :
    lim (fun n => (x n).bind (f n)) = (lim x).bind fun a => lim fun n => f n a := by
  apply Option.ext
  intro r
  rw [lim_some (hx.bind hf)]
  constructor
  · rintro ⟨n, h⟩
    obtain ⟨a, ha, hr⟩ := Option.bind_eq_some_iff.1 h
    exact Option.bind_eq_some_iff.2 ⟨a, (lim_some hx).2 ⟨n, ha⟩, (lim_some (hf a)).2 ⟨n, hr⟩⟩
  · intro h
    obtain ⟨a, ha, hr⟩ := Option.bind_eq_some_iff.1 h
    obtain ⟨n, hn⟩ := (lim_some hx).1 ha
    obtain ⟨m, hm⟩ := (lim_some (hf a)).1 hr
    exact ⟨max n m, Option.bind_eq_some_iff.2 ⟨a, hx.le (Nat.le_max_left _ _) hn, (hf a).le (Nat.le_max_right n m) hm⟩⟩

theorem opv_up {c : Nat → CallO} (hc : ∀ f args h, Up fun n => c n f args h) (m : MOp) (E : Opd → AV) (h : Hp) : Up fun n => opv (c n) E h m := by
  cases m
  case call f args =>
    simp only [opv]
    cases E f <;> first | exact hc _ _ _ | exact Up.const _
  all_goals exact Up.const _
theorem Up.map {α β : Type} {x : Nat → Option α} (hx : Up x) (f : α → β) : Up fun n => (x n).map f := by
  intro n r h
  obtain ⟨a, ha, rfl⟩ := Option.map_eq_some_iff.1 h
  exact Option.map_eq_some_iff.2 ⟨a, hx _ _ ha, rfl⟩
theorem stp_up {c : Nat → CallO} (hc : ∀ f args h, Up fun n => c n f args h) (i : MI) (e : Nat → AV) (h : Hp) : Up fun n => stp (c n) i e h := by
  simp only [stp]
  split
  · exact (opv_up hc _ _ _).map _
  · exact Up.const _
theorem evops_up {c : Nat → CallO} (hc : ∀ f args h, Up fun n => c n f args h) (l : List MI) : ∀ e h, Up fun n => evops (c n) l e h := by
  induction l with
  | nil => intro e h; exact Up.const _
  | cons i l ih =>
    intro e h
    simp only [evops]
    refine Up.bind (stp_up hc i e h) fun r => ?_
    cases r.1 <;> first | exact ih _ _ | exact Up.const _

theorem evd_up {c : Nat → CallO} (hc : ∀ f args h, Up fun n => c n f args h) (all l : List MD) : ∀ e h, Up fun n => evd (c n) all l e h := by
  induction l with
  | nil => intro e h; exact Up.const _
  | cons i l ih =>
    intro e h
    simp only [evd]
    refine Up.bind (stp_up hc i.i e h) fun r => ?_
    split
    · split
      · exact ih _ _
      · exact Up.const _
    · exact Up.const _

theorem hand_up {cc : Nat → MC → (Nat → AV) → Hp → Option ARes} {c : Nat → CallO} (hcc : ∀ m e h, Up fun n => cc n m e h) (hc : ∀ f args h, Up fun n => c n f args h) (hm : HFn) (cap : List AV) (rv : AV) (h : Hp) :
    Up fun n => hand (cc n) (c n) hm cap rv h := by
  unfold hand
  split
  · refine Up.bind (evops_up hc _ _ _) fun r => ?_
    split
    · exact Up.bind (hcc _ _ _) fun q => Up.const _
    · exact Up.const _
  · exact Up.const _
theorem dlast_up {cc : Nat → MC → (Nat → AV) → Hp → Option ARes} {c : Nat → CallO} (hcc : ∀ m e h, Up fun n => cc n m e h) (hc : ∀ f args h, Up fun n => c n f args h) (d : DFn) (h : Hp) (e : Nat → AV) (cl : List AV) (r : ARes) :
    Up fun n => dlast (cc n) (c n) d h e cl r := by
  unfold dlast
  split
  · exact Up.bind (hand_up hcc hc _ _ _ _) fun _ => Up.const _
  · exact Up.bind (hand_up hcc hc _ _ _ _) fun _ => Up.const _
  · exact Up.bind (hand_up hcc hc _ _ _ _) fun _ => Up.const _
  · exact Up.const _
theorem dmid_up {cc : Nat → MC → (Nat → AV) → Hp → Option ARes} {c : Nat → CallO} (hcc : ∀ m e h, Up fun n => cc n m e h) (hc : ∀ f args h, Up fun n => c n f args h) (d : DFn) (h : Hp) (r : ARes) :
    Up fun n => dmid (cc n) (c n) d h r := by
  unfold dmid
  split
  · exact Up.bind (hcc _ _ _) fun q => dlast_up hcc hc _ _ _ _ _
  · exact Up.const _
  · exact Up.const _
theorem dbeg_up {cc : Nat → MC → (Nat → AV) → Hp → Option ARes} {c : Nat → CallO} (hcc : ∀ m e h, Up fun n => cc n m e h) (hc : ∀ f args h, Up fun n => c n f args h) (d : DFn) (h : Hp) (r : ARes) :
    Up fun n => dbeg (cc n) (c n) d h r := by
  unfold dbeg
  split
  · exact Up.bind (hcc _ _ _) fun q => dmid_up hcc hc _ _ _
  · exact Up.const _
theorem dbody_up {cc : Nat → MC → (Nat → AV) → Hp → Option ARes} {c : Nat → CallO} (hcc : ∀ m e h, Up fun n => cc n m e h) (hc : ∀ f args h, Up fun n => c n f args h) (d : DFn) (args : List AV) (h : Hp) :
    Up fun n => dbody (cc n) (c n) d args h := by
  unfold dbody
  split
  · exact Up.bind (hcc _ _ _) fun q => dbeg_up hcc hc _ _ _
  · exact Up.const _

theorem ev_up (S : Sys) : ∀ n, (∀ c e h r, evC S n c e h = some r → evC S (n + 1) c e h = some r) ∧ (∀ f a h r, evF S n f a h = some r → evF S (n + 1) f a h = some r) := by
  intro n
  induction n with
  | zero => exact ⟨fun c e h r hr => by simp [evC] at hr, fun f a h r hr => by simp [evF] at hr⟩
  | succ n ih =>
    obtain ⟨ihc, ihf⟩ := ih
    constructor
    · intro c e h r hr
      cases c with
      | skip => simpa [evC] using hr
      | exit id => simpa [evC] using hr
      | ret => simpa [evC] using hr
      | bad => simp [evC] at hr
      | reg ops =>
        rw [evC] at hr ⊢
        have hup := evops_up (c := fun k => if k = 0 then evF S n else evF S (n + 1)) (fun f args h k r hr => by
          dsimp only at hr ⊢
          rw [if_neg (by omega)]
          split at hr
          · exact ihf _ _ _ _ hr
          · exact hr) ops e h 0 r (by simpa using hr)
        simpa using hup
      | dreg l =>
        rw [evC] at hr ⊢
        have hup := evd_up (c := fun k => if k = 0 then evF S n else evF S (n + 1)) (fun f args h k r hr => by
          dsimp only at hr ⊢
          rw [if_neg (by omega)]
          split at hr
          · exact ihf _ _ _ _ hr
          · exact hr) l l e h 0 r (by simpa using hr)
        simpa using hup
      | seq a b =>
        rw [evC] at hr ⊢
        obtain ⟨⟨x, e', h'⟩, hx, hr⟩ := Option.bind_eq_some_iff.1 hr
        refine Option.bind_eq_some_iff.2 ⟨_, ihc _ _ _ _ hx, ?_⟩
        cases x <;> first | exact ihc _ _ _ _ hr | exact hr
      | cond c a b =>
        rw [evC] at hr ⊢
        split at hr
        · split at hr <;> rename_i ht
          · rw [if_pos ht]; exact ihc _ _ _ _ hr
          · rw [if_neg ht]; exact ihc _ _ _ _ hr
        · cases hr
      | block id b =>
        rw [evC] at hr ⊢
        obtain ⟨x, hx, hr⟩ := Option.bind_eq_some_iff.1 hr
        exact Option.bind_eq_some_iff.2 ⟨x, ihc _ _ _ _ hx, hr⟩
      | loop b =>
        rw [evC] at hr ⊢
        obtain ⟨⟨x, e', h'⟩, hx, hr⟩ := Option.bind_eq_some_iff.1 hr
        refine Option.bind_eq_some_iff.2 ⟨_, ihc _ _ _ _ hx, ?_⟩
        cases x <;> first | exact ihc _ _ _ _ hr | exact hr
    · intro f a h r hr
      rw [evF] at hr ⊢
      split at hr
      · exact hr
      · split at hr
        · rename_i d _
          have hup := dbody_up (cc := fun k => if k = 0 then evC S n else evC S (n + 1)) (c := fun k => if k = 0 then evF S n else evF S (n + 1)) (fun m e h k r hr => by
            dsimp only at hr ⊢
            rw [if_neg (by omega)]
            split at hr
            · exact ihc _ _ _ _ hr
            · exact hr) (fun f args h k r hr => by
            dsimp only at hr ⊢
            rw [if_neg (by omega)]
            split at hr
            · exact ihf _ _ _ _ hr
            · exact hr) d a h 0 r (by simpa using hr)
          simpa using hup
        · split at hr
          · cases hr
          · split at hr <;> rename_i hl
            · rw [if_pos hl]
              obtain ⟨x, hx, hr⟩ := Option.bind_eq_some_iff.1 hr
              exact Option.bind_eq_some_iff.2 ⟨x, ihc _ _ _ _ hx, hr⟩
            · cases hr
theorem evC_up (S : Sys) (c : MC) (e : Nat → AV) (h : Hp) : Up fun n => evC S n c e h := fun n r hr => (ev_up S n).1 c e h r hr
theorem evF_up (S : Sys) (f : FuncId) (a : List AV) (h : Hp) : Up fun n => evF S n f a h := fun n r hr => (ev_up S n).2 f a h r hr

noncomputable def EC (S : Sys) (c : MC) (e : Nat → AV) (h : Hp) : Option (AEx × (Nat → AV) × Hp) := lim fun n => evC S n c e h
noncomputable def EF (S : Sys) (f : FuncId) (a : List AV) (h : Hp) : Option (AEnd × Hp) := lim fun n => evF S n f a h

section
variable {S : Sys} {e : Nat → AV} {h : Hp}
theorem EC_skip : EC S .skip e h = some (.norm, e, h) := by
  unfold EC
  rw [lim_shift (evC_up S _ _ _) (Up.const _) (fun n => by rw [evC]), lim_const]
theorem EC_exit {id : Nat} : EC S (.exit id) e h = some (.exit id, e, h) := by
  unfold EC
  rw [lim_shift (evC_up S _ _ _) (Up.const _) (fun n => by rw [evC]), lim_const]
theorem EC_ret : EC S .ret e h = some (.ret, e, h) := by
  unfold EC
  rw [lim_shift (evC_up S _ _ _) (Up.const _) (fun n => by rw [evC]), lim_const]
/-- What stands behind. -/
noncomputable def EK (S : Sys) (b : MC) (r : AEx × (Nat → AV) × Hp) : Option (AEx × (Nat → AV) × Hp) :=
  match r.1 with
  | .norm => EC S b r.2.1 r.2.2
  | x => some (x, r.2.1, r.2.2)
theorem EC_seq {a b : MC} : EC S (.seq a b) e h = (EC S a e h).bind (EK S b) := by
  unfold EC
  have hup : ∀ r : AEx × (Nat → AV) × Hp, Up fun n => (match r.1 with
    | .norm => evC S n b r.2.1 r.2.2
    | x => some (x, r.2.1, r.2.2)) := by
    intro r
    cases r.1 <;> first | exact evC_up S _ _ _ | exact Up.const _
  rw [lim_shift (evC_up S _ _ _) ((evC_up S a e h).bind hup) (fun n => by rw [evC]; rfl)]
  rw [lim_bind (evC_up S a e h) hup]
  congr 1
  funext r
  obtain ⟨x, e', h'⟩ := r
  cases x <;> first | rfl | exact lim_const _
theorem EC_cond {c : Opd} {a b : MC} {t : Bool} (hc : c.ev e = .bool t) : EC S (.cond c a b) e h = if t then EC S a e h else EC S b e h := by
  unfold EC
  cases t
  · exact lim_shift (evC_up S _ _ _) (evC_up S _ _ _) (fun n => by rw [evC]; simp [hc])
  · exact lim_shift (evC_up S _ _ _) (evC_up S _ _ _) (fun n => by rw [evC]; simp [hc])
theorem EC_cond' {c : Opd} {a b : MC} : EC S (.cond c a b) e h = match c.ev e with
    | .bool t => if t = true then EC S a e h else EC S b e h
    | _ => EC S (.cond c a b) e h := by
  split
  · rename_i t ht
    rw [EC_cond ht]
  · rfl
def blk (id : Nat) (r : AEx × (Nat → AV) × Hp) : AEx × (Nat → AV) × Hp :=
  match r.1 with
  | .exit id' => if id' = id then (.norm, r.2) else r
  | _ => r
theorem EC_block {id : Nat} {b : MC} : EC S (.block id b) e h = (EC S b e h).map (blk id) := by
  unfold EC
  have hup : ∀ r : AEx × (Nat → AV) × Hp, Up fun _ => some (blk id r) := fun r => Up.const _
  rw [lim_shift (evC_up S _ _ _) ((evC_up S b e h).bind hup) (fun n => by
    rw [evC]
    cases evC S n b e h with
    | none => rfl
    | some r =>
      obtain ⟨x, e', h'⟩ := r
      cases x <;> simp [blk] <;> split <;> rfl)]
  rw [lim_bind (evC_up S b e h) hup]
  cases lim fun n => evC S n b e h with
  | none => rfl
  | some r => exact lim_const _
theorem EC_loop {b : MC} : EC S (.loop b) e h = (EC S b e h).bind (EK S (.loop b)) := by
  unfold EC
  have hup : ∀ r : AEx × (Nat → AV) × Hp, Up fun n => (match r.1 with
    | .norm => evC S n (.loop b) r.2.1 r.2.2
    | x => some (x, r.2.1, r.2.2)) := by
    intro r
    cases r.1 <;> first | exact evC_up S _ _ _ | exact Up.const _
  rw [lim_shift (evC_up S _ _ _) ((evC_up S b e h).bind hup) (fun n => by rw [evC]; rfl)]
  rw [lim_bind (evC_up S b e h) hup]
  congr 1
  funext r
  obtain ⟨x, e', h'⟩ := r
  cases x <;> first | rfl | exact lim_const _
theorem opv_lim (m : MOp) (E : Opd → AV) (h : Hp) : (lim fun n => opv (evF S n) E h m) = opv (EF S) E h m := by
  cases m
  case call f args =>
    simp only [opv]
    cases E f <;> first | rfl | exact lim_const _
  all_goals exact lim_const _
theorem lim_map {α β : Type} {x : Nat → Option α} (hx : Up x) (f : α → β) : (lim fun n => (x n).map f) = (lim x).map f := by
  have := lim_bind hx (f := fun _ a => some (f a)) (fun a => Up.const _)
  simp only [lim_const] at this
  simpa [Option.map_eq_bind, Function.comp_def] using this
theorem stp_lim (i : MI) (e : Nat → AV) (h : Hp) : (lim fun n => stp (evF S n) i e h) = stp (EF S) i e h := by
  simp only [stp]
  split
  · rw [lim_map (opv_up (evF_up S) _ _ _), opv_lim]
  · exact lim_const _
theorem EC_reg {ops : List MI} : EC S (.reg ops) e h = evops (EF S) ops e h := by
  have key : ∀ (l : List MI) (e : Nat → AV) (h : Hp), (lim fun n => evops (evF S n) l e h) = evops (EF S) l e h := by
    intro l
    induction l with
    | nil => intro e h; exact lim_const _
    | cons i l ih =>
      intro e h
      simp only [evops]
      have hup : ∀ r : ARes, Up fun n => (match r.1 with
          | .norm => evops (evF S n) l r.2.1 r.2.2
          | _ => some r) := by
        rintro ⟨x, e', h'⟩
        cases x <;> first | exact evops_up (evF_up S) _ _ _ | exact Up.const _
      refine (lim_bind (stp_up (evF_up S) i e h) hup).trans ?_
      rw [stp_lim]
      congr 1
      funext r
      obtain ⟨x, e', h'⟩ := r
      cases x <;> first | exact ih _ _ | exact lim_const _
  rw [EC, lim_shift (evC_up S _ _ _) (evops_up (evF_up S) ops e h) (fun n => by rw [evC]), key]
theorem EC_dreg {ops : List MD} : EC S (.dreg ops) e h = evd (EF S) ops ops e h := by
  have key : ∀ (l : List MD) (e : Nat → AV) (h : Hp), (lim fun n => evd (evF S n) ops l e h) = evd (EF S) ops l e h := by
    intro l
    induction l with
    | nil => intro e h; exact lim_const _
    | cons i l ih =>
      intro e h
      simp only [evd]
      have hup : ∀ r : ARes, Up fun n => (match r.1 with
          | .norm => if sames ops r.2.1 r.2.2 i.rc = true then evd (evF S n) ops l r.2.1 r.2.2 else none
          | _ => some r) := by
        rintro ⟨x, e', h'⟩
        cases x <;> first | exact Up.const _ | skip
        dsimp only
        split
        · exact evd_up (evF_up S) _ _ _ _
        · exact Up.const _
      refine (lim_bind (stp_up (evF_up S) i.i e h) hup).trans ?_
      rw [stp_lim]
      congr 1
      funext r
      obtain ⟨x, e', h'⟩ := r
      cases x <;> first | exact lim_const _ | skip
      dsimp only
      split
      · exact ih _ _
      · exact lim_const _
  rw [EC, lim_shift (evC_up S _ _ _) (evd_up (evF_up S) ops ops e h) (fun n => by rw [evC]), key]
/-- A function's end. -/
def fin (m : MFn) (h : Hp) (r : AEx × (Nat → AV) × Hp) : Option (AEnd × Hp) :=
  match r.1 with
  | .norm | .ret => (resV r.2.1 r.2.2 m.res).bind fun vs => gc m.gc h.nb h.na (.ret (one1 vs)) r.2.2
  | .pan v => gc m.gc h.nb h.na (.pan v) r.2.2
  | .exit _ => none
theorem EF_fn {f : FuncId} {args : List AV} {m : MFn} (hp : S.prim f = none) (hdf : S.dfn f = none) (hf : S.fn f = some m) (hl : args.length = m.np) :
    EF S f args h = (EC S m.body (env0 args) h).bind (fin m h) := by
  unfold EF EC
  have hup : ∀ r : AEx × (Nat → AV) × Hp, Up fun _ => fin m h r := fun r => Up.const _
  rw [lim_shift (evF_up S _ _ _) ((evC_up S m.body (env0 args) h).bind hup) (fun n => by
    rw [evF, hp]
    simp only [hdf, hf, hl, if_true]
    congr 1)]
  rw [lim_bind (evC_up S m.body (env0 args) h) hup]
  congr 1
  funext r
  exact lim_const _
theorem EF_prim {f : FuncId} {args : List AV} {p : List AV → Hp → Option (AEnd × Hp)} (hp : S.prim f = some p) : EF S f args h = p args h := by
  unfold EF
  rw [lim_shift (evF_up S _ _ _) (Up.const _) (fun n => by rw [evF, hp]), lim_const]
theorem evops_lim : ∀ (l : List MI) (e : Nat → AV) (h : Hp), (lim fun n => evops (evF S n) l e h) = evops (EF S) l e h := by
  intro l
  induction l with
  | nil => intro e h; exact lim_const _
  | cons i l ih =>
    intro e h
    simp only [evops]
    have hup : ∀ r : ARes, Up fun n => (match r.1 with
        | .norm => evops (evF S n) l r.2.1 r.2.2
        | _ => some r) := by
      rintro ⟨x, e', h'⟩
      cases x <;> first | exact evops_up (evF_up S) _ _ _ | exact Up.const _
    refine (lim_bind (stp_up (evF_up S) i e h) hup).trans ?_
    rw [stp_lim]
    congr 1
    funext r
    obtain ⟨x, e', h'⟩ := r
    cases x <;> first | exact ih _ _ | exact lim_const _
theorem hand_lim (hm : HFn) (cap : List AV) (rv : AV) (h : Hp) : (lim fun n => hand (evC S n) (evF S n) hm cap rv h) = hand (EC S) (EF S) hm cap rv h := by
  unfold hand
  split
  · refine (lim_bind (evops_up (evF_up S) _ _ _) (f := fun n r => match r.1 with
      | .norm => (evC S n hm.rest r.2.1 r.2.2).bind fun q => match q.1 with
        | .norm => some q.2.2
        | .ret => some q.2.2
        | _ => none
      | _ => none) fun r => ?_).trans ?_
    · split
      · exact Up.bind (evC_up S _ _ _) fun q => Up.const _
      · exact Up.const _
    · rw [evops_lim]
      congr 1
      funext r
      obtain ⟨x, e', h'⟩ := r
      cases x <;> first | exact lim_const _ | skip
      refine (lim_bind (evC_up S hm.rest e' h') (f := fun _ q => match q.1 with
        | .norm => some q.2.2
        | .ret => some q.2.2
        | _ => none) fun q => Up.const _).trans ?_
      simp only [lim_const]
      rfl
  · exact lim_const _
theorem dlast_lim (d : DFn) (h : Hp) (e : Nat → AV) (cl : List AV) (r : ARes) : (lim fun n => dlast (evC S n) (evF S n) d h e cl r) = dlast (EC S) (EF S) d h e cl r := by
  obtain ⟨x, e', h'⟩ := r
  cases x <;> simp only [dlast] <;> first
    | exact lim_const _
    | (refine (lim_bind (hand_up (evC_up S) (evF_up S) _ _ _ _) (f := fun _ h4 => dfin d h _ h4) fun _ => Up.const _).trans ?_
       rw [hand_lim]
       simp only [lim_const])
theorem dmid_lim (d : DFn) (h : Hp) (r : ARes) : (lim fun n => dmid (evC S n) (evF S n) d h r) = dmid (EC S) (EF S) d h r := by
  obtain ⟨x, e', h'⟩ := r
  cases x <;> simp only [dmid] <;> first | exact lim_const _ | skip
  refine (lim_bind (evC_up S _ _ _) (f := fun n r => dlast (evC S n) (evF S n) d h _ _ r) fun q => dlast_up (evC_up S) (evF_up S) _ _ _ _ _).trans ?_
  simp only [dlast_lim]
  rfl
theorem dbeg_lim (d : DFn) (h : Hp) (r : ARes) : (lim fun n => dbeg (evC S n) (evF S n) d h r) = dbeg (EC S) (EF S) d h r := by
  obtain ⟨x, e', h'⟩ := r
  cases x <;> simp only [dbeg] <;> first | exact lim_const _ | skip
  refine (lim_bind (evC_up S _ _ _) (f := fun n r => dmid (evC S n) (evF S n) d h r) fun q => dmid_up (evC_up S) (evF_up S) _ _ _).trans ?_
  simp only [dmid_lim]
  rfl
theorem EF_dfn {f : FuncId} {args : List AV} {d : DFn} (hp : S.prim f = none) (hd : S.dfn f = some d) : EF S f args h = dbody (EC S) (EF S) d args h := by
  unfold EF
  rw [lim_shift (evF_up S _ _ _) (dbody_up (evC_up S) (evF_up S) d args h) (fun n => by rw [evF, hp]; simp only [hd])]
  unfold dbody
  split
  · refine (lim_bind (evC_up S _ _ _) (f := fun n r => dbeg (evC S n) (evF S n) d h r) fun q => dbeg_up (evC_up S) (evF_up S) _ _ _).trans ?_
    simp only [dbeg_lim]
    rfl
  · exact lim_const _
end
end Go.Ab
