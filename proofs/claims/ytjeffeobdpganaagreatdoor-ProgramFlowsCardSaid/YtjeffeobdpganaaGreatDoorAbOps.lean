/- One operation of the abstract machine and the model's. -/
import Derived.Test.YtjeffeobdpganaaGreatDoorAbNew
set_option linter.unusedSimpArgs false
set_option linter.unusedVariables false
namespace Go.Ab
open Go.RowKit (Below)

section
variable {P : Program} {B : Nat} {w : World} {g : Gh} {h : Hp}

theorem chkV0_R {v : Value} {x : AV} (hc : chkV0 v x = true) : R B w g x v := by
  unfold chkV0 at hc
  split at hc
  · simp at hc; subst hc; exact .bool _
  · simp at hc; obtain ⟨h1, h2⟩ := hc; subst h1; subst h2; exact .int _ _
  · rename_i s l
    simp at hc
    subst hc
    have : s = ⟨s.data.toList.toArray⟩ := by simp
    rw [this]
    simpa using R.str (B := B) (w := w) (g := g) s.data.toList
  · exact .nilp
  · exact .vs true [] none 0 0 0 0 (fun _ _ => default) (by simp) (by simp) (by simp) (by simp) (by simp) (by simp)
  · exact .nilm
  · exact .nilf
  · exact .nili
  · cases hc
theorem chkV0_one {v : Value} {x : AV} (hc : chkV0 v x = true) : v.oneCell' = true := by
  unfold chkV0 at hc
  split at hc <;> first | rfl | cases hc
theorem chkVL_RL : ∀ {vs : List Value} {xs : List AV}, chkVL vs xs = true → RL B w g xs vs ∧ ∀ v ∈ vs, v.oneCell' = true
  | [], [], _ => ⟨.nil, by simp⟩
  | v :: vs, x :: xs, hc => by
    simp only [chkVL, Bool.and_eq_true] at hc
    obtain ⟨h1, h2⟩ := chkVL_RL hc.2
    exact ⟨.cons (chkV0_R hc.1) h1, fun u hu => by
      rcases List.mem_cons.1 hu with rfl | hu
      · exact chkV0_one hc.1
      · exact h2 u hu⟩
  | [], _ :: _, hc => by cases hc
  | _ :: _, [], hc => by cases hc
theorem chkV_R {v : Value} {x : AV} (hc : chkV v x = true) : R B w g x v := by
  unfold chkV at hc
  split at hc
  · rename_i cs xs
    obtain ⟨h1, h2⟩ := chkVL_RL (B := B) (w := w) (g := g) hc
    exact .agg xs cs.toList h1.len h1.at_ h2
  · rename_i f a b f'
    simp only [Bool.and_eq_true, beq_iff_eq, Array.isEmpty_iff] at hc
    obtain ⟨⟨rfl, rfl⟩, rfl⟩ := hc
    exact .fn f [] [] rfl (by simp)
  · exact chkV0_R hc

/-- The places of a frame. -/
def ER (B : Nat) (w : World) (g : Gh) (e : Nat → AV) (a : Act) : Prop := ∀ t, R B w g (e t) (a.tmps.getD t undef)
theorem ER.step {e : Nat → AV} {a : Act} {w' : World} {g' : Gh} (hs : Step B w g w' g') (h : ER B w g e a) : ER B w' g' e a := fun t => (h t).step hs
theorem ER.opd {e : Nat → AV} {a : Act} (h : ER B w g e a) {x : Operand} {y : Opd} (hc : chkO x y = true) : R B w g (y.ev e) (a.eval x) := by
  unfold chkO at hc
  split at hc
  · simp at hc; subst hc; exact h _
  · exact chkV_R hc
  · simp at hc; subst hc; exact .fn _ [] [] rfl (by simp)
  · cases hc
theorem ER.opds {e : Nat → AV} {a : Act} (h : ER B w g e a) : ∀ {xs : List Operand} {ys : List Opd}, chkOL xs ys = true → RL B w g (ys.map (Opd.ev e)) (xs.map a.eval)
  | [], [], _ => .nil
  | x :: xs, y :: ys, hc => by
    simp only [chkOL, Bool.and_eq_true] at hc
    exact .cons (h.opd hc.1) (ER.opds h hc.2)
  | [], _ :: _, hc => by cases hc
  | _ :: _, [], hc => by cases hc

/-- What an operation leaves in its place. -/
def nv : Next → Option Value
  | .value v => some v
  | .skip => some undef
  | _ => none
/-- The operation goes well, and its value, the heap and the ghost go along. -/
def Good (P : Program) (B : Nat) (w : World) (g : Gh) (s : Sem Next) (v : AV) (h' : Hp) : Prop :=
  ∃ nx val w' g', s.run P w = .ok nx w' ∧ nv nx = some val ∧ R B w' g' v val ∧ HR B h' g' w' ∧ Step B w g w' g'
theorem Good.still (H : HR B h g w) {s : Sem Next} {v : AV} {val : Value} (hs : s.run P w = .ok (.value val) w) (hr : R B w g v val) : Good P B w g s v h :=
  ⟨_, val, w, g, hs, rfl, hr, H, Step.refl _ _ _⟩

theorem R.cells {x : AV} {v : Value} (h : R B w g x v) (ht : x.isTup = false) : ∃ vs, v.cells = vs.toArray ∧ RL B w g x.cells vs ∧ ∀ u ∈ vs, u.oneCell' = true := by
  cases h
  case agg xs vs hl hr h1 => exact ⟨vs, rfl, ⟨hl, hr⟩, h1⟩
  case tup => simp [AV.isTup] at ht
  case any => simp [AV.isTup] at ht
  all_goals
    refine ⟨[_], rfl, .cons ?_ .nil, fun u hu => by simp at hu; subst hu; rfl⟩
    constructor <;> assumption
theorem undef_R : R B w g undefA undef := .tup [] [] rfl (by simp)

theorem szT_run {t : TypeId} {n : Nat} (hs : szT P t = some n) (w : World) : (sizeOf t).run P w = .ok n w := by
  unfold szT at hs
  obtain ⟨i, hi, rfl⟩ := Option.map_eq_some_iff.1 hs
  simp [sizeOf, typeInfo, hi]
theorem zrT_run {t : TypeId} {v : Value} (hz : zrT P t = some v) (w : World) : (zeroValue t).run P w = .ok v w := by
  unfold zrT at hz
  obtain ⟨i, hi, hv⟩ := Option.bind_eq_some_iff.1 hz
  simp [zeroValue, typeInfo, hi, hv]

/-! ### load, store -/
theorem load_run {t : TypeId} {n : Nat} {ag : Bool} {k o : Nat} {vs : List Value} (hn : szT P t = some n)
    (hag : ((P.underlying t).map fun d => match d with
      | .struct _ | .array _ _ => true
      | _ => false) = some ag) (h1 : ag = true ∨ n = 1) (hl : vs.length = n) (hc : w.rangeAt k o vs) :
    (loadVar t ⟨k, o, none⟩).run P w = .ok (if ag then .agg vs.toArray else vs.getD 0 undef) w := by
  obtain ⟨d, hd, hag⟩ := Option.map_eq_some_iff.1 hag
  cases ag with
  | true =>
    refine (run_loadVar_mid w k o t vs d hc hd ?_ (by rw [hl]; exact hn)).trans (by simp)
    revert hag
    cases d <;> simp [TypeDesc.isRow]
  | false =>
    have hn1 : n = 1 := by simpa using h1
    subst hn1
    obtain ⟨u, rfl⟩ : ∃ u, vs = [u] := List.length_eq_one_iff.1 hl
    have hcell := hc 0 u rfl
    have hia : (isAgg t).run P w = .ok false w := by
      unfold isAgg
      rw [Sem.run_bind, run_underlying hd w]
      revert hag
      cases d <;> simp
    simp [loadVar, hia, load, Sem.run, Nat.add_zero] at hcell ⊢
    simp [hcell]
theorem load_good (H : HR B h g w) {t : TypeId} {n : Nat} {ag : Bool} (hn : szT P t = some n)
    (hag : ((P.underlying t).map fun d => match d with
      | .struct _ | .array _ _ => true
      | _ => false) = some ag) (h1 : ag = true ∨ n = 1) {p : AV} {pv : Value} (hp : R B w g p pv) {v : AV} {cs : List AV} (hl : ldc h n p = some cs) (hm : mkv ag cs = some v) :
    ∃ val, (Instr.loadAt t pv).run P w = .ok val w ∧ R B w g v val := by
  obtain ⟨k, o, vs, rfl, hlen, hc, hr, h3⟩ := ldc_ok H hp hl
  have hrun := load_run (P := P) (w := w) hn hag h1 hlen hc
  refine ⟨_, by simp only [Instr.loadAt, Instr.sureAddr, Sem.run_bind, Sem.run_pure, Result.andThen_ok]; exact hrun, ?_⟩
  cases ag with
  | true =>
    simp [mkv] at hm
    subst hm
    exact .agg cs vs hr.len hr.at_ h3
  | false =>
    simp only [mkv, Bool.false_eq_true, if_false] at hm ⊢
    split at hm
    · rename_i y
      injection hm with hm
      subst hm
      obtain ⟨u, rfl⟩ : ∃ u, vs = [u] := List.length_eq_one_iff.1 (hr.len.symm)
      exact hr.at_ 0 _ _ rfl rfl
    · cases hm
theorem store_good (H : HR B h g w) {t : TypeId} {n : Nat} (hn : szT P t = some n) {p x : AV} {pv xv : Value} (hp : R B w g p pv) (hx : R B w g x xv) (hlen : x.cells.length = n) (ht : x.isTup = false)
    {h' : Hp} (hst : stc h x.cells p = some h') : ∃ w', (Instr.storeAt t pv xv).run P w = .ok () w' ∧ HR B h' g w' ∧ Step B w g w' g := by
  obtain ⟨vs, hvc, hr, h1⟩ := hx.cells ht
  obtain ⟨ad, w', rfl, hrun, H', hs⟩ := stc_ok P H hp hr h1 hst
  refine ⟨w', ?_, H', hs⟩
  simp only [Instr.storeAt, Instr.sureAddr, Sem.run_bind, Sem.run_pure, Result.andThen_ok, storeVar, szT_run hn w]
  rw [hvc]
  rw [if_neg (by simp [← hr.len, hlen])]
  simpa using hrun

/-! ### new variables -/
theorem box_good (H : HR B h g w) {t : TypeId} {x : AV} {xv : Value} (hx : R B w g x xv) (ht : x.isTup = false) :
    ∃ w' g', (newVar t xv).run P w = .ok ⟨w.heap.size, 0, none⟩ w' ∧ R B w' g' (.ptr h.nb 0) (.pointer (some ⟨w.heap.size, 0, none⟩)) ∧ HR B (h.pb (.cells t x.cells)) g' w' ∧ Step B w g w' g' := by
  obtain ⟨vs, hvc, hr, h1⟩ := hx.cells ht
  have hs := step_nb H (.cells vs.toArray t)
  refine ⟨w.alloc (.cells vs.toArray t), g.nb w.heap.size, ?_, ?_, H.new_box _ ⟨vs, heap_alloc_new w _, hr.step hs, h1⟩, hs⟩
  · simp only [newVar, newRow, newObj, hvc]
    rfl
  · refine .ptr _ _ _ ?_
    simp only [Gh.nb, Hp.nb]
    rw [List.getElem?_append_right (by rw [H.lb]; exact Nat.le_refl _)]
    simp [H.lb]
end
end Go.Ab
