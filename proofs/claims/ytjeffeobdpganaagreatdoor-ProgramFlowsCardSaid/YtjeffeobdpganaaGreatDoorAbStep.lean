/- Every operation that is no call. -/
import Derived.Test.YtjeffeobdpganaaGreatDoorAbEq
set_option linter.unusedSimpArgs false
set_option linter.unusedVariables false
namespace Go.Ab
open Go.RowKit (Below)
section
variable {P : Program} {B : Nat} {w : World} {g : Gh} {h : Hp}

theorem R.int_inv {k : IntKind} {n : Int} {v : Value} (h : R B w g (.int k n) v) : v = .int k n := by cases h; rfl
theorem R.str_inv {s : List UInt8} {v : Value} (h : R B w g (.str s) v) : v = .string ⟨s.toArray⟩ := by cases h; rfl
theorem R.bool_inv {b : Bool} {v : Value} (h : R B w g (.bool b) v) : v = .bool b := by cases h; rfl
theorem R.asInt {x : AV} {v : Value} {i : Int} (h : R B w g x v) (hi : asIntA x = some i) : ∃ k, x = .int k i ∧ v = .int k i := by
  cases x <;> simp only [asIntA] at hi <;> try cases hi
  exact ⟨_, rfl, h.int_inv⟩

theorem chkS_parts {fs : Array Field} {e : Nat → AV} {a : Act} (he : ER B w g e a) : ∀ {ps : List (Nat × Operand)} {qs : List (Nat × Nat × Opd)}, chkS P fs ps qs = true →
    qs.all (fun p => (p.2.2.ev e).cells.length == p.2.1 && !(p.2.2.ev e).isTup) = true →
    ps.length = qs.length ∧ ∀ (i : Nat) (p : Nat × Value) (q : Nat × AV), (ps.map fun p => (p.1, a.eval p.2))[i]? = some p → (qs.map fun q => (q.1, q.2.2.ev e))[i]? = some q →
      R B w g q.2 p.2 ∧ q.2.isTup = false ∧ ∃ f, fs[p.1]? = some f ∧ f.offset = q.1 ∧ szT P f.type = some q.2.cells.length
  | [], [], _, _ => ⟨rfl, fun i p q h1 => by simp at h1⟩
  | (i, x) :: ps, (o, s, y) :: qs, hc, ha => by
    simp only [chkS, Bool.and_eq_true] at hc
    obtain ⟨⟨h1, h2⟩, h3⟩ := hc
    simp only [List.all_cons, Bool.and_eq_true, beq_iff_eq, Bool.not_eq_true'] at ha
    obtain ⟨⟨h4, h5⟩, h6⟩ := ha
    obtain ⟨hl, hp⟩ := chkS_parts he h3 (by simpa using h6)
    refine ⟨by simp [hl], fun j p q hj hk => ?_⟩
    cases j with
    | zero =>
      simp at hj hk
      subst hj
      subst hk
      split at h1
      · rename_i f hf
        simp at h1
        exact ⟨he.opd h2, h5, f, hf, h1.1, by rw [h1.2, h4]⟩
      · cases h1
    | succ j => exact hp j p q (by simpa using hj) (by simpa using hk)
  | [], _ :: _, hc, _ => by cases hc
  | _ :: _, [], hc, _ => by simp [chkS] at hc
theorem chkA_parts {sz : Nat} {e : Nat → AV} {a : Act} (he : ER B w g e a) : ∀ {ps : List (Nat × Operand)} {qs : List (Nat × Nat × Opd)}, chkA sz ps qs = true →
    qs.all (fun p => (p.2.2.ev e).cells.length == p.2.1 && !(p.2.2.ev e).isTup) = true →
    ps.length = qs.length ∧ ∀ (i : Nat) (p : Nat × Value) (q : Nat × AV), (ps.map fun p => (p.1, a.eval p.2))[i]? = some p → (qs.map fun q => (q.1, q.2.2.ev e))[i]? = some q →
      R B w g q.2 p.2 ∧ q.2.isTup = false ∧ p.1 * sz = q.1 ∧ sz = q.2.cells.length
  | [], [], _, _ => ⟨rfl, fun i p q h1 => by simp at h1⟩
  | (i, x) :: ps, (o, s, y) :: qs, hc, ha => by
    simp only [chkA, Bool.and_eq_true, beq_iff_eq] at hc
    obtain ⟨⟨⟨h1, h1'⟩, h2⟩, h3⟩ := hc
    simp only [List.all_cons, Bool.and_eq_true, beq_iff_eq, Bool.not_eq_true'] at ha
    obtain ⟨⟨h4, h5⟩, h6⟩ := ha
    obtain ⟨hl, hp⟩ := chkA_parts he h3 (by simpa using h6)
    refine ⟨by simp [hl], fun j p q hj hk => ?_⟩
    cases j with
    | zero =>
      simp at hj hk
      subst hj
      subst hk
      exact ⟨he.opd h2, h5, h1, by rw [h4, h1']⟩
    | succ j => exact hp j p q (by simpa using hj) (by simpa using hk)
  | [], _ :: _, hc, _ => by cases hc
  | _ :: _, [], hc, _ => by simp [chkA] at hc
theorem chkE_parts {e : Nat → AV} {a : Act} (he : ER B w g e a) : ∀ {ps : List (Nat × Operand)} {qs : List (Nat × Opd)}, chkE ps qs = true →
    ps.length = qs.length ∧ ∀ (i : Nat) (p : Nat × Value) (q : Nat × AV), (ps.map fun p => (p.1, a.eval p.2))[i]? = some p → (qs.map fun q => (q.1, q.2.ev e))[i]? = some q →
      R B w g q.2 p.2 ∧ p.1 = q.1
  | [], [], _ => ⟨rfl, fun i p q h1 => by simp at h1⟩
  | (i, x) :: ps, (o, y) :: qs, hc => by
    simp only [chkE, Bool.and_eq_true, beq_iff_eq] at hc
    obtain ⟨⟨h1, h2⟩, h3⟩ := hc
    obtain ⟨hl, hp⟩ := chkE_parts he h3
    refine ⟨by simp [hl], fun j p q hj hk => ?_⟩
    cases j with
    | zero =>
      simp at hj hk
      subst hj
      subst hk
      exact ⟨he.opd h2, h1⟩
    | succ j => exact hp j p q (by simpa using hj) (by simpa using hk)
  | [], _ :: _, hc => by cases hc
  | _ :: _, [], hc => by simp [chkE] at hc

theorem Good.val {s : Sem Value} {v : AV} {h' : Hp} (hg : ∃ val w' g', s.run P w = .ok val w' ∧ R B w' g' v val ∧ HR B h' g' w' ∧ Step B w g w' g') : Good P B w g (do pure (Next.value (← s)) : Sem Next) v h' := by
  obtain ⟨val, w', g', h1, h2, h3, h4⟩ := hg
  exact ⟨.value val, val, w', g', by simp only [Sem.run_bind, h1, Result.andThen_ok, Sem.run_pure], rfl, h2, h3, h4⟩
theorem Good.val0 (H : HR B h g w) {s : Sem Value} {v : AV} (hg : ∃ val, s.run P w = .ok val w ∧ R B w g v val) : Good P B w g (do pure (Next.value (← s)) : Sem Next) v h := by
  obtain ⟨val, h1, h2⟩ := hg
  exact Good.val ⟨val, w, g, h1, h2, H, Step.refl _ _ _⟩
theorem Good.unit {s : Sem Unit} {h' : Hp} (hg : ∃ w' g', s.run P w = .ok () w' ∧ HR B h' g' w' ∧ Step B w g w' g') : Good P B w g (do s; pure Next.skip : Sem Next) undefA h' := by
  obtain ⟨w', g', h1, h3, h4⟩ := hg
  exact ⟨.skip, undef, w', g', by simp only [Sem.run_bind, h1, Result.andThen_ok, Sem.run_pure], rfl, undef_R, h3, h4⟩

theorem eqIn_ptr' (D : Nat) {t e : TypeId} (hu : P.underlying t = some (.pointer e)) (a : Option Addr) : (Op.equalIn (D + 1) t (.pointer a) (.pointer none)).run P w = .ok a.isNone w := by
  cases a <;> simp [Op.equalIn, run_underlying hu]
theorem eqIn_ptr {t e : TypeId} (hu : P.underlying t = some (.pointer e)) (a : Option Addr) : (Op.equal t (.pointer a) (.pointer none)).run P w = .ok a.isNone w := eqIn_ptr' 9999 hu a
theorem eqIn_iface' (D : Nat) {t : TypeId} {m : Array (String × TypeId)} (hu : P.underlying t = some (.interface m)) : (Op.equalIn (D + 1) t .nilIface .nilIface).run P w = .ok true w ∧ ∀ a b, (Op.equalIn (D + 1) t (.iface a b) .nilIface).run P w = .ok false w :=
  ⟨by simp [Op.equalIn, run_underlying hu], fun a b => by simp [Op.equalIn, run_underlying hu]⟩
theorem eqIn_iface {t : TypeId} {m : Array (String × TypeId)} (hu : P.underlying t = some (.interface m)) : (Op.equal t .nilIface .nilIface).run P w = .ok true w ∧ ∀ a b, (Op.equal t (.iface a b) .nilIface).run P w = .ok false w := eqIn_iface' 9999 hu
theorem eqIn_func' (D : Nat) {t : TypeId} {a b : Array TypeId} {c : Bool} (hu : P.underlying t = some (.func a b c)) : (Op.equalIn (D + 1) t .nilFunc .nilFunc).run P w = .ok true w ∧ ∀ a b c, (Op.equalIn (D + 1) t (.func a b c) .nilFunc).run P w = .ok false w :=
  ⟨by simp [Op.equalIn, run_underlying hu], fun a b c => by simp [Op.equalIn, run_underlying hu]⟩
theorem eqIn_func {t : TypeId} {a b : Array TypeId} {c : Bool} (hu : P.underlying t = some (.func a b c)) : (Op.equal t .nilFunc .nilFunc).run P w = .ok true w ∧ ∀ a b c, (Op.equal t (.func a b c) .nilFunc).run P w = .ok false w := eqIn_func' 9999 hu
/-- Comparing with nil: the operation, once the comparison is known. -/
theorem nil_good {neg : Bool} {t : TypeId} {xv y : Value} {xo yo : Operand} {r : Bool} (he : (Op.equal t xv y).run P w = .ok r w)
    (hy : y = .pointer none ∧ (∃ a, xv = .pointer a) ∨ y = .nilIface ∧ (∃ c, yo = .const c) ∧ ((∃ a b, xv = .iface a b) ∨ xv = .nilIface) ∨ y = .nilFunc ∧ ((∃ a b c, xv = .func a b c) ∨ xv = .nilFunc)) :
    (do eqGuard (if neg then .neq else .eql) t xo yo xv y; binOp (if neg then .neq else .eql) t xv y : Sem Value).run P w = .ok (.bool (if neg then !r else r)) w := by
  have hguard : (eqGuard (if neg then .neq else .eql) t xo yo xv y).run P w = .ok () w := by
    rcases hy with ⟨rfl, a, rfl⟩ | ⟨rfl, ⟨c, rfl⟩, ⟨a, b, rfl⟩ | rfl⟩ | ⟨rfl, ⟨a, b, c, rfl⟩ | rfl⟩ <;> cases neg <;> simp [eqGuard]
  have hbin : binOp (if neg then .neq else .eql) t xv y = (if neg then (do pure (.bool (!(← Op.equal t xv y)))) else (do pure (.bool (← Op.equal t xv y)))) := by
    rcases hy with ⟨rfl, a, rfl⟩ | ⟨rfl, _, ⟨a, b, rfl⟩ | rfl⟩ | ⟨rfl, ⟨a, b, c, rfl⟩ | rfl⟩ <;> cases neg <;> rfl
  rw [Sem.run_bind, hguard, Result.andThen_ok, hbin]
  cases neg <;> simp [he]
end
end Go.Ab
