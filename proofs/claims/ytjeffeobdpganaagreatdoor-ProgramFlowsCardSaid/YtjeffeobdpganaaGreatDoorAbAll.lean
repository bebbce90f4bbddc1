/- Every operation that is no call: the abstract machine and the model go along. -/
import Derived.Test.YtjeffeobdpganaaGreatDoorAbMore
set_option linter.unusedSimpArgs false
set_option linter.unusedVariables false
namespace Go.Ab
open Go.RowKit (Below)
section
variable {P : Program} {B : Nat} {w : World} {g : Gh} {h : Hp}

theorem ite_opt {α : Type} {c : Prop} [Decidable c] {x : Option α} {b : α} (h : (if c then x else none) = some b) : c ∧ x = some b := by
  by_cases hc : c
  · rw [if_pos hc] at h; exact ⟨hc, h⟩
  · rw [if_neg hc] at h; cases h
theorem intT_some {t : TypeId} (h : intT P t = true) : ∃ k, P.underlying t = some (.int k) := by
  unfold intT at h
  split at h
  · exact ⟨_, by assumption⟩
  · cases h
theorem strT_some {t : TypeId} (h : strT P t = true) : P.underlying t = some .string := by
  unfold strT at h
  split at h
  · assumption
  · cases h
theorem kindOf_chk {kt : TypeId} {st : Bool} (h : (if st = true then strT P kt else intT P kt) = true) : kindOf P kt st := by
  unfold kindOf
  cases st
  · simpa using intT_some (by simpa using h)
  · simpa using strT_some (by simpa using h)
theorem zchk {v : Value} {z : List AV} (h : (match v with
              | .agg _ => chkV v (.agg z)
              | _ => (match z with
                  | [x] => chkV0 v x
                  | _ => false)) = true) : ∃ zs : List Value, v.cells = zs.toArray ∧ RL B w g z zs ∧ ∀ u ∈ zs, u.oneCell' = true := by
  split at h
  · rename_i cs
    obtain ⟨vs, h1, h2, h3⟩ := (chkV_R (B := B) (w := w) (g := g) h).cells rfl
    exact ⟨vs, h1, h2, h3⟩
  · split at h
    · have h1 := chkV0_one h
      refine ⟨[v], ?_, .cons (chkV0_R h) .nil, fun u hu => by simp at hu; subst hu; exact h1⟩
      cases v <;> first | rfl | cases h1
    · cases h

theorem tas_run {t xt : TypeId} {D : TypeDesc} (hD : P.underlying t = some D) (hn : ∀ ms, D = .interface ms → False) :
    (∀ zv, zrT P t = some zv → (Instr.typeAssert .nilIface xt t true).run P w = .ok (.tuple #[zv, .bool false]) w) ∧
    (∀ v, (Instr.typeAssert (.iface t v) xt t true).run P w = .ok (.tuple #[v, .bool true]) w) ∧
    ∀ t' v zv, zrT P t = some zv → ¬ t' = t → (Instr.typeAssert (.iface t' v) xt t true).run P w = .ok (.tuple #[zv, .bool false]) w := by
  refine ⟨fun zv hz => ?_, fun v => ?_, fun t' v zv hz ht => ?_⟩
  · cases D <;> first
      | exact absurd rfl (hn _)
      | simp [Instr.typeAssert, run_underlying hD, zrT_run hz w]
  · cases D <;> first
      | exact absurd rfl (hn _)
      | simp [Instr.typeAssert, run_underlying hD]
  · cases D <;> first
      | exact absurd rfl (hn _)
      | simp [Instr.typeAssert, run_underlying hD, zrT_run hz w, ht]

theorem op_good {o : Oper} {m : MOp} (hc : chkM P o.op m = true) (H : HR B h g w) {e : Nat → AV} {a : Act} (he : ER B w g e a) {v : AV} {h' : Hp} (hev : evop (Opd.ev e) h m = some (v, h')) :
    Good P B w g (execOp a.eval o) v h' := by
  obtain ⟨dst, op, type, pos, after, guard⟩ := o
  dsimp only at hc
  unfold chkM at hc
  split at hc
  -- move
  · simp only [evop] at hev
    injection hev with hev; injection hev with h1 h2; subst h1; subst h2
    exact Good.still H rfl (he.opd hc)
  -- assign
  · simp only [evop] at hev
    injection hev with hev; injection hev with h1 h2; subst h1; subst h2
    exact Good.still H rfl (he.opd hc)
  -- pick
  · rename_i c x y c' x' y'
    simp only [Bool.and_eq_true] at hc
    obtain ⟨⟨hc1, hc2⟩, hc3⟩ := hc
    have r1 := he.opd hc1
    simp only [evop] at hev
    split at hev
    · rename_i t ht
      injection hev with hev; injection hev with h1 h2; subst h1; subst h2
      rw [ht] at r1
      refine Good.still (val := if t then a.eval x else a.eval y) H ?_ ?_
      · simp [execOp, r1.bool_inv, asBool]
      · cases t
        · simpa using he.opd hc3
        · simpa using he.opd hc2
    · cases hev
  -- alloc
  · rename_i t t' n z
    simp only [Bool.and_eq_true, beq_iff_eq] at hc
    obtain ⟨rfl, hz⟩ := hc
    split at hz
    · rename_i zv hzv
      simp only [evop, Opd.ev] at hev
      obtain ⟨hcond, hev⟩ := ite_opt hev
      injection hev with hev; injection hev with h1 h2; subst h1; subst h2
      obtain ⟨w', g', hrun, hR, hH, hS⟩ := box_good (P := P) H (t := t) (chkV_R (B := B) (w := w) (g := g) hz) hcond.2
      refine Good.val ⟨_, w', g', ?_, hR, hH, hS⟩
      simp only [Instr.alloc, Sem.run_bind, zrT_run hzv w, Result.andThen_ok, hrun, Sem.run_pure]
    · cases hz
  -- box
  · rename_i t x t' n y
    simp only [Bool.and_eq_true, beq_iff_eq] at hc
    obtain ⟨rfl, hx⟩ := hc
    simp only [evop] at hev
    obtain ⟨hcond, hev⟩ := ite_opt hev
    injection hev with hev; injection hev with h1 h2; subst h1; subst h2
    obtain ⟨w', g', hrun, hR, hH, hS⟩ := box_good (P := P) H (t := t) (he.opd hx) hcond.2
    refine Good.val ⟨_, w', g', ?_, hR, hH, hS⟩
    simp only [Instr.box, Sem.run_bind, Result.andThen_ok, hrun, Sem.run_pure]
  -- build
  · rename_i t ps z ps'
    simp only [Bool.and_eq_true] at hc
    obtain ⟨hz, hc⟩ := hc
    split at hz
    · rename_i zv hzv
      simp only [evop] at hev
      obtain ⟨hall, hev⟩ := ite_opt hev
      · obtain ⟨cs, hcs, hev⟩ := Option.map_eq_some_iff.1 hev
        injection hev with h1 h2; subst h1; subst h2
        have hargs : (ps.map fun x => (x.1, a.eval x.2)) = (ps.toList.map fun p => (p.1, a.eval p.2)).toArray := by
          apply Array.ext'; simp
        refine Good.val0 H ?_
        show ∃ val, (Instr.build t (ps.map fun x => (x.1, a.eval x.2))).run P w = .ok val w ∧ _
        rw [hargs]
        split at hc
        · rename_i fs hu
          simp only [Bool.and_eq_true] at hc
          obtain ⟨hfs, hc⟩ := hc
          obtain ⟨hl, hp⟩ := chkS_parts he hc hall
          refine build_good (P := P) hzv hz hcs (by simp [hl]) (fun i p q h1 h2 => ?_) (.inl ⟨fs, hu, hfs⟩)
          obtain ⟨a1, a2, f, a3, a4, a5⟩ := hp i p q h1 h2
          exact ⟨a1, a2, .inl ⟨fs, f, hu, hfs, a3, a4, a5⟩⟩
        · rename_i n e' hu
          split at hc
          · rename_i s hs
            obtain ⟨hl, hp⟩ := chkA_parts he hc hall
            refine build_good (P := P) hzv hz hcs (by simp [hl]) (fun i p q h1 h2 => ?_) (.inr ⟨n, e', s, hu, hs⟩)
            obtain ⟨a1, a2, a3, a4⟩ := hp i p q h1 h2
            exact ⟨a1, a2, .inr ⟨n, e', s, hu, hs, a3, a4⟩⟩
          · cases hc
        · cases hc
    · cases hz
  -- buildSlice
  · rename_i t n ps z n' ps'
    simp only [Bool.and_eq_true, beq_iff_eq] at hc
    obtain ⟨⟨rfl, hc⟩, hps⟩ := hc
    split at hc
    · rename_i e' hu
      split at hc
      · rename_i s zv hs hzv
        simp only [Bool.and_eq_true, beq_iff_eq, decide_eq_true_eq] at hc
        obtain ⟨⟨⟨⟨rfl, hpos⟩, hsm⟩, hn⟩, hz⟩ := hc
        obtain ⟨zs, hzc, hzr, hz1⟩ := zchk (B := B) (w := w) (g := g) hz
        simp only [evop] at hev
        obtain ⟨es, hes, hev⟩ := Option.map_eq_some_iff.1 hev
        injection hev with h1 h2; subst h1; subst h2
        obtain ⟨hl, hp⟩ := chkE_parts he hps
        have hargs : (ps.map fun x => (x.1, a.eval x.2)) = (ps.toList.map fun p => (p.1, a.eval p.2)).toArray := by
          apply Array.ext'; simp
        refine Good.val ?_
        show ∃ val w' g', (Instr.buildSlice t n (ps.map fun x => (x.1, a.eval x.2))).run P w = .ok val w' ∧ _
        rw [hargs]
        exact bslice_good H hu hs hzv hzc hzr hz1 hpos hn hsm hes (by simp [hl]) (fun i p q h1 h2 => hp i p q h1 h2)
      · cases hc
    · cases hc
  -- load
  · rename_i t x n ag y
    simp only [Bool.and_eq_true, beq_iff_eq, Bool.or_eq_true] at hc
    obtain ⟨⟨⟨hs, hag⟩, h1⟩, hx⟩ := hc
    simp only [evop] at hev
    obtain ⟨cs, hcs, hev⟩ := Option.bind_eq_some_iff.1 hev
    obtain ⟨v', hv', hev⟩ := Option.map_eq_some_iff.1 hev
    injection hev with h2 h3; subst h2; subst h3
    exact Good.val0 H (load_good H hs hag h1 (he.opd hx) hcs hv')
  -- store
  · rename_i t x v n y u
    simp only [Bool.and_eq_true, beq_iff_eq] at hc
    obtain ⟨⟨hs, hx⟩, hv⟩ := hc
    simp only [evop] at hev
    obtain ⟨hcond, hev⟩ := ite_opt hev
    · obtain ⟨h2, hst, hev⟩ := Option.map_eq_some_iff.1 hev
      injection hev with h3 h4; subst h3; subst h4
      obtain ⟨w', hrun, hH, hS⟩ := store_good H hs (he.opd hx) (he.opd hv) hcond.1 hcond.2 hst
      exact Good.unit ⟨w', g, hrun, hH, hS⟩
  -- nilCheck
  · rename_i x y
    have r := he.opd hc
    simp only [evop] at hev
    generalize y.ev e = ey at hev r
    generalize hxv : a.eval x = xv at r
    split at hev
    · cases hev
    · cases hev
    · cases hev
    · cases hev
    · rename_i hn1 hn2 hn3 hn4
      injection hev with hev; injection hev with h1 h2; subst h1; subst h2
      refine Good.still (val := xv) H ?_ r
      cases r <;> first
        | exact absurd rfl hn1
        | exact absurd rfl hn2
        | exact absurd rfl hn3
        | exact absurd rfl hn4
        | simp [execOp, hxv]
  -- int
  · rename_i op t x y ty op' x' y'
    simp only [Bool.and_eq_true, beq_iff_eq] at hc
    obtain ⟨⟨rfl, hx⟩, hy⟩ := hc
    have r1 := he.opd hx
    have r2 := he.opd hy
    simp only [evop] at hev
    split at hev
    · rename_i k i k' j h1 h2
      obtain ⟨hk, hev⟩ := ite_opt hev
      obtain ⟨v', hv', hev⟩ := Option.map_eq_some_iff.1 hev
      injection hev with h3 h4; subst h3; subst h4
      rw [h1] at r1
      rw [h2] at r2
      obtain ⟨val, hrun, hR⟩ := int_good (P := P) (B := B) (w := w) (g := g) t hk hv'
      refine Good.val0 H ⟨val, ?_, hR⟩
      rw [r1.int_inv, r2.int_inv]
      have hg : (eqGuard op t x y (.int k i) (.int k' j)).run P w = .ok () w := by
        cases op <;> simp [eqGuard]
      rw [Sem.run_bind, hg, Result.andThen_ok, hrun]
    · cases hev
  -- strb
  · rename_i op t x y ty op' x' y'
    simp only [Bool.and_eq_true, beq_iff_eq] at hc
    obtain ⟨⟨rfl, hx⟩, hy⟩ := hc
    have r1 := he.opd hx
    have r2 := he.opd hy
    simp only [evop] at hev
    split at hev
    · rename_i k i h1 h2
      obtain ⟨v', hv', hev⟩ := Option.map_eq_some_iff.1 hev
      injection hev with h3 h4; subst h3; subst h4
      rw [h1] at r1
      rw [h2] at r2
      obtain ⟨val, hrun, hR⟩ := str_good (P := P) (B := B) (w := w) (g := g) t hv'
      refine Good.val0 H ⟨val, ?_, hR⟩
      rw [r1.str_inv, r2.str_inv]
      have hg : (eqGuard op t x y (.string ⟨k.toArray⟩) (.string ⟨i.toArray⟩)).run P w = .ok () w := by
        cases op <;> simp [eqGuard]
      rw [Sem.run_bind, hg, Result.andThen_ok, hrun]
    · cases hev
  -- boolb
  · rename_i op t x y ty neg x' y'
    simp only [Bool.and_eq_true, beq_iff_eq] at hc
    obtain ⟨⟨⟨hu, rfl⟩, hx⟩, hy⟩ := hc
    have hu' : P.underlying t = some .bool := by
      split at hu
      · assumption
      · cases hu
    have r1 := he.opd hx
    have r2 := he.opd hy
    simp only [evop] at hev
    split at hev
    · rename_i i j h1 h2
      injection hev with hev; injection hev with h3 h4; subst h3; subst h4
      rw [h1] at r1
      rw [h2] at r2
      refine Good.val0 H ⟨_, ?_, .bool _⟩
      rw [r1.bool_inv, r2.bool_inv]
      have he1 : (Op.equal t (.bool i) (.bool j)).run P w = .ok (i == j) w := run_equalIn_bool' w 9999 t i j hu'
      cases neg
      · have hg : (eqGuard .eql t x y (.bool i) (.bool j)).run P w = .ok () w := by simp [eqGuard]
        simp only [Bool.false_eq_true, if_false, Sem.run_bind, hg, Result.andThen_ok]
        show (do pure (Value.bool (← Op.equal t (.bool i) (.bool j))) : Sem Value).run P w = _
        rw [Sem.run_bind, he1, Result.andThen_ok, Sem.run_pure]
      · have hg : (eqGuard .neq t x y (.bool i) (.bool j)).run P w = .ok () w := by simp [eqGuard]
        simp only [if_true, Sem.run_bind, hg, Result.andThen_ok]
        show (do pure (Value.bool (!(← Op.equal t (.bool i) (.bool j)))) : Sem Value).run P w = _
        rw [Sem.run_bind, he1, Result.andThen_ok, Sem.run_pure]
    · cases hev
  -- aggb
  · rename_i op t x y ty neg ks x' y'
    simp only [Bool.and_eq_true, beq_iff_eq, Bool.not_eq_true'] at hc
    obtain ⟨⟨⟨⟨⟨hrow, hk⟩, rfl⟩, hgd⟩, hx⟩, hy⟩ := hc
    have r1 := he.opd hx
    have r2 := he.opd hy
    simp only [evop] at hev
    split at hev
    · rename_i i j h1 h2
      obtain ⟨r, hr, hev⟩ := Option.map_eq_some_iff.1 hev
      injection hev with h3 h4; subst h3; subst h4
      rw [h1] at r1
      rw [h2] at r2
      generalize hxv : a.eval x = xv at r1
      generalize hyv : a.eval y = yv at r2
      cases r1 with
      | agg _ us hl1 hr1 _ =>
      cases r2 with
      | agg _ vs hl2 hr2 _ =>
      have hrowT : rowT P t = true := by
        unfold rowT
        split at hrow <;> simp_all
      have he1 : (Op.equal t (.agg us.toArray) (.agg vs.toArray)).run P w = .ok r w := by
        have := equal_flat (P := P) (B := B) (w := w) (g := g) 8 t ks hk 10000 (by omega) us vs i j r ⟨hl1, hr1⟩ ⟨hl2, hr2⟩ hr
        simp only [mkV, hrowT, if_true] at this
        exact this
      refine Good.val0 H ⟨_, ?_, .bool _⟩
      rw [hxv, hyv]
      cases neg
      · have hg := run_eqGuard_agg (P := P) w .eql t x y us.toArray vs.toArray hgd
        simp only [Bool.false_eq_true, if_false, Sem.run_bind, hg, Result.andThen_ok]
        show (do pure (Value.bool (← Op.equal t _ _)) : Sem Value).run P w = _
        rw [Sem.run_bind, he1, Result.andThen_ok, Sem.run_pure]
      · have hg := run_eqGuard_agg (P := P) w .neq t x y us.toArray vs.toArray hgd
        simp only [if_true, Sem.run_bind, hg, Result.andThen_ok]
        show (do pure (Value.bool (!(← Op.equal t _ _))) : Sem Value).run P w = _
        rw [Sem.run_bind, he1, Result.andThen_ok, Sem.run_pure]
    · cases hev
  -- nilb
  · rename_i op t x y ty kd neg x'
    simp only [Bool.and_eq_true, beq_iff_eq] at hc
    obtain ⟨⟨rfl, hx⟩, ht⟩ := hc
    have r1 := he.opd hx
    simp only [evop] at hev
    generalize x'.ev e = ex at hev r1
    generalize hxv : a.eval x = xv at r1
    have fin : ∀ {yv : Value} {yo : Operand} {r : Bool}, a.eval yo = yv → y = yo → (Op.equal t xv yv).run P w = .ok r w →
        (yv = .pointer none ∧ (∃ a, xv = .pointer a) ∨ yv = .nilIface ∧ (∃ c, yo = .const c) ∧ ((∃ a b, xv = .iface a b) ∨ xv = .nilIface) ∨ yv = .nilFunc ∧ ((∃ a b c, xv = .func a b c) ∨ xv = .nilFunc)) →
        v = .bool (if neg then !r else r) → h' = h → Good P B w g (execOp a.eval ⟨dst, .binOp (if neg = true then .neq else .eql) t x y ty, type, pos, after, guard⟩) v h' := by
      intro yv yo r h1 h2 h3 h4 h5 h6
      subst h2
      subst h5
      subst h6
      refine Good.val0 H ⟨_, ?_, .bool _⟩
      rw [hxv, h1]
      exact nil_good h3 h4
    obtain ⟨r, hr, hev⟩ := Option.map_eq_some_iff.1 hev
    injection hev with h3 h4
    split at ht
    · rename_i e' hu
      have hkd : kd = 0 := by simpa using ht
      subst hkd
      cases r1 <;> simp only [isNilA] at hr <;> try cases hr
      · exact fin rfl rfl (eqIn_ptr hu none) (.inl ⟨rfl, _, rfl⟩) h3.symm h4.symm
      · exact fin rfl rfl (eqIn_ptr hu _) (.inl ⟨rfl, _, rfl⟩) h3.symm h4.symm
      · exact fin rfl rfl (eqIn_ptr hu _) (.inl ⟨rfl, _, rfl⟩) h3.symm h4.symm
      · exact fin rfl rfl (eqIn_ptr hu _) (.inl ⟨rfl, _, rfl⟩) h3.symm h4.symm
    · rename_i e' hu
      have hkd : kd = 1 := by simpa using ht
      subst hkd
      cases r1 <;> simp only [isNilA] at hr <;> try cases hr
      · exact fin rfl rfl (eqIn_iface hu).1 (.inr (.inl ⟨rfl, ⟨_, rfl⟩, .inr rfl⟩)) h3.symm h4.symm
      · exact fin rfl rfl ((eqIn_iface hu).2 _ _) (.inr (.inl ⟨rfl, ⟨_, rfl⟩, .inl ⟨_, _, rfl⟩⟩)) h3.symm h4.symm
    · rename_i e' hu
      have hkd : kd = 2 := by simpa using ht
      subst hkd
      cases r1 <;> simp only [isNilA] at hr <;> try cases hr
      · exact fin rfl rfl (eqIn_func hu).1 (.inr (.inr ⟨rfl, .inr rfl⟩)) h3.symm h4.symm
      · exact fin rfl rfl ((eqIn_func hu).2 _ _ _) (.inr (.inr ⟨rfl, .inl ⟨_, _, _, rfl⟩⟩)) h3.symm h4.symm
    · cases ht
  -- not
  · rename_i t x y
    have r1 := he.opd hc
    simp only [evop] at hev
    split at hev
    · rename_i b hb
      injection hev with hev; injection hev with h1 h2; subst h1; subst h2
      rw [hb] at r1
      refine Good.val0 H ⟨_, ?_, .bool _⟩
      rw [r1.bool_inv]
      simp [Op.unary]
    · cases hev
  -- neg
  · rename_i t x y
    have r1 := he.opd hc
    simp only [evop] at hev
    split at hev
    · rename_i k b hb
      injection hev with hev; injection hev with h1 h2; subst h1; subst h2
      rw [hb] at r1
      refine Good.val0 H ⟨_, ?_, .int _ _⟩
      rw [r1.int_inv]
      simp [Op.unary, Op.intArith]
    · cases hev
  -- xor
  · rename_i t x y
    have r1 := he.opd hc
    simp only [evop] at hev
    split at hev
    · rename_i k b hb
      injection hev with hev; injection hev with h1 h2; subst h1; subst h2
      rw [hb] at r1
      refine Good.val0 H ⟨_, ?_, .int _ _⟩
      rw [r1.int_inv]
      simp only [Op.unary, Op.intBits, Sem.run_pure]
    · cases hev
  -- conv
  · rename_i s d x k y
    simp only [Bool.and_eq_true] at hc
    obtain ⟨⟨hs, hd⟩, hx⟩ := hc
    obtain ⟨ks, hks⟩ := intT_some hs
    have r1 := he.opd hx
    split at hd
    · rename_i k' hkd
      have hk : k' = k := by simpa using hd
      subst hk
      simp only [evop] at hev
      split at hev
      · rename_i k2 b hb
        injection hev with hev; injection hev with h1 h2; subst h1; subst h2
        rw [hb] at r1
        refine Good.val0 H ⟨_, ?_, .int _ _⟩
        rw [r1.int_inv]
        simp [convert, run_underlying hks, run_underlying hkd, Conv.intToInt]
      · cases hev
    · cases hd
  -- a string's conversion
  · rename_i s d x y
    simp only [Bool.and_eq_true] at hc
    obtain ⟨⟨hs, hd⟩, hx⟩ := hc
    have hd' := strT_some hd
    have hs' := strT_some hs
    have r1 := he.opd hx
    simp only [evop] at hev
    split at hev
    · rename_i b hb
      injection hev with hev; injection hev with h1 h2; subst h1; subst h2
      rw [hb] at r1
      have hrun : (convert s d (.string ⟨b.toArray⟩)).run P w = .ok (.string ⟨b.toArray⟩) w := by
        simp [convert, run_underlying hs', run_underlying hd']
      exact Good.val0 H ⟨_, by rw [r1.str_inv]; exact hrun, .str _⟩
    · cases hev
  -- bytes to a string
  · rename_i s d x y
    simp only [Bool.and_eq_true] at hc
    obtain ⟨⟨hd, hs⟩, hx⟩ := hc
    have hd' := strT_some hd
    have r1 := he.opd hx
    split at hs
    · rename_i e' hu
      split at hs
      · rename_i hu8
        simp only [evop] at hev
        obtain ⟨es, hes, hev⟩ := Option.bind_eq_some_iff.1 hev
        obtain ⟨b, hb, hev⟩ := Option.map_eq_some_iff.1 hev
        injection hev with h1 h2; subst h1; subst h2
        exact Good.val0 H ⟨_, bstr_good H hu hu8 hd' r1 hes hb, .str _⟩
      · cases hs
    · cases hs
  -- a literal's bytes
  · rename_i s d x y
    simp only [Bool.and_eq_true, beq_iff_eq] at hc
    obtain ⟨⟨rfl, hs⟩, hx⟩ := hc
    have r1 := he.opd hx
    split at hs
    · rename_i e' hu
      split at hs
      · rename_i hu8
        simp only [evop] at hev
        split at hev
        · rename_i c cs es hce
          injection hev with hev; injection hev with h1 h2; subst h1; subst h2
          rw [hce] at r1
          exact Good.val (lit_good H hu hu8 r1)
        · cases hev
      · cases hs
    · cases hs
  -- fieldAddr
  · rename_i s x f off y
    simp only [Bool.and_eq_true] at hc
    obtain ⟨hs, hx⟩ := hc
    have r1 := he.opd hx
    split at hs
    · rename_i fs hu
      split at hs
      · rename_i fd hf
        simp only [Bool.and_eq_true, beq_iff_eq] at hs
        obtain ⟨rfl, hsz⟩ := hs
        split at hsz
        · rename_i n hn
          have hn0 : n ≠ 0 := by simpa using hsz
          have hrun : ∀ ad : Addr, (Instr.fieldAt s (.pointer (some ad)) f).run P w = .ok (.pointer (some (ad.add fd.offset))) w := by
            intro ad
            simp only [Instr.fieldAt, Sem.run_bind, run_underlying hu, Result.andThen_ok, hf, Instr.sureAddr, Sem.run_pure, fieldPlace, szT_run hn w, hn0, if_false]
          simp only [evop] at hev
          generalize y.ev e = ey at hev r1
          generalize hxv : a.eval x = xv at r1
          split at hev
          · injection hev with hev; injection hev with h1 h2; subst h1; subst h2
            cases r1 with
            | ptr b o k hb =>
              refine Good.val0 H ⟨_, by rw [hxv]; exact hrun _, ?_⟩
              rw [Addr.add_mid]
              exact .ptr _ _ _ hb
          · injection hev with hev; injection hev with h1 h2; subst h1; subst h2
            cases r1 with
            | aptr b ver i j G ad hg hv had =>
              refine Good.val0 H ⟨_, by rw [hxv]; exact hrun _, .aptr _ _ _ _ G _ hg hv fun hver => ?_⟩
              rw [had hver, Addr.add_mid, Nat.add_assoc]
          · injection hev with hev; injection hev with h1 h2; subst h1; subst h2
            cases r1 with
            | vptr cs o k p ff hcc hr =>
              refine Good.val0 H ⟨_, by rw [hxv]; exact hrun _, ?_⟩
              rw [Addr.add_mid, Nat.add_assoc]
              exact .vptr _ _ k p ff hcc hr
          · cases hev
        · cases hsz
      · cases hs
    · cases hs
  -- an element of a slice
  · rename_i t x i esz y j
    simp only [Bool.and_eq_true] at hc
    obtain ⟨⟨hs, hx⟩, hi⟩ := hc
    have r1 := he.opd hx
    have r2 := he.opd hi
    split at hs
    · rename_i e' hu
      have hsz : szT P e' = some esz := by simpa using hs
      simp only [evop] at hev
      split at hev
      · rename_i n hn
        obtain ⟨h0, hev⟩ := ite_opt hev
        obtain ⟨v', hv', hev⟩ := Option.map_eq_some_iff.1 hev
        injection hev with h1 h2; subst h1; subst h2
        obtain ⟨k, _, hk⟩ := r2.asInt hn
        obtain ⟨val, hrun, hR⟩ := ia_good (P := P) H hu hsz (k := k) r1 h0 hv'
        exact Good.val0 H ⟨val, by rw [hk]; exact hrun, hR⟩
      · cases hev
    · cases hs
  -- an element of an array
  · rename_i t x i esz len y j
    simp only [Bool.and_eq_true] at hc
    obtain ⟨⟨hs, hx⟩, hi⟩ := hc
    have r1 := he.opd hx
    have r2 := he.opd hi
    split at hs
    · rename_i n e' hu
      simp only [Bool.and_eq_true, beq_iff_eq] at hs
      obtain ⟨rfl, hsz⟩ := hs
      simp only [evop] at hev
      split at hev
      · rename_i q hq
        obtain ⟨⟨h0, hlt⟩, hev⟩ := ite_opt hev
        obtain ⟨k, _, hk⟩ := r2.asInt hq
        have hrun : ∀ ad : Addr, (Instr.indexAt t (.pointer (some ad)) (.int k q)).run P w = .ok (.pointer (some (ad.add (q.toNat * esz)))) w := by
          intro ad
          have h1 : (0 ≤ q ∧ q < (n : Int)) := ⟨h0, by omega⟩
          simp only [Instr.indexAt, asIntOf, Sem.run_bind, Sem.run_pure, Result.andThen_ok, run_underlying hu, Instr.sureAddr]
          simp only [h1, and_self, if_true, Sem.run_bind, szT_run hsz, Result.andThen_ok, Sem.run_pure]
        generalize y.ev e = ey at hev r1
        generalize hxv : a.eval x = xv at r1
        split at hev
        · injection hev with hev; injection hev with h1 h2; subst h1; subst h2
          cases r1 with
          | ptr b o kk hb =>
            refine Good.val0 H ⟨_, by rw [hxv, hk]; exact hrun _, ?_⟩
            rw [Addr.add_mid]
            exact .ptr _ _ _ hb
        · injection hev with hev; injection hev with h1 h2; subst h1; subst h2
          cases r1 with
          | aptr b ver i0 j0 G ad hg hv had =>
            refine Good.val0 H ⟨_, by rw [hxv, hk]; exact hrun _, .aptr _ _ _ _ G _ hg hv fun hver => ?_⟩
            rw [had hver, Addr.add_mid, Nat.add_assoc]
        · injection hev with hev; injection hev with h1 h2; subst h1; subst h2
          cases r1 with
          | vptr cs o kk p ff hcc hr =>
            refine Good.val0 H ⟨_, by rw [hxv, hk]; exact hrun _, ?_⟩
            rw [Addr.add_mid, Nat.add_assoc]
            exact .vptr _ _ kk p ff hcc hr
        · cases hev
      · cases hev
    · cases hs
  -- a string's byte
  · rename_i t x i y j
    simp only [Bool.and_eq_true] at hc
    obtain ⟨⟨hs, hx⟩, hi⟩ := hc
    have hu := strT_some hs
    have r1 := he.opd hx
    have r2 := he.opd hi
    simp only [evop] at hev
    split at hev
    · rename_i b q hb hq
      obtain ⟨h0, hev⟩ := ite_opt hev
      obtain ⟨c, hcc, hev⟩ := Option.map_eq_some_iff.1 hev
      injection hev with h1 h2; subst h1; subst h2
      obtain ⟨k, _, hk⟩ := r2.asInt hq
      rw [hb] at r1
      refine Good.val0 H ⟨_, ?_, .int _ _⟩
      rw [r1.str_inv, hk]
      have hget : (ByteArray.mk b.toArray)[q.toNat]? = some c := by
        obtain ⟨hlt, hc'⟩ := List.getElem?_eq_some_iff.1 hcc
        rw [getElem?_pos (ByteArray.mk b.toArray) q.toNat (by show q.toNat < b.toArray.size; simpa using hlt)]
        congr 1
      simp only [Instr.index, asIntOf, Sem.run_bind, Sem.run_pure, Result.andThen_ok, run_underlying hu, h0, if_true, hget]
    · cases hev
  -- a part of a string
  · rename_i t x lo hi y lo' hi'
    simp only [Bool.and_eq_true] at hc
    obtain ⟨⟨⟨hs, hx⟩, hlo⟩, hhi⟩ := hc
    have hu := strT_some hs
    have r1 := he.opd hx
    simp only [evop] at hev
    split at hev
    · rename_i b hb
      obtain ⟨q, hq, hev⟩ := Option.bind_eq_some_iff.1 hev
      obtain ⟨p, hp, hev⟩ := Option.bind_eq_some_iff.1 hev
      obtain ⟨⟨hpq, hqs⟩, hev⟩ := ite_opt hev
      injection hev with hev; injection hev with h1 h2; subst h1; subst h2
      rw [hb] at r1
      refine Good.val0 H ⟨_, ?_, .str _⟩
      rw [r1.str_inv]
      have hsz : (ByteArray.mk b.toArray).size = b.length := by simp [ByteArray.size]
      have hbd := bounds_ok (P := P) he hlo hhi false (len := b.length) (cap := b.length) hq hp hpq hqs
      have hslice : (Instr.slice t (.string ⟨b.toArray⟩) (lo.map a.eval) (hi.map a.eval) none).run P w = .ok (.string ⟨((b.drop p).take (q - p)).toArray⟩) w := by
        simp only [Instr.slice, Sem.run_bind, run_underlying hu, Result.andThen_ok, hsz, Option.isSome_none, Bool.false_eq_true, if_false, Sem.run_pure, hbd]
        congr 2
        ext1
        rw [ByteArray.data_extract]
        apply Array.ext'
        simp [List.extract_eq_take_drop]
      simp only [Instr.sliceAt, Sem.run_bind, run_underlying hu, Result.andThen_ok, Option.map_none]
      exact hslice
    · cases hev
  -- a part of a slice
  · rename_i t x lo hi esz y lo' hi'
    simp only [Bool.and_eq_true] at hc
    obtain ⟨⟨⟨hs, hx⟩, hlo⟩, hhi⟩ := hc
    have r1 := he.opd hx
    split at hs
    · rename_i e' hu
      have hsz : szT P e' = some esz := by simpa using hs
      obtain ⟨rfl, val, hrun, hR⟩ := ssl_good (P := P) H hu hsz he hlo hhi r1 hev
      exact Good.val0 H ⟨val, hrun, hR⟩
    · cases hs
  -- extract
  · rename_i x i y j
    simp only [Bool.and_eq_true, beq_iff_eq] at hc
    obtain ⟨rfl, hx⟩ := hc
    have r1 := he.opd hx
    simp only [evop] at hev
    split at hev
    · rename_i xs hxs
      obtain ⟨u, hu, hev⟩ := Option.map_eq_some_iff.1 hev
      injection hev with h1 h2; subst h1; subst h2
      rw [hxs] at r1
      generalize hxv : a.eval x = xv at r1
      cases r1 with
      | tup _ us hl hr =>
        have hlt := (List.getElem?_eq_some_iff.1 hu).1
        have hus := List.getElem?_eq_getElem (show i < us.length by omega)
        refine Good.val0 H ⟨us[i], ?_, hr _ _ _ hu hus⟩
        rw [hxv]
        simp only [Instr.extract]
        rw [List.getElem?_toArray, hus]
        rfl
    · cases hev
  -- a closure
  · rename_i f a0 cap f' cap'
    simp only [Bool.and_eq_true, beq_iff_eq, Array.isEmpty_iff] at hc
    obtain ⟨⟨rfl, rfl⟩, hcap⟩ := hc
    simp only [evop] at hev
    injection hev with hev; injection hev with h1 h2; subst h1; subst h2
    have hr := he.opds hcap
    refine Good.val0 H ⟨.func (.func f) #[] (cap.toList.map a.eval).toArray, ?_, .fn _ _ _ hr.len hr.at_⟩
    have hmap : cap.map a.eval = (cap.toList.map a.eval).toArray := by apply Array.ext'; simp
    rw [hmap]
    simp [Instr.makeFunc]
  -- a map
  · simp only [evop] at hev
    injection hev with hev; injection hev with h1 h2; subst h1; subst h2
    have hs := step_nb H (.map #[] 0)
    refine Good.val ⟨.map (some w.heap.size), _, _, ?_, ?_, H.new_box (.map #[] 0) ⟨[], [], 0, heap_alloc_new w _, .nil, .nil, .refl _, by simp, none, by simp⟩, hs⟩
    · simp only [Option.map_none, Instr.makeMap, newObj]
      rfl
    · refine .mp _ _ ?_
      simp only [Gh.nb, Hp.nb]
      rw [List.getElem?_append_right (by rw [H.lb]; exact Nat.le_refl _)]
      simp [H.lb]
  -- a map's store
  · rename_i t m k vo st m' k' v'
    simp only [Bool.and_eq_true] at hc
    obtain ⟨⟨⟨hs, hm⟩, hk⟩, hv⟩ := hc
    split at hs
    · rename_i kt et hu
      simp only [evop] at hev
      split at hev
      · rename_i b hb
        split at hev
        · rename_i es hes
          obtain ⟨r, hr, hev⟩ := Option.map_eq_some_iff.1 hev
          obtain ⟨w', g', hrun, hH, hS⟩ := mset_good (P := P) H hu (kindOf_chk hs) (he.opd hm) (he.opd hk) (he.opd hv) hb hes hr
          cases r with
          | none => injection hev with h1 h2; subst h1; subst h2; exact Good.unit ⟨w', g', hrun, hH, hS⟩
          | some p => obtain ⟨i, u⟩ := p; injection hev with h1 h2; subst h1; subst h2; exact Good.unit ⟨w', g', hrun, hH, hS⟩
        · cases hev
      · cases hev
    · cases hs
  -- a map literal's entry
  · rename_i t m k vo st m' k' v'
    simp only [Bool.and_eq_true] at hc
    obtain ⟨⟨⟨hs, hm⟩, hk⟩, hv⟩ := hc
    split at hs
    · rename_i kt et hu
      simp only [evop] at hev
      split at hev
      · rename_i b hb
        split at hev
        · rename_i es hes
          obtain ⟨r, hr, hev⟩ := Option.map_eq_some_iff.1 hev
          obtain ⟨w', g', hrun, hH, hS⟩ := mset_good (P := P) H hu (kindOf_chk hs) (he.opd hm) (he.opd hk) (he.opd hv) hb hes hr
          cases r with
          | none => injection hev with h1 h2; subst h1; subst h2; exact Good.unit ⟨w', g', hrun, hH, hS⟩
          | some p => obtain ⟨i, u⟩ := p; injection hev with h1 h2; subst h1; subst h2; exact Good.unit ⟨w', g', hrun, hH, hS⟩
        · cases hev
      · cases hev
    · cases hs
  -- a map's entry
  · rename_i t m k ok st z ok' m' k'
    simp only [Bool.and_eq_true, beq_iff_eq] at hc
    obtain ⟨⟨⟨rfl, hs⟩, hm⟩, hk⟩ := hc
    split at hs
    · rename_i kt et hu
      simp only [Bool.and_eq_true] at hs
      obtain ⟨hkt, hz⟩ := hs
      split at hz
      · rename_i zv hzv
        simp only [evop] at hev
        obtain ⟨r, hr, hev⟩ := Option.map_eq_some_iff.1 hev
        injection hev with h1 h2; subst h1; subst h2
        exact Good.val0 H (mget_good (P := P) H hu (kindOf_chk hkt) hzv (chkV_R hz) (he.opd hm) (he.opd hk) hr)
      · cases hz
    · cases hs
  -- make
  · rename_i t l c e' z by' n
    simp only [Bool.and_eq_true] at hc
    obtain ⟨⟨hl, hcc⟩, hs⟩ := hc
    have r1 := he.opd hl
    have r2 := he.opd hcc
    split at hs
    · rename_i e2 hu
      simp only [Bool.and_eq_true, beq_iff_eq] at hs
      obtain ⟨rfl, hs⟩ := hs
      split at hs
      · rename_i i hi
        simp only [Bool.and_eq_true, beq_iff_eq, decide_eq_true_eq] at hs
        obtain ⟨⟨⟨⟨hby, hsz⟩, hpos⟩, hbpos⟩, hz⟩ := hs
        split at hz
        · rename_i zv hzv
          obtain ⟨zs, hzc, hzr, hz1⟩ := zchk (B := B) (w := w) (g := g) hz
          simp only [evop] at hev
          split at hev
          · rename_i q hq
            obtain ⟨⟨h0, hle⟩, hev⟩ := ite_opt hev
            injection hev with hev; injection hev with h1 h2; subst h1; subst h2
            obtain ⟨k1, _, hk1⟩ := r1.asInt hq
            obtain ⟨k2, _, hk2⟩ := r2.asInt hq
            refine Good.val ?_
            rw [hk1, hk2]
            exact mksl_good H hu hi hsz hbpos hby hzv hzc hzr hz1 k1 k2 h0 hle
          · cases hev
        · cases hz
      · cases hs
    · cases hs
  -- an interface value
  · rename_i t x t' y
    simp only [Bool.and_eq_true, beq_iff_eq] at hc
    obtain ⟨⟨rfl, hs⟩, hx⟩ := hc
    simp only [evop] at hev
    injection hev with hev; injection hev with h1 h2; subst h1; subst h2
    refine Good.val0 H ⟨.iface t (a.eval x), ?_, .iface _ _ _ (he.opd hx)⟩
    split at hs
    · cases hs
    · rename_i D hn hD
      cases D <;> first
        | exact absurd rfl (hn _)
        | simp [Instr.makeInterface, run_underlying hD]
    · cases hs
  -- an assertion
  · rename_i x xt t ok t' z y
    simp only [Bool.and_eq_true, beq_iff_eq] at hc
    obtain ⟨⟨⟨⟨rfl, rfl⟩, hs⟩, hz⟩, hx⟩ := hc
    have r1 := he.opd hx
    split at hz
    · rename_i zv hzv
      have hzR := chkV_R (B := B) (w := w) (g := g) hz
      split at hs
      · cases hs
      · rename_i D hn hD
        simp only [evop] at hev
        generalize y.ev e = ey at hev r1
        generalize hxv : a.eval x = xv at r1
        split at hev
        · rename_i t2 u
          cases r1 with
          | iface _ _ uv hr =>
          split at hev
          · rename_i ht
            subst ht
            injection hev with hev; injection hev with h1 h2; subst h1; subst h2
            refine Good.val0 H ⟨.tuple #[uv, .bool true], ?_, .tup [u, .bool true] [uv, .bool true] rfl (RL.cons hr (.cons (.bool _) .nil)).at_⟩
            rw [hxv]
            exact (tas_run hD hn).2.1 uv
          · rename_i ht
            injection hev with hev; injection hev with h1 h2; subst h1; subst h2
            refine Good.val0 H ⟨.tuple #[zv, .bool false], ?_, .tup [z, .bool false] [zv, .bool false] rfl (RL.cons hzR (.cons (.bool _) .nil)).at_⟩
            rw [hxv]
            exact (tas_run hD hn).2.2 _ _ _ hzv ht
        · cases r1
          injection hev with hev; injection hev with h1 h2; subst h1; subst h2
          refine Good.val0 H ⟨.tuple #[zv, .bool false], ?_, .tup [z, .bool false] [zv, .bool false] rfl (RL.cons hzR (.cons (.bool _) .nil)).at_⟩
          rw [hxv]
          exact (tas_run hD hn).1 _ hzv
        · cases hev
      · cases hs
    · cases hz
  -- a string gone through
  · rename_i t x y
    simp only [Bool.and_eq_true] at hc
    obtain ⟨hs, hx⟩ := hc
    have hu := strT_some hs
    have r1 := he.opd hx
    simp only [evop] at hev
    split at hev
    · rename_i b hb
      injection hev with hev; injection hev with h1 h2; subst h1; subst h2
      rw [hb] at r1
      have hs := step_nb H (.stringIter ⟨b.toArray⟩ 0)
      refine Good.val ⟨.pointer (some ⟨w.heap.size, 0, none⟩), _, _, ?_, ?_, H.new_box (.stringIter ⟨b.toArray⟩ 0) (heap_alloc_new w _), hs⟩
      · rw [r1.str_inv]
        simp only [Instr.range, Sem.run_bind, run_underlying hu, Result.andThen_ok, Sem.run_pure, newObj]
        rfl
      · refine .it _ _ ?_
        simp only [Gh.nb, Hp.nb]
        rw [List.getElem?_append_right (by rw [H.lb]; exact Nat.le_refl _)]
        simp [H.lb]
    · cases hev
  -- its next sign
  · rename_i x y
    have r1 := he.opd hc
    simp only [evop] at hev
    split at hev
    · rename_i b hb
      rw [hb] at r1
      split at hev
      · rename_i s pos0 hbx
        generalize hxv : a.eval x = xv at r1
        cases r1 with
        | it _ kk hbb =>
        have hbr := H.box b _ kk hbx hbb
        have hheap : w.heap[kk]? = some (.stringIter ⟨s.toArray⟩ pos0) := hbr
        have hlt : kk < w.heap.size := (Array.getElem?_eq_some_iff.1 hheap).1
        have hget : (getObj kk).run P w = .ok (.stringIter ⟨s.toArray⟩ pos0) w := by simp [getObj, Sem.run, hheap]
        have hssz : (ByteArray.mk s.toArray).size = s.length := by simp [ByteArray.size]
        split at hev
        · rename_i hp
          injection hev with hev; injection hev with h1 h2; subst h1; subst h2
          have hs := step_put H (live_bb hbb) (.stringIter ⟨s.toArray⟩ (pos0 + (Utf8.decode ⟨s.toArray⟩ pos0).2))
          refine Good.val ⟨.tuple #[.bool true, .int .i64 pos0, .int .i32 (Utf8.decode ⟨s.toArray⟩ pos0).1], _, g, ?_, .tup [.bool true, .int .i64 pos0, .int .i32 (Utf8.decode ⟨s.toArray⟩ pos0).1] [_, _, _] rfl (RL.cons (.bool _) (.cons (.int _ _) (.cons (.int _ _) .nil))).at_, H.set_box hbb hs rfl rfl rfl (put_heap hlt _) (fun i hi => put_other hi _), hs⟩
          rw [hxv]
          have hset : (setObj kk (.stringIter ⟨s.toArray⟩ (pos0 + (Utf8.decode ⟨s.toArray⟩ pos0).2))).run P w = .ok () (World.put w kk (.stringIter ⟨s.toArray⟩ (pos0 + (Utf8.decode ⟨s.toArray⟩ pos0).2))) := setObj_run hheap (by simp)
          simp only [Instr.next, Sem.run_bind, hget, Result.andThen_ok, hssz, hp, if_true, hset, Sem.run_pure, goInt]
        · rename_i hp
          injection hev with hev; injection hev with h1 h2; subst h1; subst h2
          refine Good.val0 H ⟨.tuple #[.bool false], ?_, .tup [.bool false] [_] rfl (RL.cons (.bool _) .nil).at_⟩
          rw [hxv]
          simp only [Instr.next, Sem.run_bind, hget, Result.andThen_ok, hssz, hp, if_false, Sem.run_pure]
      · cases hev
    · cases hev
  -- a row's field
  · rename_i t x i off n ag y
    simp only [Bool.and_eq_true] at hc
    obtain ⟨hs, hx⟩ := hc
    split at hs
    · rename_i fs hu
      split at hs
      · rename_i f hf
        simp only [Bool.and_eq_true, beq_iff_eq, Bool.or_eq_true] at hs
        obtain ⟨⟨⟨rfl, hn⟩, hag⟩, h1⟩ := hs
        have r1 := he.opd hx
        simp only [evop] at hev
        split at hev
        · rename_i cs hcs
          rw [hcs] at r1
          obtain ⟨cs', hsub, hev⟩ := Option.bind_eq_some_iff.1 hev
          obtain ⟨v', hv', hev⟩ := Option.map_eq_some_iff.1 hev
          injection hev with h2 h3; subst h2; subst h3
          exact Good.val0 H (field_good hu hf hn hag h1 r1 hsub hv')
        · cases hev
      · cases hs
    · cases hs
  -- two pointers
  · rename_i op t x y _ neg x' y'
    simp only [Bool.and_eq_true, beq_iff_eq] at hc
    obtain ⟨⟨⟨hop, ht⟩, hx⟩, hy⟩ := hc
    split at ht
    · rename_i e' hu
      obtain ⟨j, hj⟩ := Option.isSome_iff_exists.1 ht
      have r1 := he.opd hx
      have r2 := he.opd hy
      simp only [evop] at hev
      split at hev
      · rename_i b o b' o' hb1 hb2
        obtain ⟨⟨rfl, rfl⟩, hev2⟩ := ite_opt hev
        injection hev2 with hev2; injection hev2 with h1 h2; subst h1; subst h2
        rw [hb1] at r1
        rw [hb2] at r2
        refine Good.still (val := .bool !neg) H ?_ (.bool _)
        have := psame_good (P := P) hop hu hj r1 r2 none
        have hg : (eqGuard op t x y (a.eval x) (a.eval y)).run P w = .ok () w := by
          generalize a.eval x = xv at r1
          generalize a.eval y = yv at r2
          cases r1
          cases r2
          subst hop
          cases neg <;> simp [eqGuard]
        simp [execOp, this, hg]
      · cases hev
    · cases ht
  -- an unsafe pointer
  · rename_i s d x t n y
    simp only [Bool.and_eq_true, decide_eq_true_eq] at hc
    obtain ⟨⟨hn, hx⟩, hc⟩ := hc
    obtain ⟨rfl, hrun, hR⟩ := upc_good H hn hc (he.opd hx) rfl hev
    refine Good.still H ?_ hR
    simp [execOp, hrun]
  -- a panic
  · simp only [evop] at hev
    cases hev
  -- a call
  · rename_i c
    split at hc
    -- of a function value
    · simp only [evop] at hev
      cases hev
    -- a string's length
    · rename_i y hcal
      split at hc
      · rename_i x t ts hargs hts
        simp only [Bool.and_eq_true] at hc
        obtain ⟨hs, hx⟩ := hc
        have hu := strT_some hs
        have r1 := he.opd hx
        simp only [evop] at hev
        split at hev
        · rename_i b hb
          injection hev with hev; injection hev with h1 h2; subst h1; subst h2
          rw [hb] at r1
          refine Good.still (val := .int .i64 b.length) H ?_ (.int _ _)
          show (do let d ← resolve a.eval c type; invoke d.target d.args : Sem Next).run P w = _
          rw [builtin_run hcal, args1 hargs, r1.str_inv]
          have hty : c.argTypes[0]? = some t := by rw [← Array.getElem?_toList, hts]; rfl
          rw [builtin, Builtin.len_, hty]
          simp only [Sem.run_bind, run_underlying hu, Result.andThen_ok, Sem.run_pure, List.getElem?_toArray, List.getElem?_cons_zero]
          simp [goInt, ByteArray.size]
        · cases hev
      · cases hc
    -- a slice's
    · rename_i y hcal
      split at hc
      · rename_i x t ts hargs hts
        simp only [Bool.and_eq_true] at hc
        obtain ⟨hs, hx⟩ := hc
        have hty : c.argTypes[0]? = some t := by rw [← Array.getElem?_toList, hts]; rfl
        have r1 := he.opd hx
        split at hs
        · rename_i e' hu
          have hrun : ∀ ad n cap, a.eval x = .slice ad n cap → (do let d ← resolve a.eval c type; invoke d.target d.args : Sem Next).run P w = .ok (.value (.int .i64 n)) w := by
            intro ad n cap hxv
            rw [builtin_run hcal, args1 hargs, hxv]
            simp [builtin, Builtin.len_, hty, run_underlying hu, goInt]
          simp only [evop] at hev
          generalize y.ev e = ey at hev r1
          generalize hxv : a.eval x = xv at r1
          split at hev
          · injection hev with hev; injection hev with h1 h2; subst h1; subst h2
            cases r1
            exact Good.still H (hrun _ _ _ hxv) (.int _ _)
          · injection hev with hev; injection hev with h1 h2; subst h1; subst h2
            cases r1
            exact Good.still H (hrun _ _ _ hxv) (.int _ _)
          · cases hev
        · cases hs
      · cases hc
    -- append
    · rename_i e' esz by' y z hcal
      split at hc
      · rename_i x u t t' hargs hts
        simp only [Bool.and_eq_true, beq_iff_eq] at hc
        obtain ⟨⟨⟨rfl, hs⟩, hx⟩, hu⟩ := hc
        split at hs
        · rename_i e2 hun
          simp only [Bool.and_eq_true, beq_iff_eq] at hs
          obtain ⟨rfl, hs⟩ := hs
          split at hs
          · rename_i i hi
            simp only [Bool.and_eq_true, beq_iff_eq, decide_eq_true_eq] at hs
            obtain ⟨⟨⟨⟨hsz, hby⟩, hpos⟩, hbpos⟩, hz⟩ := hs
            split at hz
            · rename_i zv hzv
              have hzs : zv.cells.size = esz := by simpa using hz
              obtain ⟨val, w', g', hrun, hR, hH, hS⟩ := app_good (P := P) H type hun hi hzv hsz hby hzs hpos hbpos (he.opd hx) (he.opd hu) hev
              refine ⟨.value val, val, w', g', ?_, rfl, hR, hH, hS⟩
              show (do let d ← resolve a.eval c type; invoke d.target d.args : Sem Next).run P w = _
              rw [builtin_run hcal, args2 hargs, types2 hts]
              simp [builtin, hrun]
            · cases hz
          · cases hs
        · cases hs
      · cases hc
    -- append of a string
    · rename_i e' by' y z hcal
      split at hc
      · rename_i x u t t' hargs hts
        simp only [Bool.and_eq_true] at hc
        obtain ⟨⟨⟨hst, hs⟩, hx⟩, hu⟩ := hc
        split at hs
        · rename_i e2 hun
          simp only [Bool.and_eq_true, beq_iff_eq] at hs
          obtain ⟨rfl, hs⟩ := hs
          split at hs
          · rename_i i hi
            simp only [Bool.and_eq_true, beq_iff_eq, decide_eq_true_eq] at hs
            obtain ⟨⟨⟨hsz, hby⟩, hbpos⟩, hz⟩ := hs
            split at hz
            · rename_i zv hzv
              have hzs : zv.cells.size = 1 := by simpa using hz
              obtain ⟨val, w', g', hrun, hR, hH, hS⟩ := apps_good (P := P) H type hun (strT_some hst) hi hzv hsz hby hzs hbpos (he.opd hx) (he.opd hu) hev
              refine ⟨.value val, val, w', g', ?_, rfl, hR, hH, hS⟩
              show (do let d ← resolve a.eval c type; invoke d.target d.args : Sem Next).run P w = _
              rw [builtin_run hcal, args2 hargs, types2 hts]
              simp [builtin, hrun]
            · cases hz
          · cases hs
        · cases hs
      · cases hc
    -- max
    · rename_i y z hcal
      split at hc
      · rename_i x u hargs
        simp only [Bool.and_eq_true] at hc
        obtain ⟨hx, hu⟩ := hc
        have r1 := he.opd hx
        have r2 := he.opd hu
        simp only [evop] at hev
        split at hev
        · rename_i k1 i1 k2 i2 hb1 hb2
          obtain ⟨hk, hev⟩ := ite_opt hev
          injection hev with hev; injection hev with h1 h2; subst h1; subst h2
          rw [hb1] at r1
          rw [hb2] at r2
          refine Good.still (val := .int k1 (if i2 > i1 then i2 else i1)) H ?_ (.int _ _)
          show (do let d ← resolve a.eval c type; invoke d.target d.args : Sem Next).run P w = _
          rw [builtin_run hcal, args2 hargs, r1.int_inv, r2.int_inv]
          simp [builtin, Builtin.max_, Builtin.max2]
        · cases hev
      · cases hc
    -- min
    · rename_i y z hcal
      split at hc
      · rename_i x u hargs
        simp only [Bool.and_eq_true] at hc
        obtain ⟨hx, hu⟩ := hc
        have r1 := he.opd hx
        have r2 := he.opd hu
        simp only [evop] at hev
        split at hev
        · rename_i k1 i1 k2 i2 hb1 hb2
          obtain ⟨hk, hev⟩ := ite_opt hev
          injection hev with hev; injection hev with h1 h2; subst h1; subst h2
          rw [hb1] at r1
          rw [hb2] at r2
          refine Good.still (val := .int k1 (if i2 < i1 then i2 else i1)) H ?_ (.int _ _)
          show (do let d ← resolve a.eval c type; invoke d.target d.args : Sem Next).run P w = _
          rw [builtin_run hcal, args2 hargs, r1.int_inv, r2.int_inv]
          simp [builtin, Builtin.min_, Builtin.min2]
        · cases hev
      · cases hc
    -- clear
    · rename_i z y hcal
      split at hc
      · rename_i x t ts hargs hts
        simp only [Bool.and_eq_true] at hc
        obtain ⟨hs, hx⟩ := hc
        split at hs
        · rename_i e' hu
          split at hs
          · rename_i zv hzv
            have hz0 : chkV0 zv z = true ∧ zv.cells = #[zv] := by
              cases zv <;> first | exact ⟨hs, rfl⟩ | (cases hs; done) | (exfalso; unfold chkV0 at hs; split at hs <;> simp_all)
            obtain ⟨rfl, w', hrun, hH, hS⟩ := clr_good (P := P) H hu hzv (chkV0_R hz0.1) ⟨hz0.2, chkV0_one hz0.1⟩ (he.opd hx) ts type rfl hev
            refine ⟨.value (.tuple #[]), _, w', g, ?_, rfl, undef_R, hH, hS⟩
            show (do let d ← resolve a.eval c type; invoke d.target d.args : Sem Next).run P w = _
            have hty : c.argTypes = (t :: ts).toArray := by apply Array.ext'; simp [hts]
            rw [builtin_run hcal, args1 hargs, hty]
            simp only [builtin, Sem.run_bind, hrun, Result.andThen_ok, Sem.run_pure]
          · cases hs
        · cases hs
      · cases hc
    -- the data of a slice
    · rename_i y hcal
      split at hc
      · rename_i x hargs
        obtain ⟨rfl, val, hrun, hR⟩ := usd_good (P := P) H (he.opd hc) rfl hev c.argTypes type
        refine Good.still H ?_ hR
        show (do let d ← resolve a.eval c type; invoke d.target d.args : Sem Next).run P w = _
        rw [builtin_run hcal, args1 hargs]
        simp only [builtin, Sem.run_bind, hrun, Result.andThen_ok, Sem.run_pure]
      · cases hc
    -- a string of bytes that stand
    · rename_i t y z hcal
      split at hc
      · rename_i x u pt it hargs hts
        simp only [Bool.and_eq_true] at hc
        obtain ⟨⟨hs, hx⟩, hu⟩ := hc
        split at hs
        · rename_i e' hun
          simp only [Bool.and_eq_true, beq_iff_eq] at hs
          obtain ⟨rfl, hc1⟩ := hs
          obtain ⟨val, w', hrun, hR, hH, hS⟩ := ust_good (P := P) (it := it) H hun hc1 (he.opd hx) (he.opd hu) rfl rfl hev type
          refine ⟨.value val, val, w', g, ?_, rfl, hR, hH, hS⟩
          show (do let d ← resolve a.eval c type; invoke d.target d.args : Sem Next).run P w = _
          rw [builtin_run hcal, args2 hargs, types2 hts]
          simp only [builtin, Sem.run_bind, hrun, Result.andThen_ok, Sem.run_pure]
        · cases hs
      · cases hc
    -- what is never reached
    · simp only [evop] at hev
      cases hev
    · cases hc
  · simp only [evop] at hev
    cases hev
  · cases hc
end
end Go.Ab
