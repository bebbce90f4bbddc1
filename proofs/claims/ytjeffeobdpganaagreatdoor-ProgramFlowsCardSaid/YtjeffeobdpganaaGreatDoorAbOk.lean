/- The abstract machine is sound: what it answers, the translated program answers. -/
import Derived.Test.YtjeffeobdpganaaGreatDoorAbDraw3
import Derived.LoopN
set_option linter.unusedSimpArgs false
set_option linter.unusedVariables false
namespace Go.Ab
open Go.RowKit (Below)
section
variable {P : Program} {B nt : Nat} {w : World} {g : Gh} {h : Hp} {K : Nat → Bool} {dd : List Deferred} {e0 : Nat → AV}

/-- A function's results. -/
def resOne (tmps : Array Value) : ResultVar → Sem Value
  | .tmp t => pure (tmps.getD t undef)
  | .cell a t => do loadVar t (← asAddr (tmps.getD a undef))
theorem res_run (H : HR B h g w) {e : Nat → AV} {a : Act} : ∀ {rs : List ResultVar} {vs : List RV} {xs : List AV}, (∀ t ∈ rreads vs, R B w g (e t) (a.tmps.getD t undef)) → chkR P rs vs = true → resV e h vs = some xs →
    ∃ us : List Value, (rs.mapM (resOne a.tmps)).run P w = .ok us w ∧ RL B w g xs us
  | [], [], xs, _, _, hx => by
    simp only [resV] at hx
    injection hx with hx
    subst hx
    exact ⟨[], rfl, .nil⟩
  | .tmp t :: rs, .tmp t' :: vs, xs, he, hc, hx => by
    simp only [chkR, Bool.and_eq_true, beq_iff_eq] at hc
    obtain ⟨rfl, hc⟩ := hc
    simp only [resV] at hx
    obtain ⟨ys, hy, rfl⟩ := Option.map_eq_some_iff.1 hx
    obtain ⟨us, hu, hr⟩ := res_run H (fun t ht => he t (by simp [rreads, ht])) hc hy
    refine ⟨_ :: us, ?_, .cons (he t (by simp [rreads])) hr⟩
    rw [List.mapM_cons, Sem.run_bind]
    simp only [resOne, Sem.run_pure, Result.andThen_ok, Sem.run_bind, hu]
  | .cell b t :: rs, .cell b' n ag :: vs, xs, he, hc, hx => by
    simp only [chkR, Bool.and_eq_true, beq_iff_eq, Bool.or_eq_true] at hc
    obtain ⟨⟨⟨⟨rfl, hn⟩, hag⟩, h1⟩, hc⟩ := hc
    simp only [resV] at hx
    obtain ⟨cs, hcs, hx⟩ := Option.bind_eq_some_iff.1 hx
    obtain ⟨v, hv, hx⟩ := Option.bind_eq_some_iff.1 hx
    obtain ⟨ys, hy, rfl⟩ := Option.map_eq_some_iff.1 hx
    obtain ⟨us, hu, hr⟩ := res_run H (fun t ht => he t (by simp [rreads, ht])) hc hy
    have hp := he b (by simp [rreads])
    obtain ⟨k, o, vs', hpv, _⟩ := ldc_ok H hp hcs
    obtain ⟨val, hrun, hR⟩ := load_good (P := P) H hn hag h1 hp hcs hv
    rw [hpv] at hrun
    simp only [Instr.loadAt, Instr.sureAddr, Sem.run_bind, Sem.run_pure, Result.andThen_ok] at hrun
    refine ⟨val :: us, ?_, .cons hR hr⟩
    rw [List.mapM_cons, Sem.run_bind]
    simp only [resOne, hpv, asAddr, Sem.run_bind, Sem.run_pure, Result.andThen_ok, hrun, hu]
  | [], _ :: _, _, _, hc, _ => by cases hc
  | .tmp _ :: _, [], _, _, hc, _ => by cases hc
  | .cell _ _ :: _, [], _, _, hc, _ => by cases hc
  | .tmp _ :: _, .cell _ _ _ :: _, _, _, hc, _ => by cases hc
  | .cell _ _ :: _, .tmp _ :: _, _, _, hc, _ => by cases hc

theorem results_run (H : HR B h g w) {e : Nat → AV} {a : Act} {fn : Func} {vs : List RV} {xs : List AV} (he : ∀ t ∈ rreads vs, R B w g (e t) (a.tmps.getD t undef)) (hc : chkR P fn.results.toList vs = true) (hx : resV e h vs = some xs) :
    ∃ val, (results fn a.tmps).run P w = .ok val w ∧ R B w g (one1 xs) val := by
  obtain ⟨us, hu, hr⟩ := res_run H he hc hx
  have hm : results fn a.tmps = (fn.results.mapM (resOne a.tmps)) >>= fun vs => pure (if h : vs.size = 1 then vs[0] else .tuple vs) := by
    unfold results
    congr 1
  have ha : (fn.results.mapM (resOne a.tmps)).run P w = .ok us.toArray w := by
    rw [Array.mapM_eq_mapM_toList]
    have e : ∀ m : Sem (List Value), List.toArray <$> m = m >>= fun l => pure l.toArray := fun _ => rfl
    rw [e, Sem.run_bind, hu, Result.andThen_ok, Sem.run_pure]
  refine ⟨_, by rw [hm, Sem.run_bind, ha, Result.andThen_ok, Sem.run_pure], ?_⟩
  by_cases h1 : us.length = 1
  · obtain ⟨u, rfl⟩ := List.length_eq_one_iff.1 h1
    obtain ⟨x, rfl⟩ := List.length_eq_one_iff.1 (hr.len.trans h1)
    exact hr.at_ 0 _ _ rfl rfl
  · rw [dif_neg (by simpa using h1)]
    have hl : xs.length ≠ 1 := by rw [hr.len]; exact h1
    have : one1 xs = .tup xs := by
      unfold one1
      split
      · exact absurd rfl hl
      · rfl
    rw [this]
    exact .tup xs us hr.len hr.at_

theorem keeps_none : ∀ c : MC, keeps (fun _ => false) c = true
  | .reg l => by simp only [keeps, List.all_eq_true]; intro i _; cases i.d <;> rfl
  | .dreg l => by simp only [keeps, List.all_eq_true]; intro i _; cases i.i.d <;> rfl
  | .seq a b => by simp [keeps, keeps_none a, keeps_none b]
  | .cond _ a b => by simp [keeps, keeps_none a, keeps_none b]
  | .block _ b => by simp [keeps, keeps_none b]
  | .loop b => by simp [keeps, keeps_none b]
  | .skip | .exit _ | .ret | .bad => rfl
theorem stp_keep {call : CallO} {i : MI} (hK : ∀ q, i.d = some q → K q = false) {e : Nat → AV} {h : Hp} {x : AEx} {e' : Nat → AV} {h' : Hp} (hs : stp call i e h = some (x, e', h')) : ∀ t, K t = true → e' t = e t := by
  intro t ht
  unfold stp at hs
  split at hs
  · obtain ⟨⟨r, h2⟩, _, hb⟩ := Option.map_eq_some_iff.1 hs
    cases r <;> simp only [back] at hb
    · injection hb with h1 h2; injection h2 with h2 h3; rw [← h2]; exact puts_keep hK t ht
    · injection hb with h1 h2; injection h2 with h2 h3; rw [← h2]
  · injection hs with hs; injection hs with h1 h2; injection h2 with h2 h3; rw [← h2]; exact puts_keep hK t ht
theorem evops_keep {call : CallO} : ∀ {l : List MI} {e : Nat → AV} {h : Hp} {x : AEx} {e' : Nat → AV} {h' : Hp}, (∀ i ∈ l, ∀ q, i.d = some q → K q = false) → evops call l e h = some (x, e', h') → ∀ t, K t = true → e' t = e t
  | [], e, h, x, e', h', _, hev, t, ht => by
    simp only [evops] at hev
    injection hev with hs; injection hs with h1 h2; injection h2 with h2 h3; rw [← h2]
  | i :: l, e, h, x, e', h', hK, hev, t, ht => by
    simp only [evops] at hev
    obtain ⟨⟨x1, e1, h1⟩, hs, hev⟩ := Option.bind_eq_some_iff.1 hev
    have h1' := stp_keep (hK i (by simp)) hs t ht
    cases x1 <;> dsimp only at hev
    · rw [evops_keep (fun i' hi' => hK i' (by simp [hi'])) hev t ht, h1']
    all_goals (injection hev with hs; injection hs with h1 h2; injection h2 with h2 h3; rw [← h2]; exact h1')
theorem evd_keep {call : CallO} {all : List MD} : ∀ {l : List MD} {e : Nat → AV} {h : Hp} {x : AEx} {e' : Nat → AV} {h' : Hp}, (∀ y ∈ l, ∀ q, y.i.d = some q → K q = false) → evd call all l e h = some (x, e', h') → ∀ t, K t = true → e' t = e t
  | [], e, h, x, e', h', _, hev, t, ht => by
    simp only [evd] at hev
    injection hev with hs; injection hs with h1 h2; injection h2 with h2 h3; rw [← h2]
  | i :: l, e, h, x, e', h', hK, hev, t, ht => by
    simp only [evd] at hev
    obtain ⟨⟨x1, e1, h1⟩, hs, hev⟩ := Option.bind_eq_some_iff.1 hev
    have h1' := stp_keep (hK i (by simp)) hs t ht
    cases x1 <;> dsimp only at hev
    · obtain ⟨_, hev⟩ := ite_opt hev
      rw [evd_keep (fun i' hi' => hK i' (by simp [hi'])) hev t ht, h1']
    all_goals (injection hev with hs; injection hs with h1 h2; injection h2 with h2 h3; rw [← h2]; exact h1')
theorem evC_keeps {S : Sys} : ∀ (n : Nat) (c : MC) (e : Nat → AV) (h : Hp) (x : AEx) (e' : Nat → AV) (h' : Hp), keeps K c = true → evC S n c e h = some (x, e', h') → ∀ t, K t = true → e' t = e t := by
  intro n
  induction n with
  | zero => intro c e h x e' h' _ hev; simp [evC] at hev
  | succ n ih =>
    intro c e h x e' h' hk hev t ht
    cases c with
    | skip => simp only [evC] at hev; injection hev with hs; injection hs with h1 h2; injection h2 with h2 h3; rw [← h2]
    | exit id => simp only [evC] at hev; injection hev with hs; injection hs with h1 h2; injection h2 with h2 h3; rw [← h2]
    | ret => simp only [evC] at hev; injection hev with hs; injection hs with h1 h2; injection h2 with h2 h3; rw [← h2]
    | bad => simp only [evC] at hev; cases hev
    | reg l =>
      simp only [evC] at hev
      refine evops_keep (fun i hi q hq => ?_) hev t ht
      simp only [keeps, List.all_eq_true] at hk
      have := hk i hi
      rw [hq] at this
      simpa using this
    | dreg l =>
      simp only [evC] at hev
      refine evd_keep (fun i hi q hq => ?_) hev t ht
      simp only [keeps, List.all_eq_true] at hk
      have := hk i hi
      rw [hq] at this
      simpa using this
    | seq a b =>
      simp only [keeps, Bool.and_eq_true] at hk
      simp only [evC] at hev
      obtain ⟨⟨x1, e1, h1⟩, hx, hev⟩ := Option.bind_eq_some_iff.1 hev
      have h1' := ih _ _ _ _ _ _ hk.1 hx t ht
      cases x1 <;> dsimp only at hev
      · rw [ih _ _ _ _ _ _ hk.2 hev t ht, h1']
      all_goals (injection hev with hs; injection hs with h1 h2; injection h2 with h2 h3; rw [← h2]; exact h1')
    | cond co a b =>
      simp only [keeps, Bool.and_eq_true] at hk
      simp only [evC] at hev
      split at hev
      · split at hev
        · exact ih _ _ _ _ _ _ hk.1 hev t ht
        · exact ih _ _ _ _ _ _ hk.2 hev t ht
      · cases hev
    | block id b =>
      simp only [keeps] at hk
      simp only [evC] at hev
      obtain ⟨⟨x1, e1, h1⟩, hx, hev⟩ := Option.bind_eq_some_iff.1 hev
      have h1' := ih _ _ _ _ _ _ hk hx t ht
      cases x1 <;> dsimp only at hev
      case exit id' =>
        split at hev <;> (injection hev with hs; injection hs with h1 h2; injection h2 with h2 h3; rw [← h2]; exact h1')
      all_goals (injection hev with hs; injection hs with h1 h2; injection h2 with h2 h3; rw [← h2]; exact h1')
    | loop b =>
      have hk' := hk
      simp only [keeps] at hk
      simp only [evC] at hev
      obtain ⟨⟨x1, e1, h1⟩, hx, hev⟩ := Option.bind_eq_some_iff.1 hev
      have h1' := ih _ _ _ _ _ _ hk hx t ht
      cases x1 <;> dsimp only at hev
      · rw [ih _ _ _ _ _ _ hk' hev t ht, h1']
      all_goals (injection hev with hs; injection hs with h1 h2; injection h2 with h2 h3; rw [← h2]; exact h1')

theorem CPost.exit_block {w0 : World} {g0 : Gh} {x : AEx} {e' : Nat → AV} {h' : Hp} {id : Nat} {y : AEx × (Nat → AV) × Hp}
    (hy : (match x with
      | .exit id' => if id' = id then some (AEx.norm, e', h') else some (AEx.exit id', e', h')
      | x => some (x, e', h')) = some y) {ex : Exit} {a' : Act} {w' : World} (hp : CPost B w0 g0 nt K dd e0 x e' h' ex a' w') :
    Exit.inBlock id (CPost B w0 g0 nt K dd e0 y.1 y.2.1 y.2.2) ex a' w' := by
  obtain ⟨g', p1, p2, p3, p4⟩ := hp
  cases x with
  | exit id' =>
    cases ex <;> simp only at p4
    obtain ⟨rfl, p4⟩ := p4
    simp only [Exit.inBlock]
    dsimp only at hy
    by_cases hid : id' = id
    · rw [if_pos hid] at hy
      injection hy with hy
      subst hy
      rw [if_pos hid]
      exact ⟨g', p1, p2, p3, p4⟩
    · rw [if_neg hid] at hy
      injection hy with hy
      subst hy
      rw [if_neg hid]
      exact ⟨g', p1, p2, p3, rfl, p4⟩
  | norm =>
    injection hy with hy
    subst hy
    cases ex <;> simp only at p4
    exact ⟨g', p1, p2, p3, p4⟩
  | ret =>
    injection hy with hy
    subst hy
    cases ex <;> simp only at p4
    exact ⟨g', p1, p2, p3, p4⟩
  | pan v =>
    injection hy with hy
    subst hy
    cases ex <;> simp only at p4
    exact ⟨g', p1, p2, p3, p4⟩

theorem CPost.then' {w0 : World} {g0 : Gh} {x : AEx} {e' : Nat → AV} {h' : Hp} {N : Act → World → Prop} {Q : Exit → Act → World → Prop} {ex : Exit} {a' : Act} {w' : World}
    (hp : CPost B w0 g0 nt K dd e0 x e' h' ex a' w') (hK : x = .norm → ∀ g', HR B h' g' w' → Step B w0 g0 w' g' → a'.defers = dd → ER B w' g' e' a' → a'.tmps.size = nt → N a' w')
    (hQ : x ≠ .norm → CPost B w0 g0 nt K dd e0 x e' h' ex a' w' → Q ex a' w') : Exit.then N Q ex a' w' := by
  have hp' := hp
  obtain ⟨g', p1, p2, p3, p4⟩ := hp
  cases x with
  | norm =>
    cases ex <;> simp only at p4
    exact hK rfl g' p1 p2 p3 p4.1 p4.2
  | exit id =>
    cases ex <;> simp only at p4
    exact hQ (by simp) hp'
  | ret =>
    cases ex <;> simp only at p4
    exact hQ (by simp) hp'
  | pan v =>
    cases ex <;> simp only at p4
    exact hQ (by simp) hp'

theorem code_ok {S : Sys} : ∀ (n : Nat), (∀ k, k < n → CallOk P (evF S k)) → ∀ (c : Code) (c' : MC) (w : World) (g : Gh) (h : Hp) (e : Nat → AV) (a : Act) (x : AEx) (e' : Nat → AV) (h' : Hp),
    chkC P nt c c' = true → keeps K c' = true → evC S n c' e h = some (x, e', h') → HR B h g w → ER B w g e a → a.tmps.size = nt → a.defers = dd → c.wp P (CPost B w g nt K dd e x e' h') a w := by
  intro n
  induction n using Nat.strongRecOn with
  | _ n0 IH0 =>
    intro hcalls c c' w g h e a x e' h' hc hk hev H he hn hd
    cases n0 with
    | zero => simp [evC] at hev
    | succ n =>
    have IH' := IH0 n (by omega) fun k hk => hcalls k (by omega)
    have hokn := hcalls n (by omega)
    cases c' with
    | skip =>
      cases c <;> simp only [chkC, Bool.false_eq_true] at hc
      simp only [evC] at hev
      injection hev with hev; injection hev with h1 h2; injection h2 with h2 h3
      subst h1; subst h2; subst h3
      exact wp_skip ⟨g, H, Step.refl _ _ _, hd, he, hn⟩
    | exit id =>
      cases c <;> simp only [chkC, Bool.false_eq_true, beq_iff_eq] at hc
      subst hc
      simp only [evC] at hev
      injection hev with hev; injection hev with h1 h2; injection h2 with h2 h3
      subst h1; subst h2; subst h3
      exact wp_exit ⟨g, H, Step.refl _ _ _, hd, rfl, he, hn⟩
    | ret =>
      cases c <;> simp only [chkC, Bool.false_eq_true] at hc
      simp only [evC] at hev
      injection hev with hev; injection hev with h1 h2; injection h2 with h2 h3
      subst h1; subst h2; subst h3
      exact wp_ret ⟨g, H, Step.refl _ _ _, hd, he, hn⟩
    | bad => simp only [evC] at hev; cases hev
    | reg l =>
      unfold chkC at hc
      split at hc <;> try contradiction
      rename_i id ops l' heq
      injection heq with heq
      subst heq
      simp only [evC] at hev
      exact wp_region_list (ops_wp hokn _ _ _ _ _ _ _ _ _ _ hc hev (fun i hi q hq => by
        simp only [keeps, List.all_eq_true] at hk
        have := hk i hi
        rw [hq] at this
        simpa using this) H he hn hd fun _ _ _ hp => hp)
    | dreg l =>
      unfold chkC at hc
      split at hc <;> try contradiction
      rename_i id ops l' heq
      injection heq with heq
      subst heq
      simp only [Bool.and_eq_true] at hc
      simp only [evC] at hev
      exact dreg_wp hokn (fun x hx q hq => by
        simp only [keeps, List.all_eq_true] at hk
        have := hk x hx
        rw [hq] at this
        simpa using this) hc.1 hc.2 hev H he hn hd
    | seq a' b' =>
      cases c <;> simp only [chkC, Bool.false_eq_true, Bool.and_eq_true] at hc
      obtain ⟨hca, hcb⟩ := hc
      simp only [keeps, Bool.and_eq_true] at hk
      simp only [evC] at hev
      obtain ⟨⟨x1, e1, h1⟩, hx, hev⟩ := Option.bind_eq_some_iff.1 hev
      refine wp_seq (wp_mono (IH' _ _ w g h e a x1 e1 h1 hca hk.1 hx H he hn hd) fun ex a1 w1 hp => hp.then' (fun hx1 g1 p1 p2 p3 p4 p5 => ?_) (fun hx1 hp => ?_))
      · subst hx1
        exact wp_mono (IH' _ _ w1 g1 h1 e1 a1 x e' h' hcb hk.2 hev p1 p4 p5 p3) fun ex a2 w2 hp => (hp.from p2).env (evC_keeps n _ _ _ _ _ _ hk.1 hx)
      · cases x1 <;> first | exact absurd rfl hx1 | skip
        all_goals
          injection hev with hev; injection hev with h1 h2; injection h2 with h2 h3
          subst h1; subst h2; subst h3
          exact hp
    | cond co a' b' =>
      cases c <;> simp only [chkC, Bool.false_eq_true, Bool.and_eq_true] at hc
      obtain ⟨⟨hco, hca⟩, hcb⟩ := hc
      simp only [keeps, Bool.and_eq_true] at hk
      simp only [evC] at hev
      have hr := he.opd hco
      split at hev
      · rename_i t ht
        rw [ht] at hr
        refine wp_cond hr.bool_inv ?_
        cases t
        · exact IH' _ _ w g h e a x e' h' hcb hk.2 (by simpa using hev) H he hn hd
        · exact IH' _ _ w g h e a x e' h' hca hk.1 (by simpa using hev) H he hn hd
      · cases hev
    | block id b =>
      cases c <;> simp only [chkC, Bool.false_eq_true, Bool.and_eq_true, beq_iff_eq] at hc
      obtain ⟨rfl, hcb⟩ := hc
      simp only [evC] at hev
      obtain ⟨⟨x1, e1, h1⟩, hx, hev⟩ := Option.bind_eq_some_iff.1 hev
      exact wp_block (wp_mono (IH' _ _ w g h e a x1 e1 h1 hcb (by simpa [keeps] using hk) hx H he hn hd) fun ex a1 w1 hp => hp.exit_block (y := (x, e', h')) hev)
    | loop b =>
      cases c <;> simp only [chkC, Bool.false_eq_true] at hc
      rename_i cb
      have key : ∀ k, k ≤ n + 1 → ∀ (w : World) (g : Gh) (h : Hp) (e : Nat → AV) (a : Act) (Q : Exit → Act → World → Prop), evC S k (.loop b) e h = some (x, e', h') → HR B h g w → ER B w g e a →
          a.tmps.size = nt → a.defers = dd → (∀ ex a' w', CPost B w g nt K dd e x e' h' ex a' w' → Q ex a' w') → Code.rounds P cb Q k a w := by
        intro k
        induction k with
        | zero => intro _ w g h e a Q hev; simp [evC] at hev
        | succ k ihk =>
          intro hk' w g h e a Q hev H he hn hd hQ
          simp only [evC] at hev
          obtain ⟨⟨x1, e1, h1⟩, hx, hev⟩ := Option.bind_eq_some_iff.1 hev
          rw [rounds_succ]
          refine wp_mono (IH0 k (by omega) (fun q hq => hcalls q (by omega)) cb b w g h e a x1 e1 h1 hc (by simpa [keeps] using hk) hx H he hn hd) fun ex a1 w1 hp => hp.then' (fun hx1 g1 p1 p2 p3 p4 p5 => ?_) (fun hx1 hp => ?_)
          · subst hx1
            exact ihk (by omega) w1 g1 h1 e1 a1 Q hev p1 p4 p5 p3 fun ex a2 w2 hp => hQ _ _ _ ((hp.from p2).env (evC_keeps k _ _ _ _ _ _ (by simpa [keeps] using hk) hx))
          · cases x1 <;> first | exact absurd rfl hx1 | skip
            all_goals
              injection hev with hev; injection hev with h1 h2; injection h2 with h2 h3
              subst h1; subst h2; subst h3
              exact hQ _ _ _ hp
      exact wp_loop_rounds (n + 1) (key (n + 1) (Nat.le_refl _) w g h e a _ hev H he hn hd fun _ _ _ hp => hp)

theorem env0_ER {args : List AV} {vals : List Value} (hr : RL B w g args vals) (k : Nat) : ER B w g (env0 args) { tmps := vals.toArray ++ Array.replicate k undef, defers := [] } := by
  intro t
  have hlen := hr.len
  unfold env0
  rw [Array.getD_eq_getD_getElem?]
  by_cases ht : t < args.length
  · have h1 : args.getD t undefA = args[t] := by simp [List.getD, ht]
    rw [h1, Array.getElem?_append_left (by simpa using hlen ▸ ht)]
    exact hr.at_ t _ _ (List.getElem?_eq_getElem ht) (by simp [hlen ▸ ht])
  · have h1 : args.getD t undefA = undefA := by simp [List.getD, Nat.le_of_not_lt ht]
    rw [h1, Array.getElem?_append_right (by simp; omega), Array.getElem?_replicate]
    split <;> exact undef_R

end
end Go.Ab
