/- Functions that defer a closure which asks for the panic. -/
import Derived.Test.YtjeffeobdpganaaGreatDoorAbOk
import Derived.Recover
set_option linter.unusedSimpArgs false
set_option linter.unusedVariables false
namespace Go.Ab
open Go.RowKit (Below)
section
variable {P : Program} {B nt : Nat} {w : World} {g : Gh} {h : Hp} {K : Nat → Bool} {dd : List Deferred} {e0 : Nat → AV}

theorem owpS {o : Oper} {a : Act} {N : Act → World → Prop} {Q : Exit → Act → World → Prop} (hw : o.wp P a w N Q) {X : World → Prop} :
    (match (execOp a.eval o).run P w with
      | .ok .recover w' => X w'
      | r => o.upon P a N Q r) := by
  unfold Oper.wp at hw
  split
  · rename_i w' hr
    rw [hr] at hw
    exact hw.elim
  · exact hw

theorem ops_wpS {call : CallO} (hok : CallOk P call) {ops : Array Oper} {cs : List Frame} {Q : Exit → Act → List Frame → World → Prop} : ∀ (os : List Oper) (is : List MI) (k : Nat) (w : World) (g : Gh) (h : Hp) (e : Nat → AV) (a : Act)
    (x : AEx) (e' : Nat → AV) (h' : Hp), (∀ j, os[j]? = ops[k + j]?) → chkIs P nt ops os is = true → evops call is e h = some (x, e', h') → HR B h g w → ER B w g e a → a.tmps.size = nt → a.defers = dd →
    (∀ ex a' w', CPost B w g nt (fun _ => false) dd e x e' h' ex a' w' → Q ex a' cs w') → wpOpsS P ops Q (List.range' k os.length) a cs w
  | [], [], k, w, g, h, e, a, x, e', h', _, _, hev, H, he, hn, hd, hQ => by
    simp only [evops] at hev
    injection hev with hev
    injection hev with h1 h2
    injection h2 with h2 h3
    subst h1
    subst h2
    subst h3
    exact hQ _ _ _ ⟨g, H, Step.refl _ _ _, hd, he, hn⟩
  | o :: os, i :: is, k, w, g, h, e, a, x, e', h', hl, hc, hev, H, he, hn, hd, hQ => by
    simp only [chkIs, Bool.and_eq_true] at hc
    obtain ⟨hci, hcs⟩ := hc
    obtain ⟨hdst, hlt, hg, hm⟩ := chkI_parts hci
    simp only [evops] at hev
    obtain ⟨⟨x1, e1, h1⟩, hs, hev⟩ := Option.bind_eq_some_iff.1 hev
    have h0 : ops[k]? = some o := by simpa using (hl 0).symm
    have hl' : ∀ j, os[j]? = ops[k + 1 + j]? := fun j => by
      have := hl (j + 1)
      rw [show k + 1 + j = k + (j + 1) by omega]
      simpa using this
    simp only [List.length_cons, List.range'_succ, wpOpsS, h0]
    rw [wanted_grd hg he hn]
    unfold stp at hs
    split at hs
    · rename_i hgr
      rw [if_pos hgr]
      obtain ⟨⟨r, h2⟩, hop, hb⟩ := Option.map_eq_some_iff.1 hs
      refine owpS (opv_wp hok hm H he hop (fun v val w' g' hr hR hH hS => ?_) (fun v val w' g' hr hR hH hS => ?_))
      · subst hr
        simp only [back] at hb
        injection hb with hb1 hb2
        injection hb2 with hb2 hb3
        subst hb1
        subst hb2
        subst hb3
        rw [hdst]
        rw [hdst] at hlt
        obtain ⟨p1, p2, p3⟩ := (he.step hS).put hn hlt hR
        exact ops_wpS hok os is (k + 1) w' g' _ _ _ x e' h' hl' hcs hev hH p1 p2 (p3.trans hd) fun ex a' w'' hp => hQ _ _ _ ((hp.from hS).env (fun t ht => by cases ht))
      · subst hr
        simp only [back] at hb
        injection hb with hb1 hb2
        injection hb2 with hb2 hb3
        subst hb1
        subst hb2
        subst hb3
        dsimp only at hev
        injection hev with hev
        injection hev with h3 h4
        injection h4 with h4 h5
        subst h3
        subst h4
        subst h5
        exact hQ _ _ _ ⟨g', hH, hS, hd, ⟨val, rfl, hR⟩, fun t ht => by cases ht⟩
    · rename_i hgr
      rw [if_neg hgr]
      injection hs with hs
      injection hs with hs1 hs2
      injection hs2 with hs2 hs3
      subst hs1
      subst hs2
      subst hs3
      rw [hdst]
      rw [hdst] at hlt
      obtain ⟨p1, p2, p3⟩ := he.put hn hlt undef_R
      exact ops_wpS hok os is (k + 1) w g _ _ _ x e' h' hl' hcs hev H p1 p2 (p3.trans hd) fun ex a' w'' hp => hQ _ _ _ (hp.env (fun t ht => by cases ht))
  | [], _ :: _, _, _, _, _, _, _, _, _, _, _, hc, _, _, _, _, _, _ => by cases hc
  | _ :: _, [], _, _, _, _, _, _, _, _, _, _, hc, _, _, _, _, _, _ => by cases hc

/-- The deferred closure, with the panic that it finds, or without one. -/
theorem hand_ok {S : Sys} {n : Nat} (hok : ∀ k, k ≤ n → CallOk P (evF S k)) {hm : HFn} (hc : chkH P hm = true) {cl : List AV} {vals : List Value} {rv : AV} {h4 : Hp} (hcl : RL B w g cl vals) (H : HR B h g w)
    (hev : hand (evC S n) (evF S n) hm cl rv h = some h4) {u u' : FrameMode} {val : Value} (hrv : R B w g rv val)
    (hu : (u = .panicking [{ v := val, recovered := false }] ∧ u' = .panicking [{ v := val, recovered := true }]) ∨ (u = .returning ∧ u' = .returning ∧ val = .nilIface)) :
    (∃ fn, P.funcs[hm.f]? = some fn ∧ fn.name ≠ "runtime.NumGoroutine" ∧ fn.body.isSome = true) ∧
    CallsD P hm.f vals.toArray u w fun
      | .returned _, u2, w' => u2 = u' ∧ ∃ g', HR B h4 g' w' ∧ Step B w g w' g'
      | _, _, _ => False := by
  unfold chkH at hc
  split at hc
  · cases hc
  · rename_i fn hfn
    simp only [Bool.and_eq_true, beq_iff_eq, decide_eq_true_eq, bne_iff_ne, ne_eq, Array.isEmpty_iff] at hc
    obtain ⟨⟨⟨⟨hnt, hnp⟩, hres⟩, hnm⟩, hbody⟩ := hc
    split at hbody
    · rename_i id ops c hb
      simp only [Bool.and_eq_true] at hbody
      obtain ⟨hops, hrest⟩ := hbody
      split at hops
      · rename_i o os hol
        simp only [Bool.and_eq_true, beq_iff_eq, decide_eq_true_eq, Option.isNone_iff_eq_none] at hops
        obtain ⟨⟨⟨⟨hrec, hgn⟩, hdst⟩, hrt⟩, hcs⟩ := hops
        refine ⟨⟨fn, hfn, hnm, by rw [hb]; rfl⟩, callsD_of_wpS hfn hb fun c₀ cs hc₀ => ?_⟩
        unfold hand at hev
        obtain ⟨hlen, hev⟩ := ite_opt hev
        obtain ⟨⟨x1, e1, h1⟩, hx1, hev⟩ := Option.bind_eq_some_iff.1 hev
        have hsz : vals.length = hm.np := by rw [← hcl.len]; exact hlen
        -- what it asks for
        have hrun : ∀ (a : Act) (w : World), (execOp a.eval o).run P w = .ok .recover w := by
          intro a w
          split at hrec
          · rename_i q hop
            split at hrec
            · rename_i hcal
              unfold execOp
              rw [hop]
              exact builtin_run hcal
            · cases hrec
          · cases hrec
        have hrD : ∃ cs', (match recoverD (c₀ :: cs) with
            | some (v, cs') => (v, cs')
            | none => (.nilIface, c₀ :: cs)) = (val, cs') ∧ cs' = { c₀ with mode := u' } :: cs := by
          rcases hu with ⟨rfl, rfl⟩ | ⟨rfl, rfl, rfl⟩
          · exact ⟨_, by simp only [recoverD, hc₀], rfl⟩
          · exact ⟨c₀ :: cs, by simp only [recoverD, hc₀], by rw [← hc₀]⟩
        obtain ⟨cs', hrD, hcs'⟩ := hrD
        refine wpS_seq (wpS_region ?_)
        have hsize : ops.size = os.length + 1 := by rw [← Array.length_toList, hol]; rfl
        have h0 : ops[0]? = some o := by rw [← Array.getElem?_toList, hol]; rfl
        rw [List.range_eq_range', hsize, List.range'_succ]
        simp only [wpOpsS, h0]
        rw [if_pos (by simp [Region.wanted, hgn])]
        rw [hrun]
        dsimp only
        have hgoal : wpOpsS P ops (Exit.thenS (Code.wpS P c (bodyPostS P fn c₀ cs fun
            | .returned _, u2, w' => u2 = u' ∧ ∃ g', HR B h4 g' w' ∧ Step B w g w' g'
            | _, _, _ => False)) (bodyPostS P fn c₀ cs fun
            | .returned _, u2, w' => u2 = u' ∧ ∃ g', HR B h4 g' w' ∧ Step B w g w' g'
            | _, _, _ => False)) (List.range' (0 + 1) os.length) (Act.put { tmps := vals.toArray ++ Array.replicate (fn.ntmps - vals.toArray.size) undef, defers := [] } o.dst val) cs' w := by
          have hsz0 : ({ tmps := vals.toArray ++ Array.replicate (fn.ntmps - vals.toArray.size) undef, defers := [] } : Act).tmps.size = hm.nt := by simp [hsz, hnt]; omega
          obtain ⟨p1, p2, p3⟩ := (env0_ER hcl (fn.ntmps - vals.toArray.size)).put hsz0 (d := some hm.rt) (fun t ht => by injection ht with ht; omega) hrv
          rw [hdst]
          refine ops_wpS (hok n (Nat.le_refl _)) os hm.ops 1 w g h _ _ x1 e1 h1 (fun j => ?_) hcs hx1 H p1 p2 p3 fun ex a1 w1 hp => ?_
          · rw [← Array.getElem?_toList, hol, Nat.add_comm]
            rfl
          · obtain ⟨g1, q1, q2, q3, q4⟩ := hp
            cases x1 with
            | norm =>
              cases ex <;> simp only at q4
              simp only [Exit.thenS]
              dsimp only at hev
              obtain ⟨⟨x2, e2, h2⟩, hx2, hev⟩ := Option.bind_eq_some_iff.1 hev
              refine wpS_of_wp (wp_mono (code_ok (K := fun _ => false) n (fun k hk => hok k (by omega)) c hm.rest w1 g1 h1 e1 a1 x2 e2 h2 hrest (keeps_none _) hx2 q1 q4.1 q4.2 q3) fun ex a2 w2 hp => ?_)
              obtain ⟨g2, r1, r2, r3, r4⟩ := hp
              obtain ⟨rv2, hres', _⟩ := results_run (P := P) (fn := fn) (a := a2) (e := e2) (vs := []) (xs := []) r1 (fun t ht => by simp [rreads] at ht) (by rw [hres]; rfl) rfl
              cases x2 with
              | norm =>
                cases ex <;> simp only at r4
                injection hev with hev
                subst hev
                exact ⟨r3, u', hcs', _, hres', rfl, g2, r1, q2.trans r2⟩
              | ret =>
                cases ex <;> simp only at r4
                injection hev with hev
                subst hev
                exact ⟨r3, u', hcs', _, hres', rfl, g2, r1, q2.trans r2⟩
              | exit id => cases hev
              | pan v => cases hev
            | exit id => cases hev
            | ret => cases hev
            | pan v => cases hev
        split
        · rename_i v cs2 hr2
          rw [hr2] at hrD
          injection hrD with hv hcs2
          rw [hv, hcs2]
          exact hgoal
        · rename_i hr2
          rw [hr2] at hrD
          injection hrD with hv hcs2
          rw [hv, hcs2]
          exact hgoal
      · cases hops
    · cases hbody
/-- A function that defers one closure. -/
theorem df_ok {S : Sys} (n : Nat) (hok : ∀ k, k < n + 1 → CallOk P (evF S k)) {f : FuncId} {fn : Func} (hfn : P.funcs[f]? = some fn) {d : DFn} (hc : chkDf P fn d = true) {args : List AV} {r : AEnd} {h' : Hp}
    (hev : dbody (evC S n) (evF S n) d args h = some (r, h')) {vals : List Value} (hr : RL B w g args vals) (H : HR B h g w) : Does P f vals w (Post B w g r h') := by
  simp only [chkDf, Bool.and_eq_true, beq_iff_eq, decide_eq_true_eq, bne_iff_ne, ne_eq] at hc
  obtain ⟨⟨⟨⟨⟨⟨⟨⟨hnt, hnp⟩, hres⟩, hnm⟩, hch⟩, hdt⟩, hdr⟩, hkeep⟩, hbody⟩ := hc
  split at hbody
  · rename_i p1 p2 id ops rest hcb
    simp only [Bool.and_eq_true] at hbody
    obtain ⟨⟨⟨hc1, hc2⟩, hc3⟩, hops⟩ := hbody
    split at hops
    · rename_i o1 o2 hol
      simp only [Bool.and_eq_true, beq_iff_eq, Option.isNone_iff_eq_none] at hops
      obtain ⟨⟨⟨⟨hg1, hg2⟩, hd1⟩, hd2⟩, hops⟩ := hops
      split at hops
      · rename_i f2 fa cap q ho1 ho2
        simp only [Bool.and_eq_true, beq_iff_eq, Array.isEmpty_iff] at hops
        obtain ⟨⟨⟨⟨rfl, rfl⟩, hcap⟩, hqa⟩, hqc⟩ := hops
        split at hqc
        · rename_i t hcal
          have ht : t = d.t := by simpa using hqc
          subst ht
          unfold dbody at hev
          obtain ⟨hl, hev⟩ := ite_opt hev
          obtain ⟨⟨x1, e1, h1⟩, hx1, hev⟩ := Option.bind_eq_some_iff.1 hev
          have hsz : vals.length = d.np := by rw [← hr.len]; exact hl
          refine .inl ⟨fn, hfn, hnm, by rw [hcb]; rfl, calls_of_wp_defers hfn hcb ?_⟩
          have hok' : ∀ k, k < n → CallOk P (evF S k) := fun k hk => hok k (by omega)
          refine wp_seq (wp_mono (code_ok (nt := d.nt) (K := fun _ => false) n hok' p1 d.pre1 w g h (env0 args) _ x1 e1 h1 hc1 (keeps_none _) hx1 H (env0_ER hr _) (by simp [hsz, hnt]; omega) rfl) fun ex a1 w1 hp => ?_)
          obtain ⟨g1, q1, q2, q3, q4⟩ := hp
          simp only [dbeg] at hev
          cases x1 <;> simp only at hev <;> try cases hev
          cases ex <;> simp only at q4
          simp only [Exit.then]
          obtain ⟨⟨x2, e2, h2⟩, hx2, hev⟩ := Option.bind_eq_some_iff.1 hev
          refine wp_seq (wp_mono (code_ok (nt := d.nt) (K := fun _ => false) n hok' p2 d.pre2 w1 g1 h1 e1 a1 x2 e2 h2 hc2 (keeps_none _) hx2 q1 q4.1 q4.2 q3) fun ex a2 w2 hp => ?_)
          obtain ⟨g2, r1, r2, r3, r4⟩ := hp
          -- the end without a panic, and results
          have fin : ∀ (e3 : Nat → AV) (a3 : Act) (w3 : World) (g3 : Gh) (h3 : Hp), HR B h3 g3 w3 → Step B w g w3 g3 → (∀ t ∈ rreads d.res, R B w3 g3 (e3 t) (a3.tmps.getD t undef)) → dfin d h e3 h3 = some (r, h') →
              ∃ v, (results fn a3.tmps).run P w3 = .ok v w3 ∧ Post B w g r h' (.returned v) w3 := by
            intro e3 a3 w3 g3 h3 s1 s2 s3 s4
            unfold dfin at s4
            obtain ⟨xs, hxs, hgc⟩ := Option.bind_eq_some_iff.1 s4
            obtain ⟨val, hrun, hR⟩ := results_run s1 s3 hres hxs
            obtain ⟨g4, t1, t2, t3, t4⟩ := gc_ok H s1 s2 (r := .ret (one1 xs)) hR hgc
            rcases t4 with ⟨a5, b5, _, rfl⟩ | ⟨a5, b5, hq, _⟩
            · exact ⟨val, hrun, b5, g4, rfl, t3, t1, t2⟩
            · cases hq
          simp only [dmid] at hev
          cases x2 <;> simp only at hev <;> try cases hev
          · cases ex <;> simp only at r4
            simp only [Exit.then]
            obtain ⟨r4, r5⟩ := r4
            obtain ⟨⟨x3, e3, h3⟩, hx3, hev⟩ := Option.bind_eq_some_iff.1 hev
            refine wp_seq (wp_region_list ?_)
            rw [hol]
            have hcl := r4.opds hcap
            have hmap : cap.map a2.eval = (cap.toList.map a2.eval).toArray := by apply Array.ext'; simp
            have hrun1 : (execOp a2.eval o1).run P w2 = .ok (.value (.func (.func d.h.f) #[] (cap.toList.map a2.eval).toArray)) w2 := by
              unfold execOp
              rw [ho1]
              simp [Instr.makeFunc, hmap]
            unfold wpList
            rw [if_pos (by simp [Region.wanted, hg1])]
            refine .inl ?_
            unfold Oper.wp
            rw [hrun1, Oper.upon_value, hd1]
            obtain ⟨u1, u2, u3⟩ := r4.put r5 (d := some d.t) (v := .fn d.h.f (d.cap.map (Opd.ev e2))) (fun t ht => by injection ht with ht; omega) (.fn _ _ _ hcl.len hcl.at_)
            unfold wpList
            rw [if_pos (by simp [Region.wanted, hg2])]
            refine .inl ?_
            have htv : (a2.put (some d.t) (.func (.func d.h.f) #[] (cap.toList.map a2.eval).toArray)).eval (.tmp d.t) = .func (.func d.h.f) #[] (cap.toList.map a2.eval).toArray := by
              show (a2.put (some d.t) _).tmps.getD d.t undef = _
              exact put_same_tmp (by omega)
            have hrun2 : (execOp (a2.put (some d.t) (.func (.func d.h.f) #[] (cap.toList.map a2.eval).toArray)).eval o2).run P w2 =
                .ok (.defer { target := .fn (.func d.h.f) (cap.toList.map a2.eval).toArray, args := #[] }) w2 := by
              unfold execOp
              rw [ho2]
              simp only [resolve, hcal, htv, Deferred.ofValue, Sem.run_bind, Sem.run_pure, Result.andThen_ok]
              simp [hqa]
            unfold Oper.wp
            rw [hrun2, Oper.upon_defer, hd2]
            refine wpList_nil ?_
            simp only [Exit.then]
            have hfr : (a2.put (some d.t) (.func (.func d.h.f) #[] (cap.toList.map a2.eval).toArray)).defers = [] := by rw [u3]; exact r3
            rw [hfr]
            have hin : ∀ (w3 : World) {hm : FuncId} (_ : ∃ fn, P.funcs[hm]? = some fn ∧ fn.name ≠ "runtime.NumGoroutine" ∧ fn.body.isSome = true),
                (invoke (.fn (.func hm) (cap.toList.map a2.eval).toArray) #[]).run P w3 = .ok (.enter hm (cap.toList.map a2.eval).toArray) w3 := by
              rintro w3 hm ⟨fn', hf', hn', hb'⟩
              have hb2 : fn'.body ≠ none := fun e => by rw [e] at hb'; cases hb'
              simp [invoke, callFunc, hf', hn', hb2]
            refine wp_mono (code_ok (nt := d.nt) (K := inRes d.res) (dd := [{ target := .fn (.func d.h.f) (cap.toList.map a2.eval).toArray, args := #[] }]) n hok' rest d.rest w2 g2 h2 (upd e2 d.t (.fn d.h.f (d.cap.map (Opd.ev e2)))) _ x3 e3 h3 hc3 hkeep hx3 r1 u1 u2 rfl) fun ex a4 w4 hp => ?_
            obtain ⟨g4, v1, v2, v3, v4⟩ := hp
            have hS : Step B w g w4 g4 := (q2.trans r2).trans v2
            -- behind the deferred closure
            have behind : ∀ (u u' : FrameMode) (rv : AV) (val : Value) (eR : Nat → AV), R B w4 g4 rv val → ((u = .panicking [{ v := val, recovered := false }] ∧ u' = .panicking [{ v := val, recovered := true }]) ∨ (u = .returning ∧ u' = .returning ∧ val = .nilIface)) →
                (∀ t ∈ rreads d.res, R B w4 g4 (eR t) (a4.tmps.getD t undef)) → ((hand (evC S n) (evF S n) d.h (d.cap.map (Opd.ev e2)) rv h3).bind fun h4 => dfin d h eR h4) = some (r, h') →
                Leaves P fn a4.tmps (Post B w g r h') a4.defers u w4 := by
              intro u u' rv val eR hrv hu hRes hh
              obtain ⟨h4, hh4, hfin⟩ := Option.bind_eq_some_iff.1 hh
              obtain ⟨hex, hcalls⟩ := hand_ok (n := n) (fun k hk => hok k (by omega)) hch ((hcl.step v2)) v1 hh4 hrv hu
              rw [v3]
              refine leaves_cons ?_ (hin w4 hex) (hcalls.mono fun e5 u5 w5 hp5 => ?_)
              · rcases hu with ⟨rfl, _⟩ | ⟨rfl, _⟩ <;> simp
              · cases e5 with
                | returned v5 =>
                  obtain ⟨rfl, g5, y1, y2⟩ := hp5
                  have hset : settle u5 = .returning := by
                    rcases hu with ⟨_, rfl⟩ | ⟨_, rfl, _⟩ <;> rfl
                  simp only [hset]
                  exact fin eR a4 w5 g5 h4 y1 (hS.trans y2) (fun t ht => (hRes t ht).step y2) hfin
                | panicked c5 => exact hp5.elim
                | outgrown => exact hp5.elim
            simp only [dlast] at hev
            cases x3 with
            | norm =>
              cases ex <;> simp only at v4
              exact behind _ _ .nili .nilIface e3 .nili (.inr ⟨rfl, rfl, rfl⟩) (fun t _ => v4.1 t) hev
            | ret =>
              cases ex <;> simp only at v4
              exact behind _ _ .nili .nilIface e3 .nili (.inr ⟨rfl, rfl, rfl⟩) (fun t _ => v4.1 t) hev
            | exit id => cases hev
            | pan v =>
              cases ex <;> simp only at v4
              obtain ⟨⟨val, rfl, hRv⟩, hK⟩ := v4
              exact behind _ _ v val _ hRv (.inl ⟨rfl, rfl⟩) (fun t ht => hK t (by simpa [inRes] using ht)) hev
          · cases ex <;> simp only at r4
            simp only [Exit.then, bodyPostD]
            rw [r3]
            exact fin e2 a2 w2 g2 h2 r1 (q2.trans r2) (fun t _ => r4.1 t) hev
        · cases hqc
      · cases hops
    · cases hops
  · cases hbody
end
end Go.Ab
