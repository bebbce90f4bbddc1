/- The abstract machine is sound: what it answers, the translated program answers. -/
import Derived.Test.YtjeffeobdpganaaGreatDoorAbDfn
import Derived.Test.YtjeffeobdpganaaGreatDoorAbLim
set_option linter.unusedSimpArgs false
set_option linter.unusedVariables false
namespace Go.Ab
open Go.RowKit (Below)
section
variable {P : Program} {B nt : Nat} {w : World} {g : Gh} {h : Hp} {K : Nat → Bool} {e0 : Nat → AV}

/-- The functions' texts, and those whose contracts are given. -/
structure Fits (P : Program) (S : Sys) : Prop where
  dfn : ∀ f d, S.prim f = none → S.dfn f = some d → ∃ fn, P.funcs[f]? = some fn ∧ chkDf P fn d = true
  fn : ∀ f m, S.prim f = none → S.dfn f = none → S.fn f = some m → ∃ fn, P.funcs[f]? = some fn ∧ chkF P fn m = true
  prim : ∀ f p, S.prim f = some p → ∀ args h r h', p args h = some (r, h') → ∀ B w g vals, RL B w g args vals → HR B h g w → Does P f vals w (Post B w g r h')

theorem fun_ok {S : Sys} (F : Fits P S) : ∀ n, CallOk P (evF S n) := by
  intro n
  induction n using Nat.strongRecOn with
  | _ n0 IH =>
    intro f args h r h' hev B w g vals hr H
    cases n0 with
    | zero => simp [evF] at hev
    | succ n =>
    rw [evF] at hev
    split at hev
    · rename_i p hp
      exact F.prim f p hp args h r h' hev B w g vals hr H
    · rename_i hp
      split at hev
      · rename_i d hd
        obtain ⟨fn, hfn, hc⟩ := F.dfn f d hp hd
        exact df_ok n (fun k hk => IH k (by omega)) hfn hc hev hr H
      · rename_i hnd
        split at hev
        · cases hev
        rename_i m hm
        obtain ⟨fn, hfn, hc⟩ := F.fn f m hp hnd hm
        obtain ⟨hl, hev⟩ := ite_opt hev
        simp only [chkF, Bool.and_eq_true, beq_iff_eq, decide_eq_true_eq, bne_iff_ne, ne_eq] at hc
        obtain ⟨⟨⟨⟨hnt, hnp⟩, hres⟩, hnm⟩, hbody⟩ := hc
        split at hbody
        · rename_i c hcb
          obtain ⟨⟨x, e1, h1⟩, hx, hev⟩ := Option.bind_eq_some_iff.1 hev
          refine .inl ⟨fn, hfn, hnm, by rw [hcb]; rfl, calls_of_wp hfn hcb ?_⟩
          have hsz : vals.length = m.np := by rw [← hr.len]; exact hl
          refine wp_mono (code_ok (nt := m.nt) (K := fun _ => false) n (fun k hk => IH k (by omega)) c m.body w g h (env0 args) _ x e1 h1 hbody (keeps_none _) hx H (env0_ER hr _) (by simp [hsz, hnt]; omega) rfl) fun ex a1 w1 hp => ?_
          obtain ⟨g1, p1, p2, p3, p4⟩ := hp
          cases x with
          | exit id => cases hev
          | norm =>
            cases ex <;> simp only at p4
            obtain ⟨xs, hxs, hgc⟩ := Option.bind_eq_some_iff.1 hev
            obtain ⟨val, hrun, hR⟩ := results_run p1 (fun t _ => p4.1 t) hres hxs
            obtain ⟨g2, q1, q2, q3, q4⟩ := gc_ok H p1 p2 (r := .ret (one1 xs)) hR hgc
            rcases q4 with ⟨a2, b2, _, rfl⟩ | ⟨a2, b2, hq, _⟩
            · exact ⟨p3, val, hrun, b2, g2, rfl, q3, q1, q2⟩
            · cases hq
          | ret =>
            cases ex <;> simp only at p4
            obtain ⟨xs, hxs, hgc⟩ := Option.bind_eq_some_iff.1 hev
            obtain ⟨val, hrun, hR⟩ := results_run p1 (fun t _ => p4.1 t) hres hxs
            obtain ⟨g2, q1, q2, q3, q4⟩ := gc_ok H p1 p2 (r := .ret (one1 xs)) hR hgc
            rcases q4 with ⟨a2, b2, _, rfl⟩ | ⟨a2, b2, hq, _⟩
            · exact ⟨p3, val, hrun, b2, g2, rfl, q3, q1, q2⟩
            · cases hq
          | pan v =>
            cases ex <;> simp only at p4
            obtain ⟨⟨val, rfl, hR⟩, _⟩ := p4
            obtain ⟨g2, q1, q2, q3, q4⟩ := gc_ok H p1 p2 (r := .pan v) hR hev
            rcases q4 with ⟨a2, b2, hq, _⟩ | ⟨a2, b2, _, rfl⟩
            · cases hq
            · exact ⟨p3, b2, val, g2, rfl, rfl, q3, q1, q2⟩
        · cases hbody

/-- What the abstract machine answers, with as many rounds as are needed, the program answers. -/
theorem EF_ok {S : Sys} (F : Fits P S) : CallOk P (EF S) := by
  intro f args h r h' hev
  obtain ⟨n, hn⟩ := (lim_some (evF_up S f args h)).1 hev
  exact fun B w g vals hr H => fun_ok F n f args h r h' hn B w g vals hr H
end
end Go.Ab
