/- A function's end, second part. -/
import Derived.Test.YtjeffeobdpganaaGreatDoorAbGc
set_option linter.unusedSimpArgs false
set_option linter.unusedVariables false
namespace Go.Ab
open Go.RowKit (Below)
section
variable {P : Program} {B : Nat} {w : World} {g : Gh} {h : Hp} {nt : Nat}

/-- The arrays from na on are only read. -/
def Gh.ro (g : Gh) (na : Nat) : Gh := ⟨g.bb, g.ab, fun k o => g.pr k o ∨ ∃ a G, na ≤ a ∧ g.ab[a]? = some G ∧ G.k = k⟩
def Gh.cut (g : Gh) (nb na : Nat) : Gh := ⟨g.bb.take nb, g.ab.take na, (g.ro na).pr⟩
theorem mono_ro (w : World) (g : Gh) (na : Nat) : Mono w g w (g.ro na) :=
  ⟨fun _ _ h => h, fun _ G h => ⟨G, h, Nat.le_refl _, fun _ => rfl⟩, fun _ _ h => Or.inl h, fun _ _ _ _ h => h⟩
theorem R.ro {na : Nat} {x : AV} {v : Value} (h : R B w g x v) : R B w (g.ro na) x v := R.mono (mono_ro w g na) h
theorem R.cut' {nb na : Nat} {x : AV} {v : Value} (h : R B w (g.ro na) x v) (hok : x.ok nb na = true) : R B w (g.cut nb na) x v :=
  R.cut (g := g.ro na) (g' := g.cut nb na) (fun b k hb hk => by simp only [Gh.cut]; rw [List.getElem?_take, if_pos hb]; exact hk) (fun a G ha hG => by simp only [Gh.cut]; rw [List.getElem?_take, if_pos ha]; exact hG) (fun _ _ h => h) h hok

theorem RL.cut' {nb na : Nat} {xs : List AV} {vs : List Value} (h : RL B w g xs vs) (hok : ∀ x ∈ xs, x.ok nb na = true) : RL B w (g.cut nb na) xs vs :=
  ⟨h.len, fun i x v hx hv => (h.at_ i x v hx hv).ro.cut' (hok x (List.mem_of_getElem? hx))⟩
theorem okL_mem {nb na : Nat} {l : List AV} (h : AV.okL nb na l = true) : ∀ x ∈ l, x.ok nb na = true := fun x hx => by
  obtain ⟨i, hi⟩ := List.getElem?_of_mem hx
  exact okL_at h hi
theorem take_mem {α : Type} {l : List α} {n : Nat} {x : α} (h : x ∈ l.take n) : ∃ i, i < n ∧ l[i]? = some x := by
  obtain ⟨i, hi⟩ := List.getElem?_of_mem h
  rw [List.getElem?_take] at hi
  split at hi
  · exact ⟨i, by assumption, hi⟩
  · cases hi

theorem cut_ok {w1 : World} {g1 : Gh} {h1 : Hp} (H : HR B h g w) (H1 : HR B h1 g1 w1) (hs : Step B w g w1 g1) {nb na : Nat} (hnb : h.nb ≤ nb) (hna : h.na ≤ na)
    (hok : (h1.tr nb na).okb nb na = true) : HR B (h1.tr nb na) (g1.cut nb na) w1 ∧ Step B w g w1 (g1.cut nb na) := by
  simp only [Hp.okb, Bool.and_eq_true, List.all_eq_true, Hp.tr] at hok
  obtain ⟨hob, hoa⟩ := hok
  have hdrop : ∀ a G k, na ≤ a → g1.ab[a]? = some G → G.k = k → k ∉ (g1.bb.take nb) ++ (g1.ab.take na).map (·.k) := by
    rintro a G k ha hG rfl hk
    rcases List.mem_append.1 hk with hk | hk
    · obtain ⟨b, _, hb⟩ := take_mem hk
      exact bb_ab H1 hb hG rfl
    · obtain ⟨G', hG', he⟩ := List.mem_map.1 hk
      obtain ⟨a', ha', hG''⟩ := take_mem hG'
      have := ab_inj H1 hG'' hG he
      omega
  have hsub : ∀ k, k ∈ (g1.bb.take nb) ++ (g1.ab.take na).map (·.k) → k ∈ g1.bb ++ g1.ab.map (·.k) := by
    intro k hk
    rcases List.mem_append.1 hk with hk | hk
    · exact List.mem_append_left _ (List.mem_of_mem_take hk)
    · obtain ⟨G', hG', he⟩ := List.mem_map.1 hk
      exact List.mem_append_right _ (List.mem_map.2 ⟨G', List.mem_of_mem_take hG', he⟩)
  constructor
  · refine ⟨by simp [Hp.tr, Gh.cut, H1.lb], by simp [Hp.tr, Gh.cut, H1.la], fun b x k hx hk => ?_, fun a A G hA hG => ?_, ?_, fun k hk => H1.low k (hsub k hk), ?_, ?_, H1.sz⟩
    · simp only [Hp.tr] at hx
      simp only [Gh.cut] at hk
      rw [List.getElem?_take] at hk
      split at hk
      · rename_i hlt
        have hmem := List.mem_of_getElem? hx
        have hxo := hob x hmem
        rw [List.getElem?_take, if_pos hlt] at hx
        have hbr := H1.box b x k hx hk
        cases x with
        | cells t cs =>
          obtain ⟨vs, h2, h3, h4⟩ := hbr
          exact ⟨vs, h2, h3.cut' (okL_mem hxo), h4⟩
        | map es =>
          obtain ⟨es', ents, c, h2, h3, h4, h5, h6⟩ := hbr
          simp only [Box.ok, List.all_eq_true, Bool.and_eq_true] at hxo
          refine ⟨es', ents, c, h2, h3.cut' fun x hx => ?_, h4.cut' fun x hx => ?_, h5, h6⟩
          · obtain ⟨p, hp, rfl⟩ := List.mem_map.1 hx
            exact (hxo p (h5.mem_iff.1 hp)).1
          · obtain ⟨p, hp, rfl⟩ := List.mem_map.1 hx
            exact (hxo p (h5.mem_iff.1 hp)).2
        | siter s pos => exact hbr
      · cases hk
    · simp only [Hp.tr] at hA
      simp only [Gh.cut] at hG
      rw [List.getElem?_take] at hG
      split at hG
      · rename_i hlt
        have hmem := List.mem_of_getElem? hA
        have hAo := hoa A hmem
        rw [List.getElem?_take, if_pos hlt] at hA
        obtain ⟨e1, e2, e3, e4, e5, vs, z6, e6, f6, e7, e8⟩ := H1.arr a A G hA hG
        refine ⟨e1, e2, e3, e4, e5, vs, z6, e6, f6, e7, fun i c j x hi hx => ?_⟩
        obtain ⟨v, p1, p2, p3⟩ := e8 i c j x hi hx
        exact ⟨v, p1, p2.ro.cut' (okL_at (okLL_at hAo hi) hx), p3⟩
      · cases hG
    · refine List.Nodup.sublist ?_ H1.nd
      exact (List.take_sublist _ _).append ((List.take_sublist _ _).map _)
    · intro k hk o hp
      rcases hp with hp | ⟨a, G, ha, hG, he⟩
      · exact H1.npr k (hsub k hk) o hp
      · exact hdrop a G k ha hG he hk
    · intro k o hp
      rcases hp with hp | ⟨a, G, ha, hG, rfl⟩
      · exact H1.prs k o hp
      · exact H1.alt (List.mem_of_getElem? hG)
  · refine ⟨hs.below, fun b k hb => ?_, fun a G hG => ?_, fun k hk => hs.newb k (List.mem_of_mem_take hk), fun G hG => hs.newa G (List.mem_of_mem_take hG), fun k o hp => .inl (hs.pr k o hp), hs.cell, hs.rest, fun k o hp => ?_⟩
    · have hlt : b < g.bb.length := (List.getElem?_eq_some_iff.1 hb).1
      simp only [Gh.cut]
      rw [List.getElem?_take, if_pos (by rw [← H.lb] at hlt; exact Nat.lt_of_lt_of_le hlt hnb)]
      exact hs.bb b k hb
    · have hlt : a < g.ab.length := (List.getElem?_eq_some_iff.1 hG).1
      obtain ⟨G', h1, h2⟩ := hs.ab a G hG
      refine ⟨G', ?_, h2⟩
      simp only [Gh.cut]
      rw [List.getElem?_take, if_pos (by rw [← H.la] at hlt; exact Nat.lt_of_lt_of_le hlt hna)]
      exact h1
    · rcases hp with hp | ⟨a, G, ha, hG, rfl⟩
      · exact hs.newp k o hp
      · rcases hs.newa G (List.mem_of_getElem? hG) with h1 | h1
        · exact .inr (.inr (.inl h1))
        · exact .inr (.inr (.inr h1))

theorem frz1_ok (H : HR B h g w) {na : Nat} {x : AV} {v : Value} (hr : R B w g x v) : R B w (g.ro na) (frz1 h na x) v := by
  unfold frz1
  split
  · rename_i a ver lo n
    split
    · exact hr.ro
    · rename_i hlt
      split
      · rename_i es hes
        cases hr with
        | rs _ _ _ _ G ad cap hg hv had =>
        simp only [els] at hes
        split at hes
        · rename_i A hA
          split at hes
          · rename_i hc
            obtain ⟨hver, hle⟩ := hc
            injection hes with hes
            obtain ⟨e1, e2, e3, e4, e5, vs, z6, e6, f6, e7, e8⟩ := H.arr a A G hA hg
            obtain ⟨had1, had2, had3⟩ := had (by omega)
            have hlen : es.length = n := by rw [← hes]; simp; omega
            have key : R B w (g.ro na) (.vs false es) (.slice ad es.length cap) := by
              refine .vs false es ad cap G.k (lo * G.esz) A.esz (fun i j => vs.getD ((lo + i) * A.esz + j) undef) (fun _ => had1) (fun c hc => ?_) (fun i c j x hi hx => ?_) (fun i c j x hi hx => ?_) (by omega) (fun hf => by cases hf)
              · rw [← hes] at hc
                exact e5 c (List.mem_of_mem_drop (List.mem_of_mem_take hc))
              · have hi' : A.es[lo + i]? = some c := by
                  rw [← hes, List.getElem?_take] at hi
                  split at hi
                  · rw [List.getElem?_drop] at hi; exact hi
                  · cases hi
                obtain ⟨u, p1, p2, p3⟩ := e8 _ c j x hi' hx
                have e : vs.getD ((lo + i) * A.esz + j) undef = u := by simp [List.getD, p1]
                rw [e]
                refine ⟨.inr ⟨a, G, by omega, hg, rfl⟩, ?_, p3⟩
                rw [cell_of_row w G.k _ _ _ _ e6, e2]
                rw [show lo * A.esz + (i * A.esz + j) = (lo + i) * A.esz + j from by rw [Nat.add_mul]; omega]
                simpa using p1
              · have hi' : A.es[lo + i]? = some c := by
                  rw [← hes, List.getElem?_take] at hi
                  split at hi
                  · rw [List.getElem?_drop] at hi; exact hi
                  · cases hi
                obtain ⟨u, p1, p2, p3⟩ := e8 _ c j x hi' hx
                have e : vs.getD ((lo + i) * A.esz + j) undef = u := by simp [List.getD, p1]
                rw [e]
                exact p2.ro
            have := key.nrm
            rw [hlen] at this
            exact this
          · cases hes
        · cases hes
      · exact hr.ro
  · exact hr.nrm.ro

theorem frz1s_ok (H : HR B h g w) {na : Nat} {xs : List AV} {vs : List Value} (hl : xs.length = vs.length) (hr : ∀ (i : Nat) (x : AV) (v : Value), xs[i]? = some x → vs[i]? = some v → R B w g x v)
    (h1 : ∀ v ∈ vs, v.oneCell' = true) : R B w (g.ro na) (.agg (xs.map (frz1 h na))) (.agg vs.toArray) := by
  refine .agg _ vs (by simpa using hl) (fun i x v hx hv => ?_) h1
  obtain ⟨y, hy, rfl⟩ : ∃ y, xs[i]? = some y ∧ frz1 h na y = x := by simpa using hx
  exact frz1_ok H (hr i y v hy hv)

theorem frz_ok (H : HR B h g w) {na : Nat} {x : AV} {v : Value} (hr : R B w g x v) : R B w (g.ro na) (frz h na x) v := by
  unfold frz
  split
  · cases hr with
    | agg xs vs hl hr h1 => exact frz1s_ok H hl hr h1
  · cases hr with
    | tup xs vs hl hr =>
      refine .tup _ vs (by simpa using hl) fun i x v hx hv => ?_
      obtain ⟨y, hy, hyx⟩ := Option.map_eq_some_iff.1 (by simpa only [List.getElem?_map] using hx)
      subst hyx
      have hR := hr i y v hy hv
      split
      · cases hR with
        | agg xs vs hl hr h1 => exact frz1s_ok H hl hr h1
      · exact frz1_ok H hR
  · exact frz1_ok H hr

/-- What an end holds. -/
def AEnd.val : AEnd → AV
  | .ret v => v
  | .pan v => v
theorem gc_ok {w1 : World} {g1 : Gh} {h1 : Hp} (H : HR B h g w) (H1 : HR B h1 g1 w1) (hs : Step B w g w1 g1) {mode : Nat} {r r2 : AEnd} {h2 : Hp} {v : Value} (hr : R B w1 g1 r.val v)
    (hgc : gc mode h.nb h.na r h1 = some (r2, h2)) : ∃ g2, HR B h2 g2 w1 ∧ Step B w g w1 g2 ∧ R B w1 g2 r2.val v ∧ ((∃ x y, r = .ret x ∧ r2 = .ret y) ∨ ∃ x y, r = .pan x ∧ r2 = .pan y) := by
  unfold gc at hgc
  split at hgc
  · injection hgc with hgc
    injection hgc with e1 e2
    subst e1
    subst e2
    exact ⟨g1, H1, hs, hr, by cases r with
      | ret x => exact .inl ⟨_, _, rfl, rfl⟩
      | pan x => exact .inr ⟨_, _, rfl, rfl⟩⟩
  split at hgc
  · dsimp only at hgc
    split at hgc
    · rename_i hc
      obtain ⟨hc1, hc2⟩ := hc
      injection hgc with hgc
      injection hgc with e1 e2
      subst e1
      subst e2
      obtain ⟨a, b⟩ := cut_ok H H1 hs (Nat.le_refl _) (Nat.le_refl _) hc2
      refine ⟨_, a, b, ?_, ?_⟩
      · cases r with
        | ret x => exact (frz_ok H1 hr).cut' hc1
        | pan x => exact (frz_ok H1 hr).cut' hc1
      · cases r with
        | ret x => exact .inl ⟨_, _, rfl, rfl⟩
        | pan x => exact .inr ⟨_, _, rfl, rfl⟩
    · cases hgc
  · dsimp only at hgc
    split at hgc
    · rename_i hc
      obtain ⟨hc1, hc2⟩ := hc
      injection hgc with hgc
      injection hgc with e1 e2
      subst e1
      subst e2
      have hna : h.na ≤ h1.na := by
        simp only [Hp.na]
        rw [H.la, H1.la]
        by_cases h0 : g.ab.length = 0
        · omega
        · have hlt : g.ab.length - 1 < g.ab.length := by omega
          obtain ⟨G', h2, _⟩ := hs.ab _ _ (List.getElem?_eq_getElem hlt)
          have := (List.getElem?_eq_some_iff.1 h2).1
          omega
      obtain ⟨a, b⟩ := cut_ok H H1 hs (Nat.le_refl _) hna hc2
      refine ⟨_, a, b, ?_, ?_⟩
      · cases r with
        | ret x => exact hr.ro.cut' hc1
        | pan x => exact hr.ro.cut' hc1
      · cases r with
        | ret x => exact .inl ⟨_, _, rfl, rfl⟩
        | pan x => exact .inr ⟨_, _, rfl, rfl⟩
    · cases hgc
  · injection hgc with hgc
    injection hgc with e1 e2
    subst e1
    subst e2
    refine ⟨g1, H1, hs, hr, ?_⟩
    cases r with
    | ret x => exact .inl ⟨_, _, rfl, rfl⟩
    | pan x => exact .inr ⟨_, _, rfl, rfl⟩
end
end Go.Ab
