/- Reads, writes and new blocks: the abstract heap goes along with the model's. -/
import Derived.Test.YtjeffeobdpganaaGreatDoorAbChk
import Derived.Deep.MidRow
import Derived.Laws.CopyRow
set_option linter.unusedSimpArgs false
set_option linter.unusedVariables false
namespace Go.Ab
open Go.RowKit (Below)

section
variable {B : Nat} {w : World} {g : Gh} {h : Hp}

theorem sub_some {cs : List AV} {o n : Nat} {r : List AV} (hs : sub cs o n = some r) : o + n ≤ cs.length ∧ r = (cs.drop o).take n := by
  unfold sub at hs
  split at hs
  · rename_i hle; injection hs with hs; exact ⟨hle, hs.symm⟩
  · cases hs
theorem splice_some {cs : List AV} {o : Nat} {new r : List AV} (hs : splice cs o new = some r) : o + new.length ≤ cs.length ∧ r = cs.take o ++ new ++ cs.drop (o + new.length) := by
  unfold splice at hs
  split at hs
  · rename_i hle; injection hs with hs; exact ⟨hle, hs.symm⟩
  · cases hs

/-- What is read through a pointer. -/
theorem ldc_ok (H : HR B h g w) {n : Nat} {p : AV} {v : Value} {cs : List AV} (hp : R B w g p v) (hl : ldc h n p = some cs) :
    ∃ (k o : Nat) (vs : List Value), v = .pointer (some ⟨k, o, none⟩) ∧ vs.length = n ∧ w.rangeAt k o vs ∧ RL B w g cs vs ∧ ∀ u ∈ vs, u.oneCell' = true := by
  cases hp with
  | ptr b o k hb =>
    simp only [ldc] at hl
    split at hl
    · rename_i t cs0 hbx
      obtain ⟨hle, rfl⟩ := sub_some hl
      obtain ⟨vs, h1, h2, h3⟩ := H.box b _ k hbx hb
      refine ⟨k, o, (vs.drop o).take n, rfl, ?_, ?_, (h2.drop o).take n, fun u hu => h3 u (List.mem_of_mem_drop (List.mem_of_mem_take hu))⟩
      · rw [List.length_take, List.length_drop, ← h2.len]; omega
      · intro j u hu
        rw [List.getElem?_take] at hu
        split at hu
        · rw [List.getElem?_drop] at hu
          rw [cell_of_row w k (o + j) _ _ _ h1]
          simpa using hu
        · cases hu
    · cases hl
  | aptr a ver i j G ad hg hv had =>
    simp only [ldc] at hl
    split at hl
    · rename_i A hA
      split at hl
      · rename_i hver
        obtain ⟨c, hc, hl⟩ := Option.bind_eq_some_iff.1 hl
        obtain ⟨hle, rfl⟩ := sub_some hl
        obtain ⟨e1, e2, e3, e4, e5, vs, z6, e6, f6, e7, e8⟩ := H.arr a A G hA hg
        have hcl : c.length = A.esz := e5 c (List.mem_of_getElem? hc)
        have hi : i < A.es.length := (List.getElem?_eq_some_iff.1 hc).1
        have had' := had (by omega)
        subst had'
        rw [e2]
        have hmul : (i + 1) * A.esz ≤ G.cap * A.esz := Nat.mul_le_mul_right _ (by omega)
        rw [Nat.add_mul, Nat.one_mul] at hmul
        refine ⟨G.k, i * A.esz + j, (vs.drop (i * A.esz + j)).take n, rfl, ?_, ?_, ⟨?_, ?_⟩, ?_⟩
        · rw [List.length_take, List.length_drop, e7]; omega
        · intro q u hu
          rw [List.getElem?_take] at hu
          split at hu
          · rw [List.getElem?_drop] at hu
            rw [cell_of_row w G.k (i * A.esz + j + q) _ _ _ e6]
            simpa using hu
          · cases hu
        · rw [List.length_take, List.length_drop, List.length_take, List.length_drop, e7]; omega
        · intro q x u hx hu
          rw [List.getElem?_take] at hx hu
          split at hx
          · rename_i hq
            rw [if_pos hq] at hu
            rw [List.getElem?_drop] at hx hu
            obtain ⟨u', h1, h2, _⟩ := e8 i c (j + q) x hc hx
            rw [show i * A.esz + (j + q) = i * A.esz + j + q from by omega, hu] at h1
            injection h1 with h1
            exact h1 ▸ h2
          · cases hx
        · intro u hu
          obtain ⟨q, hq⟩ := List.getElem?_of_mem hu
          rw [List.getElem?_take] at hq
          split at hq
          · rename_i hqn
            rw [List.getElem?_drop] at hq
            have hjq : j + q < c.length := by omega
            obtain ⟨u', h1, _, h3⟩ := e8 i c (j + q) _ hc (List.getElem?_eq_getElem hjq)
            rw [show i * A.esz + (j + q) = i * A.esz + j + q from by omega, hq] at h1
            injection h1 with h1
            exact h1 ▸ h3
          · cases hq
      · cases hl
    · cases hl
  | vptr cs0 o k p f hc hr =>
    simp only [ldc] at hl
    obtain ⟨hle, rfl⟩ := sub_some hl
    refine ⟨k, p + o, (List.range n).map fun j => f (o + j), rfl, by simp, ?_, ⟨?_, ?_⟩, ?_⟩
    · intro j u hu
      rw [List.getElem?_map] at hu
      obtain ⟨j', hj', rfl⟩ := Option.map_eq_some_iff.1 hu
      obtain ⟨hjn, rfl⟩ := List.getElem?_eq_some_iff.1 hj'
      have hjn' : j < n := by simpa using hjn
      have := (hc (o + j) _ (List.getElem?_eq_getElem (show o + j < cs0.length by omega))).2.1
      simpa [Nat.add_assoc] using this
    · rw [List.length_take, List.length_drop, List.length_map, List.length_range]; omega
    · intro q x u hx hu
      rw [List.getElem?_take] at hx
      split at hx
      · rename_i hq
        rw [List.getElem?_drop] at hx
        rw [List.getElem?_map, List.getElem?_range hq] at hu
        simp at hu
        subst hu
        exact hr (o + q) x hx
      · cases hx
    · intro u hu
      obtain ⟨q, hq, rfl⟩ := List.mem_map.1 hu
      have hq' : q < n := by simpa using hq
      exact (hc (o + q) _ (List.getElem?_eq_getElem (show o + q < cs0.length by omega))).2.2
  | _ => simp [ldc] at hl

theorem live_bb {b k : Nat} (hb : g.bb[b]? = some k) : k ∈ g.bb ++ g.ab.map (·.k) := List.mem_append_left _ (List.mem_of_getElem? hb)
theorem live_ab {a : Nat} {G : AG} (ha : g.ab[a]? = some G) : G.k ∈ g.bb ++ g.ab.map (·.k) := List.mem_append_right _ (List.mem_map.2 ⟨G, List.mem_of_getElem? ha, rfl⟩)
theorem bb_inj (H : HR B h g w) {b b' k : Nat} (hb : g.bb[b]? = some k) (hb' : g.bb[b']? = some k) : b = b' :=
  List.getElem?_inj (List.getElem?_eq_some_iff.1 hb).1 (List.nodup_append.1 H.nd).1 |>.1 (hb.trans hb'.symm)
theorem ab_inj (H : HR B h g w) {a a' : Nat} {G G' : AG} (ha : g.ab[a]? = some G) (ha' : g.ab[a']? = some G') (hk : G.k = G'.k) : a = a' := by
  have e1 : (g.ab.map (·.k))[a]? = some G.k := by simp [ha]
  have e2 : (g.ab.map (·.k))[a']? = some G.k := by simp [ha', hk]
  exact List.getElem?_inj (List.getElem?_eq_some_iff.1 e1).1 (List.nodup_append.1 H.nd).2.1 |>.1 (e1.trans e2.symm)
theorem bb_ab (H : HR B h g w) {b a k : Nat} {G : AG} (hb : g.bb[b]? = some k) (ha : g.ab[a]? = some G) : k ≠ G.k := fun e =>
  (List.nodup_append.1 H.nd).2.2 k (List.mem_of_getElem? hb) G.k (List.mem_map.2 ⟨G, List.mem_of_getElem? ha, rfl⟩) e

/-- A live block is written anew: all else stands. -/
theorem step_setRow (H : HR B h g w) {k : Nat} (hk : k ∈ g.bb ++ g.ab.map (·.k)) (cs : Array Value) : Step B w g (w.setRow k cs) g := by
  refine ⟨⟨rfl, rfl, rfl, by simp, fun i hi => setRow_other w k i cs (fun e => by have := H.low k hk; omega)⟩, fun _ _ h => h, fun _ G h => ⟨G, h, Nat.le_refl _, fun _ => rfl⟩, fun _ h => .inl h, fun G h => .inl ⟨G, h, rfl⟩, fun _ _ h => h, fun k' o v hp hc => ?_, fun i _ hb ha _ => setRow_other w k i cs (fun e => by
      rcases List.mem_append.1 hk with h1 | h1
      · exact hb (e ▸ h1)
      · obtain ⟨G, hG, h2⟩ := List.mem_map.1 h1
        exact ha G hG (h2.trans e.symm)), fun _ _ h => .inl h⟩
  rw [cell_setRow_other w k cs _ (fun e => H.npr k hk o (e ▸ hp))]
  exact hc

theorem HR.set_box (H : HR B h g w) {b k : Nat} {x : Box} {w' : World} {g' : Gh} (hb : g.bb[b]? = some k) (hs : Step B w g w' g') (hbb : g'.bb = g.bb) (hab : g'.ab = g.ab) (hpr : g'.pr = g.pr)
    (hx : BoxR B w' g' k x) (ho : ∀ i, i ≠ k → w'.heap[i]? = w.heap[i]?) : HR B (h.sb b x) g' w' := by
  refine ⟨by simp [Hp.sb, H.lb, hbb], by simp [Hp.sb, H.la, hab], fun b' y k' hy hk' => ?_, fun a A G ha hG => ?_, ?_, ?_, ?_, ?_, Nat.le_trans H.sz hs.below.size⟩
  · rw [hbb] at hk'
    simp only [Hp.sb, List.getElem?_set] at hy
    split at hy
    · rename_i e
      subst e
      split at hy
      · injection hy with hy
        subst hy
        rw [hb] at hk'
        injection hk' with hk'
        exact hk' ▸ hx
      · cases hy
    · rename_i hne
      exact (H.box b' y k' hy hk').keep hs (ho k' fun e => hne (bb_inj H hb (e ▸ hk')))
  · rw [hab] at hG
    exact (H.arr a A G ha hG).keep hs (ho _ fun e => bb_ab H hb hG e.symm)
  · rw [hbb, hab]; exact H.nd
  · rw [hbb, hab]; exact H.low
  · rw [hbb, hab, hpr]; exact H.npr
  · intro k o hp; rw [hpr] at hp; exact Nat.lt_of_lt_of_le (H.prs k o hp) hs.below.size

theorem HR.set_arr (H : HR B h g w) {a : Nat} {G : AG} {A : Arr} {w' : World} (ha : g.ab[a]? = some G) (hs : Step B w g w' g) (hA : ArrR B w' g G A) (ho : ∀ i, i ≠ G.k → w'.heap[i]? = w.heap[i]?) :
    HR B (h.sa a A) g w' := by
  refine ⟨by simp [Hp.sa, H.lb], by simp [Hp.sa, H.la], fun b y k hy hk => ?_, fun a' A' G' hA' hG' => ?_, H.nd, H.low, H.npr, fun k o hp => Nat.lt_of_lt_of_le (H.prs k o hp) hs.below.size, Nat.le_trans H.sz hs.below.size⟩
  · exact (H.box b y k hy hk).keep hs (ho k (bb_ab H hk ha))
  · simp only [Hp.sa, List.getElem?_set] at hA'
    split at hA'
    · rename_i e
      subst e
      split at hA'
      · injection hA' with hA'
        subst hA'
        rw [ha] at hG'
        injection hG' with hG'
        exact hG' ▸ hA
      · cases hA'
    · rename_i hne
      exact (H.arr a' A' G' hA' hG').keep hs (ho _ fun e => hne (ab_inj H ha hG' e.symm))

/-- What is written through a pointer. -/
theorem stc_ok (P : Program) (H : HR B h g w) {p : AV} {pv : Value} {new : List AV} {vs : List Value} {h' : Hp} (hp : R B w g p pv) (hn : RL B w g new vs) (h1 : ∀ v ∈ vs, v.oneCell' = true)
    (hst : stc h new p = some h') :
    ∃ ad w', pv = .pointer (some ad) ∧ (storeCells ad vs).run P w = .ok () w' ∧ HR B h' g w' ∧ Step B w g w' g := by
  cases hp with
  | ptr b o k hb =>
    simp only [stc] at hst
    split at hst
    · rename_i t cs0 hbx
      obtain ⟨cs', hcs, rfl⟩ := Option.map_eq_some_iff.1 hst
      obtain ⟨hle, rfl⟩ := splice_some hcs
      obtain ⟨us, h2, h3, h4⟩ := H.box b _ k hbx hb
      have hrun := run_storeCells_at (P := P) k o t vs 0 us.toArray w h2 (by simp; rw [← hn.len, ← h3.len]; omega) h1
      simp only [Nat.add_zero] at hrun
      have hs := step_setRow H (live_bb hb) (us.take o ++ vs ++ us.drop (o + vs.length)).toArray
      refine ⟨_, _, rfl, hrun, H.set_box hb hs rfl rfl rfl ⟨_, setRow_heap w k _ _ _ _ h2, ?_, ?_⟩ (fun i hi => setRow_other w k i _ hi), hs⟩
      · have h5 := (((h3.take o).append hn).append (h3.drop (o + new.length))).step hs
        rw [hn.len] at h5
        simpa [hn.len] using h5
      · intro v hv
        rcases List.mem_append.1 hv with hv | hv
        · rcases List.mem_append.1 hv with hv | hv
          · exact h4 v (List.mem_of_mem_take hv)
          · exact h1 v hv
        · exact h4 v (List.mem_of_mem_drop hv)
    · cases hst
  | aptr a ver i j G ad hg hv had =>
    simp only [stc] at hst
    split at hst
    · rename_i A hA
      split at hst
      · rename_i hverf
        obtain ⟨hver, hfz⟩ := hverf
        obtain ⟨c, hc, hst⟩ := Option.bind_eq_some_iff.1 hst
        obtain ⟨c', hc', rfl⟩ := Option.map_eq_some_iff.1 hst
        obtain ⟨hle, rfl⟩ := splice_some hc'
        obtain ⟨e1, e2, e3, e4, e5, us, z6, e6, f6, e7, e8⟩ := H.arr a A G hA hg
        have hz6 := f6 hfz
        subst hz6
        have hcl : c.length = A.esz := e5 c (List.mem_of_getElem? hc)
        have hi : i < A.es.length := (List.getElem?_eq_some_iff.1 hc).1
        have had' := had (by omega)
        subst had'
        rw [e2]
        have hmul : (i + 1) * A.esz ≤ G.cap * A.esz := Nat.mul_le_mul_right _ (by omega)
        rw [Nat.add_mul, Nat.one_mul] at hmul
        have hvl : vs.length = new.length := hn.len.symm
        have hrun := run_storeCells_at (P := P) G.k (i * A.esz + j) A.t vs 0 us.toArray w e6 (by simp; omega) h1
        simp only [Nat.add_zero] at hrun
        have hs := step_setRow H (live_ab hg) (us.take (i * A.esz + j) ++ vs ++ us.drop (i * A.esz + j + vs.length)).toArray
        refine ⟨_, _, rfl, hrun, H.set_arr hg hs ⟨e1, e2, by simpa using e3, e4, ?_, _, _, setRow_heap w G.k _ _ _ _ e6, fun _ => rfl, ?_, ?_⟩ (fun i hi => setRow_other w G.k i _ hi), hs⟩
        · intro d hd
          rcases List.mem_or_eq_of_mem_set hd with hd | rfl
          · exact e5 d hd
          · simp; omega
        · simp; omega
        · intro i' d q x hd hx
          dsimp only at hd ⊢
          simp only [List.getElem?_set] at hd
          have hlen : (List.take (i * A.esz + j) us ++ vs).length = i * A.esz + j + vs.length := by simp; omega
          have old : ∀ m, (m < i * A.esz + j ∨ i * A.esz + j + vs.length ≤ m) → m < us.length →
              (List.take (i * A.esz + j) us ++ vs ++ List.drop (i * A.esz + j + vs.length) us)[m]? = us[m]? := by
            intro m hm hmu
            rcases hm with hm | hm
            · rw [List.append_assoc, List.getElem?_append_left (by simp; omega), List.getElem?_take, if_pos hm]
            · rw [List.getElem?_append_right (by omega), hlen, List.getElem?_drop]
              congr 1
              omega
          have gen : ∀ d0, A.es[i']? = some d0 → d0[q]? = some x → (i' * A.esz + q < i * A.esz + j ∨ i * A.esz + j + vs.length ≤ i' * A.esz + q) →
              ∃ v, (List.take (i * A.esz + j) us ++ vs ++ List.drop (i * A.esz + j + vs.length) us)[i' * A.esz + q]? = some v ∧ R B (w.setRow G.k (List.take (i * A.esz + j) us ++ vs ++ List.drop (i * A.esz + j + vs.length) us).toArray) g x v ∧ v.oneCell' = true := by
            intro d0 hd0 hx0 hm
            obtain ⟨v, f1, f2, f3⟩ := e8 i' d0 q x hd0 hx0
            exact ⟨v, by rw [old _ hm (List.getElem?_eq_some_iff.1 f1).1]; exact f1, f2.step hs, f3⟩
          split at hd
          · rename_i e
            subst e
            try rw [if_pos hi] at hd
            injection hd with hd
            subst hd
            by_cases hq1 : q < j
            · refine gen c hc ?_ (by omega)
              rw [List.append_assoc, List.getElem?_append_left (by simp; omega), List.getElem?_take, if_pos hq1] at hx
              exact hx
            · by_cases hq2 : q < j + new.length
              · have hxn : new[q - j]? = some x := by
                  rw [List.getElem?_append_left (by simp; omega), List.getElem?_append_right (by simp; omega)] at hx
                  simpa [show min j c.length = j from by omega] using hx
                have hvq : q - j < vs.length := by omega
                refine ⟨vs[q - j], ?_, (hn.at_ _ _ _ hxn (List.getElem?_eq_getElem hvq)).step hs, h1 _ (List.getElem_mem hvq)⟩
                rw [List.getElem?_append_left (by omega), List.getElem?_append_right (by simp; omega)]
                rw [List.length_take, show min (i * A.esz + j) us.length = i * A.esz + j from by omega, show i * A.esz + q - (i * A.esz + j) = q - j from by omega]
                exact List.getElem?_eq_getElem hvq
              · refine gen c hc ?_ (by omega)
                rw [List.getElem?_append_right (by simp; omega), List.getElem?_drop] at hx
                rw [← hx]
                congr 1
                simp
                omega
          · rename_i hne
            have hdl : d.length = A.esz := e5 d (List.mem_of_getElem? hd)
            have hql : q < A.esz := by rw [← hdl]; exact (List.getElem?_eq_some_iff.1 hx).1
            refine gen d hd hx ?_
            rcases Nat.lt_or_gt_of_ne hne with hlt | hlt
            · have : (i + 1) * A.esz ≤ i' * A.esz := Nat.mul_le_mul_right _ hlt
              rw [Nat.add_mul, Nat.one_mul] at this
              omega
            · have : (i' + 1) * A.esz ≤ i * A.esz := Nat.mul_le_mul_right _ hlt
              rw [Nat.add_mul, Nat.one_mul] at this
              omega
      · cases hst
    · cases hst
  | _ => simp [stc] at hst
end
end Go.Ab
