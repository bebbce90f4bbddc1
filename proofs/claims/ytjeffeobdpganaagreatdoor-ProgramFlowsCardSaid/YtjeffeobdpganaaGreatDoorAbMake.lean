/- Literals, slices, append, make. -/
import Derived.Test.YtjeffeobdpganaaGreatDoorAbGrid
import Derived.Great.BuildSlice
set_option linter.unusedSimpArgs false
set_option linter.unusedVariables false
namespace Go.Ab
open Go.RowKit (Below)
section
variable {P : Program} {B : Nat} {w : World} {g : Gh} {h : Hp}

/-- The parts of a literal: what is put where. -/
theorem fill_ok (place : Nat → Option (Nat × Nat)) : ∀ (ps : List (Nat × Value)) (qs : List (Nat × AV)) (cs cs' : List AV) (cells : Array Value),
    RL B w g cs cells.toList → (∀ v ∈ cells.toList, v.oneCell' = true) → fills cs qs = some cs' →
    ps.length = qs.length → (∀ (i : Nat) (p : Nat × Value) (q : Nat × AV), ps[i]? = some p → qs[i]? = some q → R B w g q.2 p.2 ∧ q.2.isTup = false ∧ place p.1 = some (q.1, q.2.cells.length)) →
    ∃ cells' : Array Value, Instr.fill place cells ps = some cells' ∧ RL B w g cs' cells'.toList ∧ ∀ v ∈ cells'.toList, v.oneCell' = true
  | [], [], cs, cs', cells, hr, h1, hf, _, _ => by
    simp [fills] at hf
    subst hf
    exact ⟨cells, rfl, hr, h1⟩
  | (i, v) :: ps, (o, x) :: qs, cs, cs', cells, hr, h1, hf, hl, hp => by
    obtain ⟨hx, ht, hpl⟩ := hp 0 _ _ rfl rfl
    obtain ⟨vs, hvc, hvr, hv1⟩ := hx.cells ht
    simp only [fills] at hf
    obtain ⟨cs1, hs, hf⟩ := Option.bind_eq_some_iff.1 hf
    obtain ⟨hle, rfl⟩ := splice_some hs
    have hvl : vs.length = x.cells.length := hvr.len.symm
    have hcl : cells.toList.length = cs.length := hr.len.symm
    have hseg := fold_seg' o v.cells cells (by rw [hvc]; simp at hcl ⊢; omega)
    simp only [Instr.fill]
    rw [hpl]
    dsimp only
    rw [if_neg (by rw [hvc]; simp at hcl ⊢; omega), hseg]
    refine fill_ok place ps qs _ cs' _ ?_ ?_ hf (by simpa using hl) (fun i p q h2 h3 => hp (i + 1) p q h2 h3)
    · rw [hvc]
      have := ((hr.take o).append hvr).append (hr.drop (o + x.cells.length))
      simpa [hvl] using this
    · intro u hu
      rw [hvc] at hu
      simp only [List.append_assoc, List.mem_append] at hu
      rcases hu with hu | hu | hu
      · exact h1 u (List.mem_of_mem_take hu)
      · exact hv1 u (by simpa using hu)
      · exact h1 u (List.mem_of_mem_drop hu)
  | [], _ :: _, _, _, _, _, _, _, hl, _ => by simp at hl
  | _ :: _, [], _, _, _, _, _, _, hl, _ => by simp at hl

theorem mapM_sizes (fs : Array Field) (hall : fs.all (fun f => (P.info? f.type).isSome) = true) (w : World) :
    (fs.mapM (m := Sem) fun f => do pure (f.offset, ← sizeOf f.type)).run P w = .ok (fs.map fun f => (f.offset, ((P.info? f.type).map (·.size)).getD 0)) w := by
  rw [Array.mapM_eq_mapM_toList]
  have key : ∀ l : List Field, (∀ f ∈ l, (P.info? f.type).isSome = true) →
      (l.mapM (m := Sem) fun f => do pure (f.offset, ← sizeOf f.type)).run P w = .ok (l.map fun f => (f.offset, ((P.info? f.type).map (·.size)).getD 0)) w := by
    intro l
    induction l with
    | nil => intro _; rfl
    | cons f l ih =>
      intro hl
      obtain ⟨i, hi⟩ := Option.isSome_iff_exists.1 (hl f (by simp))
      have ih' := ih fun f' hf' => hl f' (by simp [hf'])
      have hone : (do pure (f.offset, ← sizeOf f.type) : Sem (Nat × Nat)).run P w = .ok (f.offset, i.size) w := by simp [sizeOf, typeInfo, hi]
      rw [List.mapM_cons, Sem.run_bind, hone]
      simp only [Result.andThen_ok, Sem.run_bind, ih', Sem.run_pure, List.map_cons, hi, Option.map_some, Option.getD_some]
  have := key fs.toList (fun f hf => by
    have := Array.all_eq_true_iff_forall_mem.1 hall f (by simpa using hf)
    exact this)
  have e : ∀ m : Sem (List (Nat × Nat)), List.toArray <$> m = m >>= fun l => pure l.toArray := fun _ => rfl
  rw [e, Sem.run_bind, this, Result.andThen_ok, Sem.run_pure]
  congr 1
  apply Array.ext'
  simp only [Array.toList_map]

theorem build_good {t : TypeId} {ps : List (Nat × Value)} {z : List AV} {zv : Value} {qs : List (Nat × AV)} {cs : List AV}
    (hz : zrT P t = some zv) (hzc : chkV zv (.agg z) = true) (hf : fills z qs = some cs) (hl : ps.length = qs.length)
    (place : (i : Nat) → (p : Nat × Value) → (q : Nat × AV) → ps[i]? = some p → qs[i]? = some q → R B w g q.2 p.2 ∧ q.2.isTup = false ∧
      ((∃ fs f, P.underlying t = some (.struct fs) ∧ (fs.all (fun f => (P.info? f.type).isSome) = true) ∧ fs[p.1]? = some f ∧ f.offset = q.1 ∧ szT P f.type = some q.2.cells.length) ∨
       (∃ n e s, P.underlying t = some (.array n e) ∧ szT P e = some s ∧ p.1 * s = q.1 ∧ s = q.2.cells.length)))
    (hu : (∃ fs, P.underlying t = some (.struct fs) ∧ (fs.all (fun f => (P.info? f.type).isSome) = true)) ∨ ∃ n e s, P.underlying t = some (.array n e) ∧ szT P e = some s) :
    ∃ val, (Instr.build t ps.toArray).run P w = .ok val w ∧ R B w g (.agg cs) val := by
  have hzR := chkV_R (B := B) (w := w) (g := g) hzc
  obtain ⟨zs, hzcells, hzr, hz1⟩ := hzR.cells rfl
  rcases hu with ⟨fs, hu, hall⟩ | ⟨n, e, s, hu, hs⟩
  · obtain ⟨cells', hfill, hr, h1⟩ := fill_ok (B := B) (w := w) (g := g) (fun i => (fs.map fun f => (f.offset, ((P.info? f.type).map (·.size)).getD 0))[i]?) ps qs z cs zv.cells
      (by rw [hzcells]; simpa [AV.cells] using hzr) (by rw [hzcells]; simpa using hz1) hf hl (fun i p q h1 h2 => by
        obtain ⟨a, b, c⟩ := place i p q h1 h2
        refine ⟨a, b, ?_⟩
        rcases c with ⟨fs', f, hu', _, hf, ho, hsz⟩ | ⟨n, e, s, hu', _⟩
        · rw [hu] at hu'
          injection hu' with hu'
          injection hu' with hu'
          subst hu'
          unfold szT at hsz
          simp [hf, ho, hsz]
        · rw [hu] at hu'; injection hu' with hu'; cases hu')
    refine ⟨.agg cells', ?_, ?_⟩
    · simp only [Instr.build, Sem.run_bind, zrT_run hz w, Result.andThen_ok, run_underlying hu w, mapM_sizes fs hall w, hfill, Sem.run_pure]
    · have := R.agg (B := B) (w := w) (g := g) cs cells'.toList hr.len hr.at_ h1
      simpa using this
  · obtain ⟨cells', hfill, hr, h1⟩ := fill_ok (B := B) (w := w) (g := g) (fun i => some (i * s, s)) ps qs z cs zv.cells
      (by rw [hzcells]; simpa [AV.cells] using hzr) (by rw [hzcells]; simpa using hz1) hf hl (fun i p q h1 h2 => by
        obtain ⟨a, b, c⟩ := place i p q h1 h2
        refine ⟨a, b, ?_⟩
        rcases c with ⟨fs', f, hu', _⟩ | ⟨n', e', s', hu', hs', ho, hsz⟩
        · rw [hu] at hu'; injection hu' with hu'; cases hu'
        · rw [hu] at hu'
          injection hu' with hu'
          injection hu' with _ hu'
          subst hu'
          rw [hs] at hs'
          injection hs' with hs'
          subst hs'
          rw [ho, ← hsz])
    refine ⟨.agg cells', ?_, ?_⟩
    · simp only [Instr.build, Sem.run_bind, zrT_run hz w, Result.andThen_ok, run_underlying hu w, szT_run hs w, hfill, Sem.run_pure]
    · have := R.agg (B := B) (w := w) (g := g) cs cells'.toList hr.len hr.at_ h1
      simpa using this

/-- A literal's elements. -/
theorem fillE_ok (esz : Nat) (zl : List AV) (hz : zl.length = esz) : ∀ (ps : List (Nat × Value)) (qs : List (Nat × AV)) (es es' : List (List AV)) (cells : Array Value),
    Grid B w g esz es cells.toList → cells.size = es.length * esz → fillE zl es qs = some es' →
    ps.length = qs.length → (∀ (i : Nat) (p : Nat × Value) (q : Nat × AV), ps[i]? = some p → qs[i]? = some q → R B w g q.2 p.2 ∧ p.1 = q.1) →
    ∃ cells' : Array Value, Instr.fill (fun i => some (i * esz, esz)) cells ps = some cells' ∧ Grid B w g esz es' cells'.toList ∧ cells'.size = es'.length * esz
  | [], [], es, es', cells, hg, hs, hf, _, _ => by
    simp [fillE] at hf
    subst hf
    exact ⟨cells, rfl, hg, hs⟩
  | (i, v) :: ps, (o, x) :: qs, es, es', cells, hg, hs, hf, hl, hp => by
    obtain ⟨hx, hio⟩ := hp 0 _ _ rfl rfl
    dsimp only at hio
    subst hio
    simp only [fillE] at hf
    split at hf
    · rename_i hc
      obtain ⟨hxl, hi, ht⟩ := hc
      obtain ⟨vs, hvc, hvr, hv1⟩ := hx.cells ht
      have hvl : vs.length = esz := by rw [← hvr.len, hxl, hz]
      have hm : (i + 1) * esz ≤ es.length * esz := Nat.mul_le_mul_right _ hi
      rw [Nat.add_mul, Nat.one_mul] at hm
      have hseg := fold_seg' (i * esz) v.cells cells (by rw [hvc]; simp; omega)
      simp only [Instr.fill]
      rw [if_neg (by rw [hvc]; simp; omega), hseg]
      refine fillE_ok esz zl hz ps qs _ es' _ ?_ ?_ hf (by simpa using hl) (fun i p q h2 h3 => hp (i + 1) p q h2 h3)
      · rw [hvc]
        have := hg.set hvr hv1 (by rw [hxl, hz]) hi (by simpa using hs)
        simpa using this
      · rw [hvc]
        simp
        omega
    · cases hf
  | [], _ :: _, _, _, _, _, _, _, hl, _ => by simp at hl
  | _ :: _, [], _, _, _, _, _, _, hl, _ => by simp at hl

theorem grid_zero {esz n : Nat} {zl : List AV} {zs : List Value} (hz : RL B w g zl zs) (h1 : ∀ u ∈ zs, u.oneCell' = true) (hl : zl.length = esz) :
    Grid B w g esz (List.replicate n zl) ((Array.range (n * esz)).map (zs.toArray[· % zs.toArray.size]!)).toList := by
  refine ⟨fun c hc => by rw [List.eq_of_mem_replicate hc]; exact hl, fun i c j x hi hx => ?_⟩
  rw [List.getElem?_replicate] at hi
  split at hi
  · rename_i hin
    injection hi with hi
    subst hi
    have hj := (List.getElem?_eq_some_iff.1 hx).1
    have hjz : j < zs.length := by rw [← hz.len]; exact hj
    have hm : (i + 1) * esz ≤ n * esz := Nat.mul_le_mul_right _ hin
    rw [Nat.add_mul, Nat.one_mul] at hm
    refine ⟨zs[j], ?_, hz.at_ _ _ _ hx (List.getElem?_eq_getElem hjz), h1 _ (List.getElem_mem hjz)⟩
    have hlt : i * esz + j < n * esz := by omega
    simp only [Array.toList_map, Array.toList_range, List.getElem?_map, List.getElem?_range hlt, Option.map_some]
    have hmod : (i * esz + j) % zs.toArray.size = j := by
      have : zs.toArray.size = esz := by simp [← hz.len, hl]
      rw [this, Nat.mul_comm, Nat.mul_add_mod, Nat.mod_eq_of_lt (by omega)]
    rw [hmod]
    congr 1
    simp [hjz]
  · cases hi

/-- A row that is only read. -/
theorem vs_of_grid {full : Bool} {esz : Nat} {es : List (List AV)} {vs : List Value} {k cap p : Nat} (hg : Grid B w g esz es vs) (hk : ∀ o, g.pr k o) (hcell : ∀ q v, vs[q]? = some v → w.cell? ⟨k, p + q, none⟩ = some v)
    (hcap : es.length ≤ cap) (hfull : full = true → cap = es.length ∧ B ≤ k ∧ es ≠ []) : R B w g (.vs full es) (.slice (some ⟨k, p, none⟩) es.length cap) := by
  refine .vs full es _ cap k p esz (fun i j => vs.getD (i * esz + j) undef) (fun _ => rfl) hg.sz (fun i c j x h1 h2 => ?_) (fun i c j x h1 h2 => ?_) hcap fun hf => ?_
  · obtain ⟨v, a, _, d⟩ := hg.at_ i c j x h1 h2
    have e : vs.getD (i * esz + j) undef = v := by simp [List.getD, a]
    rw [e]
    exact ⟨hk _, hcell _ _ a, d⟩
  · obtain ⟨v, a, b, _⟩ := hg.at_ i c j x h1 h2
    have e : vs.getD (i * esz + j) undef = v := by simp [List.getD, a]
    rw [e]
    exact b
  · obtain ⟨h1, h2, h3⟩ := hfull hf
    exact ⟨h1, fun _ => h2, fun e => absurd e h3⟩

theorem bslice_good (H : HR B h g w) {t e : TypeId} {n : Nat} {ps : List (Nat × Value)} {zl : List AV} {zv : Value} {zs : List Value} {qs : List (Nat × AV)} {es : List (List AV)}
    (hu : P.underlying t = some (.slice e)) (hs : szT P e = some zl.length) (hz : zrT P e = some zv) (hzc : zv.cells = zs.toArray) (hzr : RL B w g zl zs) (h1 : ∀ u ∈ zs, u.oneCell' = true)
    (hpos : 0 < zl.length) (hn : 0 < n) (hsmall : n * zl.length ≤ 16777216) (hf : fillE zl (List.replicate n zl) qs = some es) (hl : ps.length = qs.length)
    (hp : ∀ (i : Nat) (p : Nat × Value) (q : Nat × AV), ps[i]? = some p → qs[i]? = some q → R B w g q.2 p.2 ∧ p.1 = q.1) :
    ∃ val w' g', (Instr.buildSlice t n ps.toArray).run P w = .ok val w' ∧ R B w' g' (.vs true es) val ∧ HR B h g' w' ∧ Step B w g w' g' := by
  unfold szT at hs
  unfold zrT at hz
  obtain ⟨ie, hie, hsz⟩ := Option.map_eq_some_iff.1 hs
  obtain ⟨ie', hie', hzv⟩ := Option.bind_eq_some_iff.1 hz
  rw [hie] at hie'
  injection hie' with hie'
  subst hie'
  have hzsl : zs.length = zl.length := hzr.len.symm
  have hg0 := grid_zero (n := n) hzr h1 rfl
  obtain ⟨cells', hfill, hg', hsize⟩ := fillE_ok (B := B) (w := w) (g := g) zl.length zl rfl ps qs _ es _ hg0 (by simp) hf hl hp
  have hlen : es.length = n := by
    have : ∀ (qs : List (Nat × AV)) (a b : List (List AV)), fillE zl a qs = some b → b.length = a.length := by
      intro qs
      induction qs with
      | nil => intro a b hab; simp [fillE] at hab; rw [hab]
      | cons q qs ih =>
        intro a b hab
        obtain ⟨i, v⟩ := q
        simp only [fillE] at hab
        split at hab
        · rw [ih _ _ hab]; simp
        · cases hab
    rw [this _ _ _ hf]
    simp
  have hrun := run_buildSlice (P := P) w t e n ps.toArray cells' ie zv hu hie hzv (by rw [hsz]; omega) (by rw [hsz]; have := Nat.mul_pos hn hpos; omega) (by rw [hsz, hzc]; exact hfill)
  have hst := step_np H (.cells cells' e)
  refine ⟨_, _, g.np w.heap.size, hrun, ?_, H.new_pr _, hst⟩
  have := vs_of_grid (full := true) (cap := es.length) (k := w.heap.size) (p := 0) (hg'.step hst) (fun o => .inr rfl) (fun q v hq => by
    rw [cell_of_row (w.alloc (.cells cells' e)) w.heap.size (0 + q) cells' e (0, 0) (heap_alloc_new w _)]
    simpa using hq) (Nat.le_refl _) (fun _ => ⟨rfl, H.sz, fun e => by rw [e] at hlen; simp at hlen; omega⟩)
  rw [hlen] at this
  exact this
end
end Go.Ab
