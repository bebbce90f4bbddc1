/- Elements of slices; append; make. -/
import Derived.Lib.AppendStr
import Derived.Test.YtjeffeobdpganaaGreatDoorAbMake
set_option linter.unusedSimpArgs false
set_option linter.unusedVariables false
namespace Go.Ab
open Go.RowKit (Below)
section
variable {P : Program} {B : Nat} {w : World} {g : Gh} {h : Hp}

/-- The elements of a slice: its cells. -/
theorem els_ok (H : HR B h g w) {x : AV} {v : Value} {es : List (List AV)} (hx : R B w g x v) (he : els h x = some es) :
    ∃ (ad : Option Addr) (cap : Nat), v = .slice ad es.length cap ∧ (es ≠ [] → ∃ k p esz, ad = some ⟨k, p, none⟩ ∧
      ∃ vs : List Value, vs.length = es.length * esz ∧ Grid B w g esz es vs ∧ w.rangeAt k p vs ∧ ∀ u ∈ vs, u.oneCell' = true) := by
  cases hx with
  | vs full es' ad cap k p esz f had hsz hc hr hcap hfull =>
    simp only [els] at he
    injection he with he
    subst he
    refine ⟨ad, cap, rfl, fun hne => ⟨k, p, esz, had hne, (List.range (es'.length * esz)).map fun q => f (q / esz) (q % esz), by simp, ⟨hsz, fun i c j x hi hx => ?_⟩, fun q u hu => ?_, fun u hu => ?_⟩⟩
    · have hcl := hsz c (List.mem_of_getElem? hi)
      have hj := (List.getElem?_eq_some_iff.1 hx).1
      have hil := (List.getElem?_eq_some_iff.1 hi).1
      have hm : (i + 1) * esz ≤ es'.length * esz := Nat.mul_le_mul_right _ hil
      rw [Nat.add_mul, Nat.one_mul] at hm
      have hlt : i * esz + j < es'.length * esz := by omega
      refine ⟨f i j, ?_, hr i c j x hi hx, (hc i c j x hi hx).2.2⟩
      have e1 : (i * esz + j) / esz = i := by
        rw [Nat.mul_comm, Nat.mul_add_div (by omega), Nat.div_eq_of_lt (by omega)]; omega
      have e2 : (i * esz + j) % esz = j := by
        rw [Nat.mul_comm, Nat.mul_add_mod, Nat.mod_eq_of_lt (by omega)]
      rw [List.getElem?_map, List.getElem?_range hlt]
      simp [e1, e2]
    · rw [List.getElem?_map] at hu
      obtain ⟨q', hq', rfl⟩ := Option.map_eq_some_iff.1 hu
      obtain ⟨hlt, rfl⟩ := List.getElem?_eq_some_iff.1 hq'
      have hlt' : q < es'.length * esz := by simpa using hlt
      have hpos : 0 < esz := by
        rcases Nat.eq_zero_or_pos esz with h0 | h0
        · subst h0; omega
        · exact h0
      have hi : q / esz < es'.length := (Nat.div_lt_iff_lt_mul hpos).2 hlt'
      have hci := List.getElem?_eq_getElem hi
      have hcl := hsz _ (List.getElem_mem hi)
      have hj : q % esz < es'[q / esz].length := by rw [hcl]; exact Nat.mod_lt _ hpos
      have := (hc (q / esz) _ (q % esz) _ hci (List.getElem?_eq_getElem hj)).2.1
      simp only [List.getElem_range]
      rw [← this]
      congr 3
      have := Nat.div_add_mod q esz
      rw [Nat.mul_comm] at this
      omega
    · obtain ⟨q, hq, rfl⟩ := List.mem_map.1 hu
      have hlt' : q < es'.length * esz := by simpa using hq
      have hpos : 0 < esz := by
        rcases Nat.eq_zero_or_pos esz with h0 | h0
        · subst h0; omega
        · exact h0
      have hi : q / esz < es'.length := (Nat.div_lt_iff_lt_mul hpos).2 hlt'
      have hcl := hsz _ (List.getElem_mem hi)
      have hj : q % esz < es'[q / esz].length := by rw [hcl]; exact Nat.mod_lt _ hpos
      exact (hc (q / esz) _ (q % esz) _ (List.getElem?_eq_getElem hi) (List.getElem?_eq_getElem hj)).2.2
  | rs a ver lo n G ad cap hg hv had =>
    simp only [els] at he
    split at he
    · rename_i A hA
      split at he
      · rename_i hcond
        obtain ⟨hver, hlo⟩ := hcond
        injection he with he
        obtain ⟨e1, e2, e3, e4, e5, us, z6, e6, f6, e7, e8⟩ := H.arr a A G hA hg
        have hlen : es.length = n := by rw [← he]; simp; omega
        obtain ⟨h1, h2, h3⟩ := had (by omega)
        refine ⟨ad, cap, by rw [hlen], fun hne => ⟨G.k, lo * G.esz, G.esz, h1, (us.drop (lo * G.esz)).take (n * G.esz), ?_, ⟨?_, ?_⟩, ?_, ?_⟩⟩
        · have hm : (lo + n) * G.esz ≤ G.cap * G.esz := Nat.mul_le_mul_right _ (by omega)
          rw [Nat.add_mul] at hm
          simp [e7, hlen, ← e2]
          omega
        · intro c hc
          rw [← he] at hc
          rw [e2]
          exact e5 c (List.mem_of_mem_drop (List.mem_of_mem_take hc))
        · intro i c j x hi hx
          rw [← he, List.getElem?_take] at hi
          split at hi
          · rename_i hin
            rw [List.getElem?_drop] at hi
            obtain ⟨v, f1, f2, f3⟩ := e8 (lo + i) c j x hi hx
            have hcl := e5 c (List.mem_of_getElem? hi)
            have hj := (List.getElem?_eq_some_iff.1 hx).1
            have hm : (i + 1) * G.esz ≤ n * G.esz := Nat.mul_le_mul_right _ hin
            rw [Nat.add_mul, Nat.one_mul] at hm
            refine ⟨v, ?_, f2, f3⟩
            rw [List.getElem?_take, if_pos (by omega), List.getElem?_drop, ← f1, ← e2]
            congr 1
            rw [Nat.add_mul]
            omega
          · cases hi
        · intro q u hu
          rw [List.getElem?_take] at hu
          split at hu
          · rw [List.getElem?_drop] at hu
            rw [cell_of_row w G.k (lo * G.esz + q) _ _ _ e6]
            simpa using hu
          · cases hu
        · intro u hu
          obtain ⟨q, hq⟩ := List.getElem?_of_mem hu
          rw [List.getElem?_take] at hq
          split at hq
          · rename_i hqn
            rw [List.getElem?_drop] at hq
            have hpos : 0 < A.esz := by
              rcases Nat.eq_zero_or_pos A.esz with h0 | h0
              · rw [e2, h0] at hqn; omega
              · exact h0
            rw [e2] at hqn hq
            have hi : q / A.esz < n := (Nat.div_lt_iff_lt_mul hpos).2 hqn
            have hil : lo + q / A.esz < A.es.length := by omega
            have hcl := e5 _ (List.getElem_mem hil)
            have hj : q % A.esz < A.es[lo + q / A.esz].length := by rw [hcl]; exact Nat.mod_lt _ hpos
            obtain ⟨v, f1, f2, f3⟩ := e8 _ _ _ _ (List.getElem?_eq_getElem hil) (List.getElem?_eq_getElem hj)
            have hqq := Nat.div_add_mod q A.esz
            rw [Nat.mul_comm] at hqq
            rw [show (lo + q / A.esz) * A.esz + q % A.esz = lo * A.esz + q from by rw [Nat.add_mul]; omega, hq] at f1
            injection f1 with f1
            exact f1 ▸ f3
          · cases hq
      · cases he
    · cases he
  | _ => simp [els] at he

theorem rangeAt_add {k p : Nat} {vs : List Value} (hr : w.rangeAt k p vs) : ∀ j u, vs[j]? = some u → w.cell? ((⟨k, p, none⟩ : Addr).add j) = some u := fun j u hu => by
  rw [Addr.add_mid]
  exact hr j u hu

/-- A new array behind an append that doesn't find room. -/
theorem arr_new (H : HR B h g w) {e esz bytes : Nat} {es : List (List AV)} {vs : List Value} {zc : Array Value} (cap : Nat) (hzc : zc.size = esz) (hg : Grid B w g esz es vs) (hl : vs.length = es.length * esz)
    (hle : es.length ≤ cap) (hmax : cap ≤ maxLen) :
    ∃ w' g', w' = w.drew.alloc (.cells (vs.toArray ++ Builtin.zeroCells zc (cap - es.length)) e) ∧ R B w' g' (.rs h.na 0 0 es.length) (.slice (some ⟨w.heap.size, 0, none⟩) es.length cap) ∧
      HR B (h.pa ⟨e, esz, bytes, 0, es, false⟩) g' w' ∧ Step B w g w' g' := by
  have H1 := H.grew (Grew.drew w)
  have s1 := (Grew.drew w).step H.sz g
  have hs := step_na (w := w.drew) H1 (.cells (vs.toArray ++ Builtin.zeroCells zc (cap - es.length)) e) ⟨w.heap.size, 0, cap, esz⟩ rfl
  refine ⟨_, g.na ⟨w.heap.size, 0, cap, esz⟩, rfl, ?_, H1.new_arr _ rfl ⟨rfl, rfl, hle, hmax, hg.sz, vs ++ (Builtin.zeroCells zc (cap - es.length)).toList, (0, 0), ?_, fun _ => rfl, ?_, ?_⟩, s1.trans hs⟩
  · refine .rs _ _ _ _ ⟨w.heap.size, 0, cap, esz⟩ _ _ ?_ (Nat.le_refl _) (fun _ => ⟨by simp, by simp, hle⟩)
    simp only [Gh.na, Hp.na]
    rw [List.getElem?_append_right (by rw [H.la]; exact Nat.le_refl _)]
    simp [H.la]
  · refine (heap_alloc_new w.drew _).trans ?_
    simp
  · simp [hl, size_zeroCells, hzc, ← Nat.add_mul]
    congr 1
    omega
  · intro i c j x hi hx
    obtain ⟨v, a, b, d⟩ := ((hg.step s1).step hs).more _ |>.at_ i c j x hi hx
    exact ⟨v, a, b, d⟩

theorem chkb_all {esz : Nat} {es : List (List AV)} (h : es.all (fun c => c.length == esz) = true) : ∀ c ∈ es, c.length = esz := fun c hc => by
  have := List.all_eq_true.1 h c hc
  simpa using this
/-- The elements' size is what the cells say. -/
theorem grid_esz {esz esz' : Nat} {es : List (List AV)} {vs : List Value} (hne : es ≠ []) (hg : Grid B w g esz es vs) (ha : ∀ c ∈ es, c.length = esz') : esz = esz' := by
  obtain ⟨c, es', rfl⟩ := List.exists_cons_of_ne_nil hne
  rw [← hg.sz c (by simp), ha c (by simp)]

/-- What is put behind, and what the append then does. -/
structure AppSrc (P : Program) (B : Nat) (w : World) (g : Gh) (t t' ty e : TypeId) (i : TypeInfo) (z : Value) (esz : Nat) (yv : Value) (ys : List (List AV)) : Prop where
  none : ys = [] → ∀ (ad : Option Addr) (n cap : Nat), n ≤ cap → (Builtin.append_ #[t, t'] ty #[.slice ad n cap, yv]).run P w = .ok (.slice ad n cap) w
  some : ys ≠ [] → ∃ us : List Value, us.length = ys.length * esz ∧ Grid B w g esz ys us ∧ (∀ u ∈ us, u.oneCell' = true) ∧
    (((ys.length : Nat) : Int) ≤ 9223372036854775807 → ys.length * i.bytes ≤ 281474976710656 → (Builtin.append_ #[t, t'] ty #[.slice .none 0 0, yv]).run P w =
      .ok (.slice (some ⟨w.heap.size, 0, .none⟩) ys.length (grownCap w ys.length 0 e)) (w.drew.alloc (.cells (us.toArray ++ Builtin.zeroCells z.cells (grownCap w ys.length 0 e - ys.length)) e))) ∧
    (∀ (k sLen sCap : Nat) (cur : Array Value), w.heap[k]? = some (.cells cur e (0, 0)) → sLen + ys.length ≤ sCap → sLen * i.size + us.length ≤ cur.size →
      (Builtin.append_ #[t, t'] ty #[.slice (some ⟨k, 0, .none⟩) sLen sCap, yv]).run P w =
        .ok (.slice (some ⟨k, 0, .none⟩) (sLen + ys.length) sCap) (w.setRow k (cur.toList.take (sLen * i.size) ++ us ++ cur.toList.drop (sLen * i.size + us.length)).toArray)) ∧
    (∀ (b : Addr) (sLen sCap : Nat) (olds : List Value), olds.length = sLen * i.size → (∀ j v, olds[j]? = some v → w.cell? (b.add j) = some v) → sCap < sLen + ys.length →
      ((sLen + ys.length : Nat) : Int) ≤ 9223372036854775807 → Builtin.nextslicecap (sLen + ys.length) sCap * i.bytes ≤ 281474976710656 →
      (Builtin.append_ #[t, t'] ty #[.slice (some b) sLen sCap, yv]).run P w =
        .ok (.slice (some ⟨w.heap.size, 0, .none⟩) (sLen + ys.length) (grownCap w (sLen + ys.length) sCap e))
          (w.drew.alloc (.cells (olds.toArray ++ us.toArray ++ Builtin.zeroCells z.cells (grownCap w (sLen + ys.length) sCap e - (sLen + ys.length))) e)))

theorem src_slice (H : HR B h g w) {t e esz : Nat} {i : TypeInfo} {z : Value} (ty : TypeId) (ht : P.underlying t = some (.slice e)) (hi : P.info? e = some i) (hz : i.zero = some z) (hsize : i.size = esz) {y : AV} {yv : Value} {ys : List (List AV)}
    (hy : R B w g y yv) (hys : els h y = some ys) (hall : ys = [] ∨ ys.all (fun c => c.length == esz) = true) : AppSrc P B w g t t ty e i z esz yv ys := by
  obtain ⟨ady, capy, rfl, hyr⟩ := els_ok H hy hys
  constructor
  · intro hy0 ad n cap hnc
    subst hy0
    have hf : (Builtin.firstCells i.size 0 (.slice ady 0 capy)).run P w = .ok #[] w := by
      cases ady with
      | none => exact run_firstCells_none w _ _ _ _
      | some a => exact run_firstCells_some w i.size 0 a 0 capy [] (by simp) (by simp)
    cases ad <;> simp [Builtin.append_, run_underlying ht, sizeOf, typeInfo, hi, Builtin.lenOf, hnc, hf, storeCells]
  · intro hyne
    have hya := hall.resolve_left hyne
    have hypos : 0 < ys.length := List.length_pos_iff.2 hyne
    obtain ⟨ky, py, ey, rfl, us, hul, hug, hur, hu1⟩ := hyr hyne
    have hey : ey = esz := grid_esz hyne hug (chkb_all hya)
    subst hey
    have hnews := rangeAt_add hur
    refine ⟨us, hul, hug, hu1, fun h63 h48 => ?_, fun k sLen sCap cur hg hroom hfit => ?_, fun b sLen sCap olds hlo holds hg h63 hfit => ?_⟩
    · exact run_append_nil w t ty e i z ht hi hz ⟨ky, py, none⟩ ys.length capy us (by rw [hul, hsize]) hnews hypos h63 h48
    · exact run_append_room (P := P) w t ty e i ht hi k sLen sCap cur hg ⟨ky, py, none⟩ ys.length capy us (by rw [hul, hsize]) hnews hu1 hroom hfit
    · exact run_append_grow w t ty e i z ht hi hz b sLen sCap olds hlo holds ⟨ky, py, none⟩ ys.length capy us (by rw [hul, hsize]) hnews hg h63 hfit

theorem src_str {t t' e : Nat} {i : TypeInfo} {z : Value} (ty : TypeId) (ht : P.underlying t = some (.slice e)) (hu : P.underlying t' = some .string) (hi : P.info? e = some i) (hz : i.zero = some z) (hsize : i.size = 1)
    (s : List UInt8) : AppSrc P B w g t t' ty e i z 1 (.string ⟨s.toArray⟩) (s.map fun b => [.int .u8 b.toNat]) := by
  have hsz : (ByteArray.mk s.toArray).size = s.length := by simp [ByteArray.size]
  have hsc : Lib.strCells ⟨s.toArray⟩ = s.map fun b => Value.int .u8 b.toNat := by simp [Lib.strCells]
  constructor
  · intro hy0 ad n cap hnc
    have hs0 : s = [] := by simpa using hy0
    subst hs0
    have hf := Lib.run_firstCells_string (P := P) (w := w) i.size ⟨[].toArray⟩
    have hs0 : (ByteArray.mk #[]).size = 0 := rfl
    have hf' : (Builtin.firstCells i.size 0 (.string ⟨#[]⟩)).run P w = .ok #[] w := hf
    cases ad <;> simp [Builtin.append_, run_underlying ht, run_underlying hu, sizeOf, typeInfo, hi, Builtin.lenOf, hs0, hnc, hf', storeCells]
  · intro hyne
    have hpos : 0 < s.length := by
      rcases Nat.eq_zero_or_pos s.length with h0 | h0
      · exact absurd (by simp [List.length_eq_zero_iff.1 h0]) hyne
      · exact h0
    refine ⟨s.map fun b => .int .u8 b.toNat, by simp, ⟨by simp, fun q c j x hq hx => ?_⟩, by simp [Value.oneCell'], fun h63 h48 => ?_, fun k sLen sCap cur hg hroom hfit => ?_, fun b sLen sCap olds hlo holds hg h63 hfit => ?_⟩
    · obtain ⟨b, hb, rfl⟩ : ∃ b, s[q]? = some b ∧ [AV.int .u8 b.toNat] = c := by simpa using hq
      cases j with
      | zero =>
        simp at hx
        subst hx
        exact ⟨.int .u8 b.toNat, by simp [hb], .int _ _, rfl⟩
      | succ j => simp at hx
    · have := run_append_nil_string (P := P) w t t' ty e i z ht hu hi hz ⟨s.toArray⟩ (by rw [hsz]; exact hpos) (by rw [hsz]; simpa using h63) (by rw [hsz]; simpa using h48)
      simp only [hsz] at this
      simpa using this
    · have := Lib.run_append_room_string (P := P) (w := w) t t' ty e i ht hu hi hsize k sLen sCap cur hg ⟨s.toArray⟩ (by rw [hsz]; simpa using hroom) (by rw [hsz]; simpa [hsize] using hfit)
      simp only [hsz, hsc] at this
      simpa [hsize] using this
    · have := Lib.run_append_grow_string (P := P) (w := w) t t' ty e i z ht hu hi hz b sLen sCap olds hlo holds ⟨s.toArray⟩ (by rw [hsz]; simpa using hg) (by rw [hsz]; simpa using h63) (by rw [hsz]; simpa using hfit)
      simp only [hsz, hsc] at this
      simpa using this

theorem app_core (H : HR B h g w) {t t' e esz bytes : Nat} {i : TypeInfo} {z : Value} (ty : TypeId)
    (hsize : i.size = esz) (hby : i.bytes = bytes) (hzs : z.cells.size = esz) (hsz : 0 < esz) (hb0 : 0 < bytes) {ex : AV} {xv yv : Value} (hx : R B w g ex xv) {ys : List (List AV)}
    (src' : (ys = [] ∨ ys.all (fun c => c.length == esz) = true) → AppSrc P B w g t t' ty e i z esz yv ys)
    {v : AV} {h' : Hp} (hev : appE h e esz bytes ex ys = some (v, h')) :
    ∃ val w' g', (Builtin.append_ #[t, t'] ty #[xv, yv]).run P w = .ok val w' ∧ R B w' g' v val ∧ HR B h' g' w' ∧ Step B w g w' g' := by
  unfold appE at hev
  -- nothing is put behind
  have hnone : ys = [] → ∀ (ad : Option Addr) (n cap : Nat), xv = .slice ad n cap → n ≤ cap → ∃ w', (Builtin.append_ #[t, t'] ty #[xv, yv]).run P w = .ok (.slice ad n cap) w' ∧ w' = w := by
    intro hy0 ad n cap hxv hnc
    subst hxv
    exact ⟨w, (src' (.inl hy0)).none hy0 ad n cap hnc, rfl⟩
  split at hev
  · rename_i f es
    obtain ⟨ad, cap, rfl, hxr⟩ := els_ok H hx (show els h (.vs f es) = some es from rfl)
    have hcap : es.length ≤ cap := by cases hx; assumption
    split at hev
    · rename_i hemp
      have hy0 : ys = [] := by simpa using hemp
      injection hev with hev
      injection hev with h1 h2
      subst h1
      subst h2
      obtain ⟨w', hrun, rfl⟩ := hnone hy0 ad es.length cap rfl hcap
      exact ⟨_, _, g, hrun, hx, H, Step.refl _ _ _⟩
    · rename_i hemp
      split at hev
      · rename_i hc
        obtain ⟨hf, hya, hea, hle⟩ := hc
        injection hev with hev
        injection hev with h1 h2
        subst h1
        subst h2
        have hyne : ys ≠ [] := by simpa using hemp
        have hypos : 0 < ys.length := List.length_pos_iff.2 hyne
        have hcapeq : cap = es.length := by
          cases hx with
          | vs full es ad cap k p esz f had hsz hc hr hcap hfull => exact (hfull hf).1
        subst hcapeq
        obtain ⟨us, hul, hug, hu1, hRnil, hRroom, hRgrow⟩ := (src' (.inr hya)).some hyne
        have hlen63 : es.length + ys.length ≤ 140737488355328 := Nat.le_trans (Nat.le_mul_of_pos_right _ hb0) hle
        have hmaxl : es.length + ys.length ≤ maxLen := by simp only [maxLen]; omega
        by_cases hes : es = []
        · subst hes
          simp only [List.length_nil, Nat.zero_add] at *
          have hge := grownCap_ge w ys.length 0 e
          have hgm := grownCap_le_maxLen w ys.length 0 e hmaxl
          obtain ⟨w', g', rfl, hR, hHR, hst⟩ := arr_new (bytes := bytes) H (e := e) (zc := z.cells) (grownCap w ys.length 0 e) hzs hug hul hge hgm
          refine ⟨_, _, g', ?_, hR, hHR, hst⟩
          cases ad with
          | none =>
            exact hRnil (by omega) (by rw [hby]; omega)
          | some a =>
            have := hRgrow a 0 0 [] (by simp) (by simp) (by omega) (by omega) (growslice_fits (by omega) (by rw [hby, Nat.zero_add]; omega))
            simpa using this
        · obtain ⟨kx, px, ex', rfl, vs, hvl, hvg, hvr, hv1⟩ := hxr hes
          have hex' : ex' = esz := grid_esz hes hvg (chkb_all hea)
          subst hex'
          have hge := grownCap_ge w (es.length + ys.length) es.length e
          have hgm := grownCap_le_maxLen w (es.length + ys.length) es.length e hmaxl
          have hG := hvg.append hvl hug
          obtain ⟨w', g', rfl, hR, hHR, hst⟩ := arr_new (bytes := bytes) H (e := e) (zc := z.cells) (grownCap w (es.length + ys.length) es.length e) hzs hG (by simp [hvl, hul, Nat.add_mul]) (by simpa using hge) hgm
          refine ⟨_, _, g', ?_, by simpa using hR, hHR, hst⟩
          have := hRgrow ⟨kx, px, none⟩ es.length es.length vs (by rw [hvl, hsize]) (rangeAt_add hvr) (by omega) (by omega) (growslice_fits (by omega) (by rw [hby]; omega))
          simpa using this
      · cases hev
  · rename_i r v0 lo n
    split at hev
    · rename_i A hA
      split at hev
      · rename_i hc
        obtain ⟨hver, rfl, hn, hesz, hbytes, hAt, hfz⟩ := hc
        cases hx with
        | rs _ _ _ _ G ad cap hg hv had =>
        obtain ⟨e1, e2, e3, e4, e5, cur, z6, e6, f6, e7, e8⟩ := H.arr r A G hA hg
        have hz6 := f6 hfz
        subst hz6
        obtain ⟨had1, had2, had3⟩ := had (by omega)
        simp only [Nat.zero_mul, Nat.add_zero] at had1 had2
        subst had1
        subst had2
        split at hev
        · rename_i hemp
          have hy0 : ys = [] := by simpa using hemp
          injection hev with hev
          injection hev with h1 h2
          subst h1
          subst h2
          obtain ⟨w', hrun, rfl⟩ := hnone hy0 _ n _ rfl had3
          exact ⟨_, _, g, hrun, .rs r v0 0 n G _ _ hg hv had, H, Step.refl _ _ _⟩
        · rename_i hemp
          split at hev
          · rename_i hc
            obtain ⟨hya, hle⟩ := hc
            injection hev with hev
            injection hev with h1 h2
            subst h1
            subst h2
            have hyne : ys ≠ [] := by simpa using hemp
            have hypos : 0 < ys.length := List.length_pos_iff.2 hyne
            obtain ⟨us, hul, hug, hu1, hRnil, hRroom, hRgrow⟩ := (src' (.inr hya)).some hyne
            have hlen63 : n + ys.length ≤ 140737488355328 := Nat.le_trans (Nat.le_mul_of_pos_right _ hb0) hle
            have hmaxl : n + ys.length ≤ maxLen := by simp only [maxLen]; omega
            have hAg : Grid B w g A.esz A.es cur := ⟨e5, e8⟩
            have hm1 : n * A.esz ≤ G.cap * A.esz := Nat.mul_le_mul_right _ had3
            have hisz : i.size = A.esz := hsize.trans hesz.symm
            by_cases hroom : n + ys.length ≤ G.cap
            · -- room
              have hm2 : (n + ys.length) * A.esz ≤ G.cap * A.esz := Nat.mul_le_mul_right _ hroom
              rw [Nat.add_mul] at hm2
              have hrun := hRroom G.k n G.cap cur.toArray (by rw [← hAt]; exact e6) hroom (by rw [hsize, hul, ← hesz]; simp; omega)
              have hsg := step_ga H (G' := ⟨G.k, G.ver + 1, G.cap, G.esz⟩) (w' := w.setRow G.k (cur.take (n * i.size) ++ us ++ cur.drop (n * i.size + us.length)).toArray) hg rfl (.inl rfl) rfl rfl rfl (by simp) (fun k _ hk => setRow_other w G.k k _ hk)
              refine ⟨_, _, g.ga r ⟨G.k, G.ver + 1, G.cap, G.esz⟩, hrun, ?_, H.re_arr hg hsg (.inl rfl) (fun k _ hk => setRow_other w G.k k _ hk) ⟨by simp [e1, hver], e2, ?_, e4, ?_, _, _, setRow_heap w G.k _ _ _ _ e6, fun _ => rfl, ?_, ?_⟩, hsg⟩
              · refine .rs _ _ _ _ ⟨G.k, G.ver + 1, G.cap, G.esz⟩ _ _ (by simp [Gh.ga, (List.getElem?_eq_some_iff.1 hg).1]) (by simp; omega) (fun _ => ⟨by simp, by simp, hroom⟩)
              · simp; omega
              · intro c hc
                rcases List.mem_append.1 hc with hc | hc
                · exact e5 c (List.mem_of_mem_take hc)
                · rw [hesz]; exact chkb_all hya c hc
              · have : us.length = ys.length * A.esz := by rw [hul, hesz]
                simp [hsize, ← hesz]
                omega
              · intro j c q x hj hx
                dsimp only at hj ⊢
                have hgr := (((hAg.take n).append (by rw [List.length_take, List.length_take, e7, Nat.min_eq_left hm1, Nat.min_eq_left hn]) (hesz ▸ hug)).more (cur.drop (n * A.esz + us.length))).step hsg
                have := hgr.at_ j c q x hj hx
                simp only [hisz] at this ⊢
                exact this
            · -- no room
              have hge := grownCap_ge w (n + ys.length) G.cap e
              have hgm := grownCap_le_maxLen w (n + ys.length) G.cap e hmaxl
              have holds : ∀ j u, (cur.take (n * i.size))[j]? = some u → w.cell? ((⟨G.k, 0, none⟩ : Addr).add j) = some u := by
                intro j u hu
                rw [List.getElem?_take] at hu
                split at hu
                · rw [Addr.add_mid, cell_of_row w G.k (0 + j) _ _ _ e6]
                  simpa using hu
                · cases hu
              have hrun := hRgrow ⟨G.k, 0, none⟩ n G.cap (cur.take (n * i.size)) (by rw [List.length_take, e7, hsize, ← hesz]; omega) holds (by omega) (by omega) (growslice_fits (by omega) (by rw [hby]; omega))
              have H1 := H.grew (Grew.drew w)
              have s1 := (Grew.drew w).step H.sz g
              have hold : ∀ k, k < w.drew.heap.size → k ≠ G.k → (w.drew.alloc (.cells ((cur.take (n * i.size)).toArray ++ us.toArray ++ Builtin.zeroCells z.cells (grownCap w (n + ys.length) G.cap e - (n + ys.length))) e)).heap[k]? = w.drew.heap[k]? :=
                fun k hk _ => heap_alloc_old w.drew _ k hk
              have hsg := step_ga (w := w.drew) (w' := w.drew.alloc (.cells ((cur.take (n * i.size)).toArray ++ us.toArray ++ Builtin.zeroCells z.cells (grownCap w (n + ys.length) G.cap e - (n + ys.length))) e)) H1 (G' := ⟨w.heap.size, G.ver + 1, grownCap w (n + ys.length) G.cap e, G.esz⟩) hg rfl (.inr rfl) rfl rfl rfl (by simp) hold
              refine ⟨_, _, g.ga r ⟨w.heap.size, G.ver + 1, grownCap w (n + ys.length) G.cap e, G.esz⟩, hrun, ?_, H1.re_arr hg hsg (.inr rfl) hold ⟨by simp [e1, hver], e2, ?_, hgm, ?_, (cur.take (n * i.size) ++ us) ++ (Builtin.zeroCells z.cells (grownCap w (n + ys.length) G.cap e - (n + ys.length))).toList, (0, 0), ?_, fun _ => rfl, ?_, ?_⟩, s1.trans hsg⟩
              · refine .rs _ _ _ _ ⟨w.heap.size, G.ver + 1, grownCap w (n + ys.length) G.cap e, G.esz⟩ _ _ (by simp [Gh.ga, (List.getElem?_eq_some_iff.1 hg).1]) (by simp; omega) (fun _ => ⟨by simp, by simp, hge⟩)
              · simp; omega
              · intro c hc
                rcases List.mem_append.1 hc with hc | hc
                · exact e5 c (List.mem_of_mem_take hc)
                · rw [hesz]; exact chkb_all hya c hc
              · refine (heap_alloc_new w.drew _).trans ?_
                simp [hAt]
              · have h5 : us.length = ys.length * A.esz := by rw [hul, hesz]
                have h6 : (Builtin.zeroCells z.cells (grownCap w (n + ys.length) G.cap e - (n + ys.length))).toList.length = (grownCap w (n + ys.length) G.cap e - (n + ys.length)) * A.esz := by
                  rw [Array.length_toList, size_zeroCells, hzs, hesz]
                rw [List.length_append, List.length_append, List.length_take, e7, hisz, Nat.min_eq_left hm1, h5, h6, ← Nat.add_mul, ← Nat.add_mul]
                congr 1
                dsimp only
                omega
              · intro j c q x hj hx
                dsimp only at hj ⊢
                have hgr := ((((hAg.take n).append (by rw [List.length_take, List.length_take, e7, Nat.min_eq_left hm1, Nat.min_eq_left hn]) (hesz ▸ hug)).more (Builtin.zeroCells z.cells (grownCap w (n + ys.length) G.cap e - (n + ys.length))).toList).step s1).step hsg
                have := hgr.at_ j c q x hj hx
                simp only [hisz] at this ⊢
                exact this
          · cases hev
      · cases hev
    · cases hev
  · cases hev

theorem app_good (H : HR B h g w) {t e esz bytes : Nat} {i : TypeInfo} {z : Value} (ty : TypeId) (ht : P.underlying t = some (.slice e)) (hi : P.info? e = some i) (hz : i.zero = some z)
    (hsize : i.size = esz) (hby : i.bytes = bytes) (hzs : z.cells.size = esz) (hsz : 0 < esz) (hb0 : 0 < bytes) {E : Opd → AV} {x y : Opd} {xv yv : Value} (hx : R B w g (E x) xv) (hy : R B w g (E y) yv)
    {v : AV} {h' : Hp} (hev : evop E h (.app e esz bytes x y) = some (v, h')) :
    ∃ val w' g', (Builtin.append_ #[t, t] ty #[xv, yv]).run P w = .ok val w' ∧ R B w' g' v val ∧ HR B h' g' w' ∧ Step B w g w' g' := by
  simp only [evop] at hev
  obtain ⟨ys, hys, hev⟩ := Option.bind_eq_some_iff.1 hev
  exact app_core H ty hsize hby hzs hsz hb0 hx (fun hall => src_slice H ty ht hi hz hsize hy hys hall) hev
theorem apps_good (H : HR B h g w) {t t' e bytes : Nat} {i : TypeInfo} {z : Value} (ty : TypeId) (ht : P.underlying t = some (.slice e)) (hu : P.underlying t' = some .string) (hi : P.info? e = some i) (hz : i.zero = some z)
    (hsize : i.size = 1) (hby : i.bytes = bytes) (hzs : z.cells.size = 1) (hb0 : 0 < bytes) {E : Opd → AV} {x y : Opd} {xv yv : Value} (hx : R B w g (E x) xv) (hy : R B w g (E y) yv)
    {v : AV} {h' : Hp} (hev : evop E h (.apps e bytes x y) = some (v, h')) :
    ∃ val w' g', (Builtin.append_ #[t, t'] ty #[xv, yv]).run P w = .ok val w' ∧ R B w' g' v val ∧ HR B h' g' w' ∧ Step B w g w' g' := by
  simp only [evop] at hev
  split at hev
  · rename_i s hs
    rw [hs] at hy
    cases hy
    exact app_core H ty hsize hby hzs (by omega) hb0 hx (fun _ => src_str ty ht hu hi hz hsize s) hev
  · cases hev
end
end Go.Ab
