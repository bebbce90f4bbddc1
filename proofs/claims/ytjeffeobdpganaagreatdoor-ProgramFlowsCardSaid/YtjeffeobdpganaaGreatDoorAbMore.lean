/- More operations: a row's field; pointers that are one; unsafe pointers; clear; unsafe.SliceData, unsafe.String. -/
import Derived.Test.YtjeffeobdpganaaGreatDoorAbMk
import Derived.Lib.Builder
import Derived.Lib.UnsafeStr
set_option linter.unusedSimpArgs false
set_option linter.unusedVariables false
namespace Go.Ab
open Go.RowKit (Below)
section
variable {P : Program} {B : Nat} {w : World} {g : Gh} {h : Hp}

theorem ite_some {α : Type} {c : Prop} [Decidable c] {x b : α} (h : (if c then some x else none) = some b) : c ∧ x = b := by
  split at h
  · rename_i hc; injection h with h; exact ⟨hc, h⟩
  · cases h
theorem ite_opt' {α : Type} {c : Prop} [Decidable c] {x : Option α} {b : α} (h : (if c then x else none) = some b) : c ∧ x = some b := by
  split at h
  · rename_i hc; exact ⟨hc, h⟩
  · cases h
theorem field_good {s : TypeId} {fs : Array Field} {f : Field} {i n : Nat} {ag : Bool} (hu : P.underlying s = some (.struct fs)) (hf : fs[i]? = some f) (hn : szT P f.type = some n)
    (hag : ((P.underlying f.type).map fun d => match d with
      | .struct _ | .array _ _ => true
      | _ => false) = some ag) (h1 : ag = true ∨ n = 1) {cs cs' : List AV} {xv : Value} (hx : R B w g (.agg cs) xv) (hs : sub cs f.offset n = some cs') {v : AV} (hm : mkv ag cs' = some v) :
    ∃ val, (Instr.field s xv i).run P w = .ok val w ∧ R B w g v val := by
  cases hx with
  | agg _ vs hl hr ho =>
  obtain ⟨hle, rfl⟩ := sub_some hs
  obtain ⟨d, hd, hag⟩ := Option.map_eq_some_iff.1 hag
  have hia : (isAgg f.type).run P w = .ok ag w := by
    unfold isAgg
    rw [Sem.run_bind, run_underlying hd w]
    subst hag
    cases d <;> simp
  cases ag with
  | true =>
    simp [mkv] at hm
    subst hm
    refine ⟨.agg ((vs.drop f.offset).take n).toArray, ?_, ?_⟩
    · simp only [Instr.field, Sem.run_bind, run_underlying hu, Result.andThen_ok, hf, asAgg, Sem.run_pure, part, hia, szT_run hn w, if_true]
      congr 2
      apply Array.ext'
      simp [Array.toList_extract, List.extract]
    · have hRL : RL B w g ((cs.drop f.offset).take n) ((vs.drop f.offset).take n) := ((RL.mk hl hr).drop _).take _
      exact .agg _ _ hRL.len hRL.at_ fun v hv => ho v (List.mem_of_mem_drop (List.mem_of_mem_take hv))
  | false =>
    have hn1 : n = 1 := by simpa using h1
    subst hn1
    simp only [mkv, Bool.false_eq_true, if_false] at hm
    split at hm
    · rename_i y hy
      injection hm with hm
      subst hm
      have hcy : cs[f.offset]? = some y := by
        have : ((cs.drop f.offset).take 1)[0]? = some y := by rw [hy]; rfl
        simpa using this
      have hlt : f.offset < vs.length := by rw [← hl]; exact (List.getElem?_eq_some_iff.1 hcy).1
      refine ⟨vs[f.offset], ?_, hr _ _ _ hcy (List.getElem?_eq_getElem hlt)⟩
      simp [Instr.field, run_underlying hu, hf, asAgg, part, hia, hlt]
    · cases hm

theorem psame_good {neg : Bool} {op : BinOp} (hop : op = (if neg then .neq else .eql)) {t e : TypeId} (hu : P.underlying t = some (.pointer e)) {j : TypeInfo} (he : P.info? e = some j) {b o : Nat} {xv yv : Value} (hx : R B w g (.ptr b o) xv) (hy : R B w g (.ptr b o) yv) (n : Option Nat) :
    (binOp op t xv yv).run P w = .ok (.bool !neg) w := by
  cases hx with
  | ptr _ _ k hb =>
  cases hy with
  | ptr _ _ k' hb' =>
  rw [hb] at hb'
  injection hb' with hb'
  subst hb'
  subst hop
  have h : ∀ d : Nat, (Op.equalIn (d + 1) t (.pointer (some ⟨k, o, none⟩)) (.pointer (some ⟨k, o, none⟩))).run P w = .ok true w := fun d => by
    simp [Op.equalIn, run_underlying hu, sizeOf, typeInfo, he, run_sameAddr_same]
  cases neg
  · simp only [Bool.false_eq_true, if_false, binOp]
    simp [Op.equal, Op.maxDepth, h 9999]
  · simp only [if_true, binOp]
    simp [Op.equal, Op.maxDepth, h 9999]

theorem box_shape (H : HR B h g w) {b k : Nat} {t : TypeId} {cs : List AV} (hb : g.bb[b]? = some k) (hbx : h.bx[b]? = some (.cells t cs)) : w.shape? k = some (t, cs.length) := by
  obtain ⟨vs, h1, h2, _⟩ := H.box b _ k hbx hb
  simp [World.shape?, h1, h2.len]

theorem arr_shape (H : HR B h g w) {a : Nat} {G : AG} {A : Arr} (hA : h.ar[a]? = some A) (hG : g.ab[a]? = some G) : w.shape? G.k = some (A.t, G.cap * A.esz) := by
  obtain ⟨_, _, _, _, _, vs, z, h6, _, h7, _⟩ := H.arr a A G hA hG
  simp [World.shape?, h6, h7]

theorem clr_good (H : HR B h g w) {t e : TypeId} (hu : P.underlying t = some (.slice e)) {zv : Value} (hz : zrT P e = some zv) {z : AV} (hzR : R B w g z zv) (hz1 : zv.cells = #[zv] ∧ zv.oneCell' = true) {x : AV} {xv : Value} (hx : R B w g x xv) (ts : List TypeId) (ty : TypeId)
    {v : AV} {h' : Hp} {y : Opd} {E : Opd → AV} (hy : E y = x) (hev : evop E h (.clr z y) = some (v, h')) :
    v = undefA ∧ ∃ w', (Builtin.clear_ (t :: ts).toArray ty #[xv]).run P w = .ok (.tuple #[]) w' ∧ HR B h' g w' ∧ Step B w g w' g := by
  simp only [evop, hy] at hev
  split at hev
  · rename_i f es
    split at hev
    · rename_i he
      injection hev with hev; injection hev with h1 h2; subst h1; subst h2
      have : es = [] := by simpa using he
      subst this
      cases hx with
      | vs _ _ ad cap k p esz ff had hsz hc hr hcap hfull =>
      refine ⟨rfl, w, ?_, H, Step.refl _ _ _⟩
      cases ad <;> simp [Builtin.clear_, run_underlying hu]
    · cases hev
  · rename_i r v0 lo n
    split at hev
    · rename_i A hA
      split at hev
      · rename_i hc
        obtain ⟨hver, hfz, hesz, hle⟩ := hc
        injection hev with hev; injection hev with h1 h2; subst h1; subst h2
        cases hx with
        | rs _ _ _ _ G ad cap hG hv had =>
        obtain ⟨e1, e2, e3, e4, e5, us, z6, e6, f6, e7, e8⟩ := H.arr r A G hA hG
        have hz6 := f6 hfz
        subst hz6
        obtain ⟨had1, had2, had3⟩ := had (by omega)
        subst had1
        refine ⟨rfl, ?_⟩
        by_cases hn0 : n = 0
        · subst hn0
          refine ⟨w, by simp [Builtin.clear_, run_underlying hu], ?_, Step.refl _ _ _⟩
          have : (h.sa r { A with es := setE A.es lo (List.replicate 0 [z]) }) = h := by
            have hsame : { A with es := setE A.es lo (List.replicate 0 [z]) } = A := by
              simp [setE]
            rw [hsame]
            unfold Hp.sa
            have hlt := (List.getElem?_eq_some_iff.1 hA).1
            have := (List.getElem?_eq_some_iff.1 hA).2
            cases h
            congr
            simp only at hlt this ⊢
            rw [← this]
            exact List.set_getElem_self hlt
          rw [this]
          exact H
        · have e2' : G.esz = 1 := by omega
          have hzc : (Builtin.zeroCells zv.cells n).toList = List.replicate n zv := by
            rw [hz1.1]
            apply List.ext_getElem?
            intro i
            simp only [Builtin.zeroCells, Array.toList_map, Array.toList_range, List.getElem?_map, List.getElem?_replicate]
            by_cases hi : i < n
            · simp [hi, Nat.mod_one]
            · simp [hi]
          have hul : us.length = G.cap := by rw [e7]; rw [hesz]; omega
          have hrun := run_storeCells_at (P := P) G.k lo A.t (List.replicate n zv) 0 us.toArray w e6 (by simp; omega) (fun v hv => by rw [List.eq_of_mem_replicate hv]; exact hz1.2)
          simp only [Nat.add_zero, List.length_replicate] at hrun
          have hs := step_setRow H (live_ab hG) (us.take lo ++ List.replicate n zv ++ us.drop (lo + n)).toArray
          refine ⟨_, ?_, H.set_arr hG hs ⟨e1, e2, ?_, e4, ?_, _, _, setRow_heap w G.k _ _ _ _ e6, fun _ => rfl, ?_, ?_⟩ (fun i hi => setRow_other w G.k i _ hi), hs⟩
          · simp only [Builtin.clear_, e2', Nat.mul_one]
            obtain ⟨n', rfl⟩ : ∃ n', n = n' + 1 := ⟨n - 1, by omega⟩
            simp only [List.append_assoc] at hrun
            simp [run_underlying hu, zrT_run hz w, hzc, hrun]
          · simp [setE]; omega
          · intro c hc
            simp only [setE] at hc
            rcases List.mem_append.1 hc with hc | hc
            · rcases List.mem_append.1 hc with hc | hc
              · exact e5 c (List.mem_of_mem_take hc)
              · rw [List.eq_of_mem_replicate hc]; simp; omega
            · exact e5 c (List.mem_of_mem_drop hc)
          · simp; rw [hesz]; omega
          · intro i c j x hi hj
            dsimp only at hi ⊢
            have hl1 : (List.take lo A.es).length = lo := by simp; omega
            have hl2 : (List.take lo us).length = lo := by simp; omega
            simp only [setE, List.length_replicate] at hi
            rw [hesz, Nat.mul_one]
            have old : ∀ c0, A.es[i]? = some c0 → c0[j]? = some x → (i < lo ∨ lo + n ≤ i) → ∃ v, (List.take lo us ++ List.replicate n zv ++ List.drop (lo + n) us)[i + j]? = some v ∧ R B (w.setRow G.k (us.take lo ++ List.replicate n zv ++ us.drop (lo + n)).toArray) g x v ∧ v.oneCell' = true := by
              intro c0 hc0 hx0 hr
              obtain ⟨v, q1, q2, q3⟩ := e8 i c0 j x hc0 hx0
              have hc01 : c0.length = 1 := by rw [e5 c0 (List.mem_of_getElem? hc0)]; exact hesz
              have hj0 : j = 0 := by have := (List.getElem?_eq_some_iff.1 hx0).1; omega
              subst hj0
              rw [hesz, Nat.mul_one, Nat.add_zero] at q1
              refine ⟨v, ?_, q2.step hs, q3⟩
              rw [Nat.add_zero]
              rcases hr with hr | hr
              · rw [List.append_assoc, List.getElem?_append_left (by omega), List.getElem?_take, if_pos hr]; exact q1
              · rw [List.getElem?_append_right (by simp; omega), List.getElem?_drop]
                rw [← q1]
                congr 1
                simp
                omega
            rcases Nat.lt_or_ge i lo with hlt | hge
            · rw [List.append_assoc, List.getElem?_append_left (by omega), List.getElem?_take, if_pos hlt] at hi
              exact old c hi hj (.inl hlt)
            · rcases Nat.lt_or_ge i (lo + n) with hlt2 | hge2
              · rw [List.getElem?_append_left (by simp; omega), List.getElem?_append_right (by omega), hl1, List.getElem?_replicate, if_pos (by omega)] at hi
                injection hi with hi
                subst hi
                have hj0 : j = 0 := by have := (List.getElem?_eq_some_iff.1 hj).1; simpa using this
                subst hj0
                simp at hj
                subst hj
                refine ⟨zv, ?_, hzR.step hs, hz1.2⟩
                rw [Nat.add_zero, List.getElem?_append_left (by simp; omega), List.getElem?_append_right (by omega), hl2, List.getElem?_replicate, if_pos (by omega)]
              · rw [List.getElem?_append_right (by simp; omega), List.getElem?_drop] at hi
                have e' : lo + n + (i - (List.take lo A.es ++ List.replicate n [z]).length) = i := by simp; omega
                rw [e'] at hi
                exact old c hi hj (.inr hge2)
      · cases hev
    · cases hev
  · cases hev

/-- An array is frozen: what it holds stands. -/
theorem frozen_arr (H : HR B h g w) {r : Nat} {G : AG} {A : Arr} (hA : h.ar[r]? = some A) (hG : g.ab[r]? = some G) (n : Nat) :
    HR B (h.sa r { A with fz := true }) g (w.freeze ⟨G.k, 0, none⟩ n) ∧ Step B w g (w.freeze ⟨G.k, 0, none⟩ n) g := by
  have hlive := live_ab hG
  have hs : Step B w g (w.freeze ⟨G.k, 0, none⟩ n) g :=
    ⟨Lib.below_freeze (Below.refl B w) (p := ⟨G.k, 0, none⟩) (H.low _ hlive) n, fun _ _ h => h, fun _ G h => ⟨G, h, Nat.le_refl _, fun _ => rfl⟩, fun _ h => .inl h, fun G h => .inl ⟨G, h, rfl⟩, fun _ _ h => h,
      fun _ _ _ _ hc => by rw [freeze_cell]; exact hc, fun i _ hb ha hnp => freeze_other w _ n fun e => ha G (List.mem_of_getElem? hG) (e ▸ rfl), fun _ _ h => .inl h⟩
  obtain ⟨e1, e2, e3, e4, e5, us, z6, e6, f6, e7, e8⟩ := H.arr r A G hA hG
  have hblk : ∃ z', (w.freeze ⟨G.k, 0, none⟩ n).heap[G.k]? = some (.cells us.toArray A.t z') := by
    unfold World.freeze
    split
    · exact ⟨z6, e6⟩
    · simp only [Array.getElem?_modify, if_true, e6, Option.map_some]
      obtain ⟨lo, hi⟩ := z6
      exact ⟨_, rfl⟩
  obtain ⟨z', hz'⟩ := hblk
  exact ⟨H.set_arr hG hs ⟨e1, e2, e3, e4, e5, us, z', hz', (fun hf => (by cases hf)), e7, fun i c j x hi hx => by
    obtain ⟨v, a, b, c⟩ := e8 i c j x hi hx
    exact ⟨v, a, b.step hs, c⟩⟩ (fun i hi => freeze_other w _ n hi), hs⟩

theorem bytesB_get : ∀ {es : List (List AV)} {s : List UInt8}, bytesB es = some s → s.length = es.length ∧ ∀ (j : Nat) (x : UInt8), s[j]? = some x → es[j]? = some [.int .u8 x.toNat]
  | [], s, h => by simp [bytesB] at h; subst h; exact ⟨rfl, fun j x hx => by simp at hx⟩
  | c :: es, s, h => by
    unfold bytesB at h
    split at h
    · simp at *
    · rename_i m l heq
      injection heq with h1 h2
      subst h1
      subst h2
      split at h
      · rename_i hm
        obtain ⟨r, hr, rfl⟩ := Option.map_eq_some_iff.1 h
        obtain ⟨h3, h4⟩ := bytesB_get hr
        refine ⟨by simp [h3], fun j x hx => ?_⟩
        cases j with
        | zero =>
          simp at hx
          subst hx
          have : ((UInt8.ofNat m.toNat).toNat : Int) = m := by
            rw [UInt8.toNat_ofNat']
            omega
          show some [AV.int .u8 m] = _
          rw [this]
        | succ j => simp at hx; simpa using h4 j x hx
      · cases h
    · cases h

theorem usd_good {x : AV} {xv : Value} (H : HR B h g w) (hx : R B w g x xv) {y : Opd} {E : Opd → AV} (hy : E y = x) {v : AV} {h' : Hp} (hev : evop E h (.usd y) = some (v, h')) (ts : Array TypeId) (ty : TypeId) :
    h' = h ∧ ∃ val, (Builtin.unsafeSliceData_ ts ty #[xv]).run P w = .ok val w ∧ R B w g v val := by
  simp only [evop, hy] at hev
  split at hev
  · injection hev with hev; injection hev with h1 h2; subst h1; subst h2
    cases hx with
    | vs _ _ ad cap k p esz ff had hsz hc hr hcap hfull =>
    obtain ⟨_, _, hn⟩ := hfull rfl
    have := hn rfl
    subst this
    exact ⟨rfl, _, Lib.run_unsafeSliceData_nil w ts ty _ _, .nilp⟩
  · rename_i r v0 n
    split at hev
    · rename_i A hA
      split at hev
      · rename_i hc
        obtain ⟨hver, hesz, hn⟩ := hc
        injection hev with hev; injection hev with h1 h2; subst h1; subst h2
        cases hx with
        | rs _ _ _ _ G ad cap hG hv had =>
        obtain ⟨e1, e2, _⟩ := H.arr r A G hA hG
        obtain ⟨a1, a2, a3⟩ := had (by omega)
        subst a1
        exact ⟨rfl, _, Lib.run_unsafeSliceData_row w ts ty _ _ _ (by omega), .aptr r v0 0 0 G _ hG hv fun _ => by simp⟩
      · cases hev
    · cases hev
  · cases hev

theorem ust_good {pt it t : TypeId} (H : HR B h g w) (hp : P.underlying pt = some (.pointer t)) (hc1 : P.cellsOf t = 1) {xp xn : AV} {pv nv : Value} (h1 : R B w g xp pv) (h2 : R B w g xn nv) {yp yn : Opd} {E : Opd → AV} (hyp : E yp = xp) (hyn : E yn = xn)
    {v : AV} {h' : Hp} (hev : evop E h (.ust t yp yn) = some (v, h')) (ty : TypeId) :
    ∃ val w', (Builtin.unsafeString_ #[pt, it] ty #[pv, nv]).run P w = .ok val w' ∧ R B w' g v val ∧ HR B h' g w' ∧ Step B w g w' g := by
  simp only [evop, hyp, hyn] at hev
  split at hev
  · obtain ⟨hn, hev2⟩ := ite_some hev
    subst hn
    injection hev2 with h3 h4; subst h3; subst h4
    cases h1
    cases h2
    refine ⟨_, w, Lib.run_unsafeString_none w pt it ty none, ?_, H, Step.refl _ _ _⟩
    have : R B w g (.str []) (.string ⟨([] : List UInt8).toArray⟩) := .str []
    exact this
  · rename_i n r v0
    split at hev
    · rename_i A hA
      obtain ⟨⟨hver, hn0, hesz, ht, hnl⟩, hev2⟩ := ite_opt' hev
      subst ht
      obtain ⟨s, hs, hev3⟩ := Option.map_eq_some_iff.1 hev2
      injection hev3 with h3 h4; subst h3; subst h4
      cases h1 with
      | aptr _ _ _ _ G ad hG hv had =>
      cases h2
      obtain ⟨e1, e2, e3, e4, e5, us, z6, e6, f6, e7, e8⟩ := H.arr r A G hA hG
      have had' := had (by omega)
      subst had'
      obtain ⟨hl, hget⟩ := bytesB_get hs
      have hlen : s.length = n.toNat := by rw [hl, List.length_take]; omega
      have hsl : (s.length : Int) = n := by omega
      have hcell : ∀ j x, s[j]? = some x → w.cell? ((⟨G.k, 0, none⟩ : Addr).add j) = some (.int .u8 x.toNat) := by
        intro j x hx
        have hj : j < s.length := (List.getElem?_eq_some_iff.1 hx).1
        have h5 := hget j x hx
        rw [List.getElem?_take, if_pos (by omega)] at h5
        obtain ⟨u, q1, q2, _⟩ := e8 j _ 0 (.int .u8 x.toNat) h5 rfl
        cases q2
        rw [hesz, Nat.mul_one, Nat.add_zero] at q1
        have hadd : (⟨G.k, 0, none⟩ : Addr).add j = ⟨G.k, j, none⟩ := by unfold Addr.add; split <;> simp_all
        rw [hadd, cell_of_row w G.k j _ _ _ e6]
        simpa using q1
      have hrun := Lib.run_unsafeString_row (P := P) w pt it ty A.t hp hc1 G.k _ (arr_shape H hA hG) s (by intro e; subst e; simp at hlen; omega) (by rw [hesz, hlen]; omega) (by simp only [maxLen] at e4; omega) hcell
      rw [hsl] at hrun
      obtain ⟨H', hS⟩ := frozen_arr H hA hG s.length
      refine ⟨.string ⟨s.toArray⟩, _, ?_, .str s, H', hS⟩
      simpa using hrun
    · cases hev
  · cases hev

theorem upc_good (H : HR B h g w) {s d t : TypeId} {n : Nat} (hn : 0 < n) (hc : (match P.underlying s, P.underlying d with
      | some (.pointer t'), some .unsafePointer => t == t' && (match P.info? t with
          | some j => j.size != 0
          | none => false)
      | some .unsafePointer, some (.pointer t') => t == t' && (P.info? t).isSome && liesAt P P.depth t (n / P.cellsOf t) 0 t 1
      | _, _ => false) = true) {x : AV} {xv : Value} (hx : R B w g x xv) {y : Opd} {E : Opd → AV} (hy : E y = x) {v : AV} {h' : Hp} (hev : evop E h (.upc t n y) = some (v, h')) :
    h' = h ∧ (convert s d xv).run P w = .ok xv w ∧ R B w g v xv := by
  simp only [evop, hy] at hev
  split at hev
  · rename_i b
    split at hev
    · rename_i t' cs hbx
      split at hev
      · rename_i hcc
        obtain ⟨rfl, rfl⟩ := hcc
        injection hev with hev; injection hev with h1 h2; subst h1; subst h2
        have hx' := hx
        cases hx with
        | ptr _ _ k hb =>
        have hsh := box_shape H hb hbx
        refine ⟨rfl, ?_, hx'⟩
        split at hc
        · rename_i t2 hu1 hu2
          simp only [Bool.and_eq_true, beq_iff_eq] at hc
          obtain ⟨rfl, hc⟩ := hc
          split at hc
          · rename_i j hj
            exact Lib.run_to_unsafe w ⟨k, 0, none⟩ hu1 hu2 hj (by simpa using hc) hsh hn
          · cases hc
        · rename_i t2 hu1 hu2
          simp only [Bool.and_eq_true, beq_iff_eq] at hc
          obtain ⟨⟨rfl, hi⟩, hl⟩ := hc
          obtain ⟨j, hj⟩ := Option.isSome_iff_exists.1 hi
          exact Lib.run_from_unsafe w ⟨k, 0, none⟩ hu1 hu2 hj hsh hl
        · cases hc
      · cases hev
    · cases hev
  · cases hev
end
end Go.Ab
