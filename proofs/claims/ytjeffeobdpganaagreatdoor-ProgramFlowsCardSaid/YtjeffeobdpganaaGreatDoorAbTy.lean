/- Data of a type: how many cells, where its fields lie. -/
import Derived.Test.YtjeffeobdpganaaGreatDoorAbShut
set_option linter.unusedSimpArgs false
set_option linter.unusedVariables false
namespace Go.Ab

mutual
theorem D.okL : ∀ (d : D) (nb na : Nat), AV.okL nb na d.cells = true
  | .b _, _, _ => rfl
  | .i _ _, _, _ => rfl
  | .s _, _, _ => rfl
  | .l es, nb, na => by simp [D.cells, AV.okL, AV.ok, D.okLL es nb na]
  | .a fs, nb, na => by simp [D.cells, D.okLs fs nb na]
theorem D.okLs : ∀ (ds : List D) (nb na : Nat), AV.okL nb na (D.cellsL ds) = true
  | [], _, _ => rfl
  | d :: ds, nb, na => by
    have h : ∀ (a b : List AV), AV.okL nb na a = true → AV.okL nb na b = true → AV.okL nb na (a ++ b) = true := by
      intro a b ha hb
      induction a with
      | nil => exact hb
      | cons x a ih =>
        simp only [AV.okL, Bool.and_eq_true] at ha
        simp [AV.okL, ha.1, ih ha.2]
    exact h _ _ (D.okL d nb na) (D.okLs ds nb na)
theorem D.okLL : ∀ (ds : List D) (nb na : Nat), AV.okLL nb na (D.cellsLL ds) = true
  | [], _, _ => rfl
  | d :: ds, nb, na => by simp [D.cellsLL, AV.okLL, D.okL d nb na, D.okLL ds nb na]
end

theorem sub_all {cs : List AV} {n : Nat} (h : cs.length = n) : sub cs 0 n = some cs := by
  subst h
  simp [sub]
theorem sub_sub {cs c x : List AV} {o n o' n' : Nat} (h : sub cs o n = some c) (h' : sub c o' n' = some x) : sub cs (o + o') n' = some x := by
  unfold sub at h h' ⊢
  split at h
  · rename_i hle
    injection h with h
    subst h
    split at h'
    · rename_i hle'
      injection h' with h'
      subst h'
      simp only [List.length_take, List.length_drop] at hle'
      rw [if_pos (by omega)]
      congr 1
      rw [List.drop_take, List.drop_drop, List.take_take, Nat.min_eq_left (by omega)]
    · cases h'
  · cases h

structure Tys (P : Program) (ts : List TypeId) : Prop where
  laid : laidOutB P = true
  low : (ts.all fun t => decide (t < P.types.size)) = true
  plain : plainTys P ts = true
  one : (ts.all fun t => match P.underlying t with | some .bool | some (.int _) | some .string | some (.slice _) => P.cellsOf t == 1 | _ => true) = true

section
variable {P : Program} {ts : List TypeId}
theorem Tys.lt (T : Tys P ts) {t : TypeId} (h : t ∈ ts) : t < P.types.size := by simpa using List.all_eq_true.1 T.low t h
theorem flat_len {P : Program} : ∀ {ds : List D} {fs : List Field}, ds.length = fs.length → (∀ (j : Nat) (f : Field) (d : D), fs[j]? = some f → ds[j]? = some d → d.cells.length = P.cellsOf f.type) → (D.cellsL ds).length = (fs.map fun f => P.cellsOf f.type).sum
  | [], [], _, _ => rfl
  | d :: ds, f :: fs, hl, h => by
    simp only [D.cellsL, List.length_append, List.map_cons, List.sum_cons]
    rw [h 0 f d rfl rfl, flat_len (ds := ds) (fs := fs) (by simpa using hl) fun j f d hf hd => h (j + 1) f d (by simpa using hf) (by simpa using hd)]
  | [], _ :: _, hl, _ => by simp at hl
  | _ :: _, [], hl, _ => by simp at hl
theorem HasTy.len (T : Tys P ts) {t : TypeId} {d : D} (h : HasTy P t d) (ht : t ∈ ts) : d.cells.length = P.cellsOf t := by
  induction h with
  | b t x hu => have := List.all_eq_true.1 T.one t ht; rw [hu] at this; exact (beq_iff_eq.1 this).symm
  | i t k n hu _ => have := List.all_eq_true.1 T.one t ht; rw [hu] at this; exact (beq_iff_eq.1 this).symm
  | s t x hu _ => have := List.all_eq_true.1 T.one t ht; rw [hu] at this; exact (beq_iff_eq.1 this).symm
  | l t e es hu _ _ _ => have := List.all_eq_true.1 T.one t ht; rw [hu] at this; exact (beq_iff_eq.1 this).symm
  | a t fs ds hu hl he ih =>
    have hk := plainTys_at T.plain ht
    rw [hu] at hk
    simp only [List.all_eq_true, List.contains_iff_mem] at hk
    obtain ⟨_, k2, _⟩ := kid_struct T.laid (T.lt ht) hu
    rw [k2]
    exact flat_len hl fun j f d hf hd => ih j f d hf hd (hk f (List.mem_of_getElem? hf))
  | r t e n ds hu hl he ih =>
    have hk := plainTys_at T.plain ht
    rw [hu] at hk
    simp only [List.contains_iff_mem] at hk
    obtain ⟨_, k2⟩ := kid_array T.laid (T.lt ht) hu
    rw [k2, ← hl]
    show (D.cellsL ds).length = _
    have : ∀ l : List D, (∀ d ∈ l, d.cells.length = P.cellsOf e) → (D.cellsL l).length = l.length * P.cellsOf e := by
      intro l
      induction l with
      | nil => intro _; simp [D.cellsL]
      | cons d l ih2 => intro h; simp only [D.cellsL, List.length_append, List.length_cons]; rw [h d (by simp), ih2 fun d hd => h d (by simp [hd]), Nat.succ_mul]; omega
    exact this ds fun d hd => ih d hd hk
/-- A field of a row. -/
theorem HasTy.field (T : Tys P ts) {t : TypeId} {d : D} (h : HasTy P t d) (ht : t ∈ ts) {fs : Array Field} (hu : P.underlying t = some (.struct fs)) {j : Nat} {f : Field} (hf : fs[j]? = some f) :
    ∃ x, HasTy P f.type x ∧ f.type ∈ ts ∧ sub d.cells f.offset (P.cellsOf f.type) = some x.cells := by
  have hk := plainTys_at T.plain ht
  rw [hu] at hk
  simp only [List.all_eq_true, List.contains_iff_mem] at hk
  obtain ⟨_, k2, k3⟩ := kid_struct T.laid (T.lt ht) hu
  have hlen := h.len T ht
  cases h with
  | b _ _ hu' => rw [hu] at hu'; cases hu'
  | i _ _ _ hu' _ => rw [hu] at hu'; cases hu'
  | s _ _ hu' _ => rw [hu] at hu'; cases hu'
  | l _ _ _ hu' _ _ => rw [hu] at hu'; cases hu'
  | r _ _ _ _ hu' _ _ => rw [hu] at hu'; cases hu'
  | a _ fs' ds hu' hl he =>
    rw [hu] at hu'
    injection hu' with hu'
    injection hu' with hu'
    subst hu'
    have hf' : fs.toList[j]? = some f := by simpa using hf
    have hj : j < ds.length := by rw [hl]; exact (List.getElem?_eq_some_iff.1 hf').1
    have hd := List.getElem?_eq_getElem hj
    have hty := he j f _ hf' hd
    have hm := hk f (List.mem_of_getElem? hf')
    refine ⟨ds[j], hty, hm, ?_⟩
    have hx := hty.len T hm
    rw [k3 j f hf', ← hx]
    have split : D.cellsL ds = D.cellsL (ds.take j) ++ ((ds[j]).cells ++ D.cellsL (ds.drop (j + 1))) := by
      have e : ds = ds.take j ++ ds[j] :: ds.drop (j + 1) := by simp
      refine (congrArg D.cellsL e).trans ?_
      simp only [D.cellsL_flat, List.flatMap_append, List.flatMap_cons]
    have hpre : (D.cellsL (ds.take j)).length = ((fs.toList.take j).map fun f => P.cellsOf f.type).sum := by
      refine flat_len (by simp [hl]) fun q f d hf hd => ?_
      rw [List.getElem?_take] at hf hd
      split at hf
      · rename_i hq
        rw [if_pos hq] at hd
        exact (he q f d hf hd).len T (hk f (List.mem_of_getElem? hf))
      · cases hf
    show sub (D.cellsL ds) _ _ = _
    unfold sub
    rw [← hpre, split, if_pos (by simp)]
    simp
theorem HasTy.int_inv {t : TypeId} {d : D} (h : HasTy P t d) {k : IntKind} (hu : P.underlying t = some (.int k)) : ∃ n, d = .i k n ∧ (Lit.int k n).wf = true := by
  cases h with
  | i _ k' n hu' hw => rw [hu] at hu'; injection hu' with hu'; injection hu' with hu'; subst hu'; exact ⟨n, rfl, hw⟩
  | b _ _ hu' => rw [hu] at hu'; cases hu'
  | s _ _ hu' _ => rw [hu] at hu'; cases hu'
  | l _ _ _ hu' _ _ => rw [hu] at hu'; cases hu'
  | r _ _ _ _ hu' _ _ => rw [hu] at hu'; cases hu'
  | a _ _ _ hu' _ _ => rw [hu] at hu'; cases hu'
theorem HasTy.bool_inv {t : TypeId} {d : D} (h : HasTy P t d) (hu : P.underlying t = some .bool) : ∃ b, d = .b b := by
  cases h with
  | b _ x _ => exact ⟨x, rfl⟩
  | i _ _ _ hu' _ => rw [hu] at hu'; cases hu'
  | s _ _ hu' _ => rw [hu] at hu'; cases hu'
  | l _ _ _ hu' _ _ => rw [hu] at hu'; cases hu'
  | r _ _ _ _ hu' _ _ => rw [hu] at hu'; cases hu'
  | a _ _ _ hu' _ _ => rw [hu] at hu'; cases hu'
theorem HasTy.slice_inv {t e : TypeId} {d : D} (h : HasTy P t d) (hu : P.underlying t = some (.slice e)) : ∃ es, d = .l es ∧ es.length * P.bytesOf e ≤ reachBytes ∧ ∀ x ∈ es, HasTy P e x := by
  cases h with
  | l _ e' es hu' hl he => rw [hu] at hu'; injection hu' with hu'; injection hu' with hu'; subst hu'; exact ⟨es, rfl, hl, he⟩
  | b _ _ hu' => rw [hu] at hu'; cases hu'
  | i _ _ _ hu' _ => rw [hu] at hu'; cases hu'
  | s _ _ hu' _ => rw [hu] at hu'; cases hu'
  | r _ _ _ _ hu' _ _ => rw [hu] at hu'; cases hu'
  | a _ _ _ hu' _ _ => rw [hu] at hu'; cases hu'
theorem HasTy.struct_inv {t : TypeId} {fs : Array Field} {d : D} (h : HasTy P t d) (hu : P.underlying t = some (.struct fs)) : ∃ ds, d = .a ds := by
  cases h with
  | a _ _ ds _ _ _ => exact ⟨ds, rfl⟩
  | b _ _ hu' => rw [hu] at hu'; cases hu'
  | i _ _ _ hu' _ => rw [hu] at hu'; cases hu'
  | s _ _ hu' _ => rw [hu] at hu'; cases hu'
  | r _ _ _ _ hu' _ _ => rw [hu] at hu'; cases hu'
  | l _ _ _ hu' _ _ => rw [hu] at hu'; cases hu'
end
end Go.Ab
