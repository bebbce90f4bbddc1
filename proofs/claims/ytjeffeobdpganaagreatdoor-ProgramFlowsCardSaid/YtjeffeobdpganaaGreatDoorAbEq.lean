/- Structs and arrays of plain cells, compared. -/
import Derived.Test.YtjeffeobdpganaaGreatDoorAbPure
import Derived.Laws.StructEq
import Derived.ChangeKeysEq
set_option linter.unusedSimpArgs false
set_option linter.unusedVariables false
namespace Go.Ab
open Go.RowKit (Below)
section
variable {P : Program} {B : Nat} {w : World} {g : Gh}

def rowT (P : Program) (t : TypeId) : Bool := match P.underlying t with
  | some (.struct _) | some (.array _ _) => true
  | _ => false
/-- A value out of its cells. -/
def mkV (P : Program) (t : TypeId) (cs : List Value) : Value := if rowT P t then .agg cs.toArray else cs.getD 0 undef

theorem avEqK_len : ∀ {ks : List FK} {xs ys : List AV} {r : Bool}, avEqK ks xs ys = some r → xs.length = ks.length ∧ ys.length = ks.length
  | [], [], [], _, _ => ⟨rfl, rfl⟩
  | .i :: ks, .int k a :: xs, .int k' b :: ys, r, h => by
    simp only [avEqK] at h
    split at h
    · obtain ⟨c, hc, _⟩ := Option.map_eq_some_iff.1 h
      have := avEqK_len hc
      simp [this]
    · cases h
  | .b :: ks, .bool a :: xs, .bool b :: ys, r, h => by
    simp only [avEqK] at h
    obtain ⟨c, hc, _⟩ := Option.map_eq_some_iff.1 h
    have := avEqK_len hc
    simp [this]
  | .s :: ks, .str a :: xs, .str b :: ys, r, h => by
    simp only [avEqK] at h
    obtain ⟨c, hc, _⟩ := Option.map_eq_some_iff.1 h
    have := avEqK_len hc
    simp [this]
theorem avEqK_app : ∀ {ks : List FK} {xs ys : List AV} {ks' : List FK} {xs' ys' : List AV} {r : Bool}, xs.length = ks.length → ys.length = ks.length → avEqK (ks ++ ks') (xs ++ xs') (ys ++ ys') = some r →
    ∃ a b, avEqK ks xs ys = some a ∧ avEqK ks' xs' ys' = some b ∧ r = (a && b)
  | [], [], [], _, _, _, r, _, _, h => ⟨true, r, rfl, h, by simp⟩
  | k :: ks, x :: xs, y :: ys, ks', xs', ys', r, h1, h2, h => by
    simp only [List.cons_append] at h
    cases k <;> cases x <;> cases y <;> simp only [avEqK] at h <;> try cases h
    · split at h
      · rename_i hk
        obtain ⟨c, hc, rfl⟩ := Option.map_eq_some_iff.1 h
        obtain ⟨a, b, e1, e2, rfl⟩ := avEqK_app (by simpa using h1) (by simpa using h2) hc
        exact ⟨_, b, by simp only [avEqK, hk, if_true, e1, Option.map_some]; rfl, e2, by simp [Bool.and_assoc]⟩
      · cases h
    · obtain ⟨c, hc, rfl⟩ := Option.map_eq_some_iff.1 h
      obtain ⟨a, b, e1, e2, rfl⟩ := avEqK_app (by simpa using h1) (by simpa using h2) hc
      exact ⟨_, b, by simp only [avEqK, e1, Option.map_some]; rfl, e2, by simp [Bool.and_assoc]⟩
    · obtain ⟨c, hc, rfl⟩ := Option.map_eq_some_iff.1 h
      obtain ⟨a, b, e1, e2, rfl⟩ := avEqK_app (by simpa using h1) (by simpa using h2) hc
      exact ⟨_, b, by simp only [avEqK, e1, Option.map_some]; rfl, e2, by simp [Bool.and_assoc]⟩
  | [], _ :: _, _, _, _, _, _, h1, _, _ => by simp at h1
  | [], [], _ :: _, _, _, _, _, _, h2, _ => by simp at h2
  | _ :: _, [], _, _, _, _, _, h1, _, _ => by simp at h1
  | _ :: _, _ :: _, [], _, _, _, _, _, h2, _ => by simp at h2

theorem flatK_one {d : Nat} {t : TypeId} {ks : List FK} (h : flatK P d t = some ks) (hr : rowT P t = false) : ks.length = 1 := by
  cases d with
  | zero => cases h
  | succ d =>
    simp only [flatK] at h
    split at h
    · injection h with h; rw [← h]; rfl
    · injection h with h; rw [← h]; rfl
    · injection h with h; rw [← h]; rfl
    · rename_i hu; simp [rowT, hu] at hr
    · rename_i hu; simp [rowT, hu] at hr
    · cases h

theorem part_run {t : TypeId} {d : Nat} {ks : List FK} (hk : flatK P d t = some ks) (hs : szT P t = some ks.length) {xs : List Value} {o : Nat} (hl : o + ks.length ≤ xs.length) (w : World) :
    (part t xs.toArray o).run P w = .ok (mkV P t ((xs.drop o).take ks.length)) w := by
  have hund : ∃ D, P.underlying t = some D := by
    cases d with
    | zero => cases hk
    | succ d =>
      cases hu : P.underlying t with
      | none => simp [flatK, hu] at hk
      | some D => exact ⟨D, rfl⟩
  obtain ⟨D, hD⟩ := hund
  have hagg : (isAgg t).run P w = .ok (rowT P t) w := by
    unfold isAgg rowT
    rw [Sem.run_bind, run_underlying hD w, hD]
    cases D <;> simp
  cases hr : rowT P t with
  | true =>
    simp only [part, Sem.run_bind, hagg, hr, Result.andThen_ok, if_true, szT_run hs w, Sem.run_pure, mkV]
    congr 2
    apply Array.ext'
    simp [List.extract_eq_take_drop]
  | false =>
    have h1 := flatK_one hk hr
    have ho : o < xs.length := by omega
    simp only [part, Sem.run_bind, hagg, hr, Result.andThen_ok, Bool.false_eq_true, if_false, mkV, h1]
    simp [ho, List.getD, List.getElem?_drop]

theorem fields_flat {d : Nat} (hd : ∀ t ks, flatK P d t = some ks → ∀ D, d ≤ D → ∀ (xs ys : List Value) (ax ay : List AV) (r : Bool), RL B w g ax xs → RL B w g ay ys → avEqK ks ax ay = some r →
      (Op.equalIn D t (mkV P t xs) (mkV P t ys)).run P w = .ok r w) :
    ∀ (fs : List Field) (o : Nat) (ks : List FK), flatF P (flatK P d) fs o = some ks → ∀ D, d ≤ D → ∀ (xs ys : List Value) (ax ay : List AV) (r : Bool), RL B w g ax (xs.drop o) → RL B w g ay (ys.drop o) →
      o + ks.length = xs.length → o + ks.length = ys.length → avEqK ks ax ay = some r → (Op.eqFields D xs.toArray ys.toArray fs).run P w = .ok r w
  | [], o, ks, hf, D, hD, xs, ys, ax, ay, r, hx, hy, hlx, hly, he => by
    simp only [flatF] at hf
    injection hf with hf
    subst hf
    have h1 : ax = [] := List.eq_nil_of_length_eq_zero (by rw [hx.len]; simp at hlx ⊢; omega)
    have h2 : ay = [] := List.eq_nil_of_length_eq_zero (by rw [hy.len]; simp at hly ⊢; omega)
    subst h1
    subst h2
    simp [avEqK] at he
    subst he
    simp [Op.eqFields]
  | f :: fs, o, ks, hf, D, hD, xs, ys, ax, ay, r, hx, hy, hlx, hly, he => by
    simp only [flatF] at hf
    split at hf
    · rename_i hc
      simp only [Bool.and_eq_true, bne_iff_ne, ne_eq, beq_iff_eq] at hc
      obtain ⟨hne, ho⟩ := hc
      obtain ⟨k1, hk1, hf⟩ := Option.bind_eq_some_iff.1 hf
      split at hf
      · rename_i hs
        obtain ⟨k2, hk2, rfl⟩ := Option.map_eq_some_iff.1 hf
        have hs' : szT P f.type = some k1.length := by simpa using hs
        simp only [List.length_append] at hlx hly
        have hlax : ax.length = k1.length + k2.length := by rw [hx.len]; simp; omega
        have hlay : ay.length = k1.length + k2.length := by rw [hy.len]; simp; omega
        have e1 : ax = ax.take k1.length ++ ax.drop k1.length := (List.take_append_drop _ _).symm
        have e2 : ay = ay.take k1.length ++ ay.drop k1.length := (List.take_append_drop _ _).symm
        rw [e1, e2] at he
        obtain ⟨a, b, ha, hb, rfl⟩ := avEqK_app (by simp; omega) (by simp; omega) he
        have p1 := part_run hk1 hs' (xs := xs) (o := o) (by omega) w
        have p2 := part_run hk1 hs' (xs := ys) (o := o) (by omega) w
        have h3 := hd _ _ hk1 D hD _ _ _ _ a (hx.take k1.length) (hy.take k1.length) ha
        have h4 := fields_flat hd fs (o + k1.length) k2 hk2 D hD xs ys (ax.drop k1.length) (ay.drop k1.length) b (by simpa [List.drop_drop] using hx.drop k1.length) (by simpa [List.drop_drop] using hy.drop k1.length) (by omega) (by omega) hb
        simp only [Op.eqFields, hne, ne_eq, not_false_eq_true, if_true, Sem.run_bind, ho, p1, p2, Result.andThen_ok, h3]
        cases a
        · simp
        · simp [h4]
      · cases hf
    · cases hf

theorem items_flat {d : Nat} {e : TypeId} {k1 : List FK} (hk1 : flatK P d e = some k1) (hs : szT P e = some k1.length)
    (hd : ∀ D, d ≤ D → ∀ (xs ys : List Value) (ax ay : List AV) (r : Bool), RL B w g ax xs → RL B w g ay ys → avEqK k1 ax ay = some r → (Op.equalIn D e (mkV P e xs) (mkV P e ys)).run P w = .ok r w) :
    ∀ (n j : Nat) (D : Nat), d ≤ D → ∀ (xs ys : List Value) (ax ay : List AV) (r : Bool), RL B w g ax (xs.drop (j * k1.length)) → RL B w g ay (ys.drop (j * k1.length)) →
      (j + n) * k1.length = xs.length → (j + n) * k1.length = ys.length → avEqK (List.replicate n k1).flatten ax ay = some r →
      (Op.eqItems D e k1.length xs.toArray ys.toArray (List.range' j n)).run P w = .ok r w
  | 0, j, D, hD, xs, ys, ax, ay, r, hx, hy, hlx, hly, he => by
    have h1 : ax = [] := List.eq_nil_of_length_eq_zero (by rw [hx.len]; simp at hlx ⊢; omega)
    have h2 : ay = [] := List.eq_nil_of_length_eq_zero (by rw [hy.len]; simp at hly ⊢; omega)
    subst h1
    subst h2
    simp [avEqK] at he
    subst he
    simp [Op.eqItems]
  | n + 1, j, D, hD, xs, ys, ax, ay, r, hx, hy, hlx, hly, he => by
    have hmul : (j + (n + 1)) * k1.length = j * k1.length + k1.length + n * k1.length := by rw [Nat.add_mul, Nat.add_mul]; omega
    rw [List.replicate_succ, List.flatten_cons] at he
    have hfl : (List.replicate n k1).flatten.length = n * k1.length := by simp
    have hlax : ax.length = k1.length + n * k1.length := by rw [hx.len]; simp; omega
    have hlay : ay.length = k1.length + n * k1.length := by rw [hy.len]; simp; omega
    have e1 : ax = ax.take k1.length ++ ax.drop k1.length := (List.take_append_drop _ _).symm
    have e2 : ay = ay.take k1.length ++ ay.drop k1.length := (List.take_append_drop _ _).symm
    rw [e1, e2] at he
    obtain ⟨a, b, ha, hb, rfl⟩ := avEqK_app (by simp; omega) (by simp; omega) he
    have p1 := part_run hk1 hs (xs := xs) (o := j * k1.length) (by omega) w
    have p2 := part_run hk1 hs (xs := ys) (o := j * k1.length) (by omega) w
    have h3 := hd D hD _ _ _ _ a (hx.take k1.length) (hy.take k1.length) ha
    have hj : (j + 1) * k1.length = j * k1.length + k1.length := by rw [Nat.add_mul]; omega
    have h4 := items_flat hk1 hs hd n (j + 1) D hD xs ys (ax.drop k1.length) (ay.drop k1.length) b (by rw [hj, ← List.drop_drop]; exact hx.drop k1.length) (by rw [hj, ← List.drop_drop]; exact hy.drop k1.length) (by rw [← hlx]; congr 1; omega) (by rw [← hly]; congr 1; omega) hb
    rw [List.range'_succ]
    simp only [Op.eqItems, Sem.run_bind, p1, p2, Result.andThen_ok, h3]
    cases a
    · simp
    · simp [h4]

theorem equal_flat : ∀ (d : Nat) (t : TypeId) (ks : List FK), flatK P d t = some ks → ∀ D, d ≤ D → ∀ (xs ys : List Value) (ax ay : List AV) (r : Bool), RL B w g ax xs → RL B w g ay ys → avEqK ks ax ay = some r →
    (Op.equalIn D t (mkV P t xs) (mkV P t ys)).run P w = .ok r w
  | 0, t, ks, hk, D, hD, xs, ys, ax, ay, r, hx, hy, he => by cases hk
  | d + 1, t, ks, hk, D, hD, xs, ys, ax, ay, r, hx, hy, he => by
    obtain ⟨D, rfl⟩ : ∃ m, D = m + 1 := ⟨D - 1, by omega⟩
    have hl := avEqK_len he
    simp only [flatK] at hk
    split at hk
    · rename_i k hu
      injection hk with hk
      subst hk
      have hr : rowT P t = false := by simp [rowT, hu]
      obtain ⟨x, rfl⟩ := List.length_eq_one_iff.1 (show ax.length = 1 from hl.1)
      obtain ⟨y, rfl⟩ := List.length_eq_one_iff.1 (show ay.length = 1 from hl.2)
      obtain ⟨u, rfl⟩ := List.length_eq_one_iff.1 (hx.len.symm)
      obtain ⟨v, rfl⟩ := List.length_eq_one_iff.1 (hy.len.symm)
      have h1 := hx.at_ 0 _ _ rfl rfl
      have h2 := hy.at_ 0 _ _ rfl rfl
      cases x <;> cases y <;> simp only [avEqK] at he <;> try cases he
      split at he
      · rename_i hkk
        simp at he
        subst he
        subst hkk
        cases h1
        cases h2
        simp only [mkV, hr, Bool.false_eq_true, if_false, List.getD, List.getElem?_cons_zero, Option.getD_some]
        rw [run_equalIn_int w D t _ k _ _ hu]
        try simp
      · cases he
    · rename_i hu
      injection hk with hk
      subst hk
      have hr : rowT P t = false := by simp [rowT, hu]
      obtain ⟨x, rfl⟩ := List.length_eq_one_iff.1 (show ax.length = 1 from hl.1)
      obtain ⟨y, rfl⟩ := List.length_eq_one_iff.1 (show ay.length = 1 from hl.2)
      obtain ⟨u, rfl⟩ := List.length_eq_one_iff.1 (hx.len.symm)
      obtain ⟨v, rfl⟩ := List.length_eq_one_iff.1 (hy.len.symm)
      have h1 := hx.at_ 0 _ _ rfl rfl
      have h2 := hy.at_ 0 _ _ rfl rfl
      cases x <;> cases y <;> simp only [avEqK] at he <;> try cases he
      cases h1
      cases h2
      simp only [mkV, hr, Bool.false_eq_true, if_false, List.getD, List.getElem?_cons_zero, Option.getD_some]
      rw [run_equalIn_bool' w D t _ _ hu]
      try simp
    · rename_i hu
      injection hk with hk
      subst hk
      have hr : rowT P t = false := by simp [rowT, hu]
      obtain ⟨x, rfl⟩ := List.length_eq_one_iff.1 (show ax.length = 1 from hl.1)
      obtain ⟨y, rfl⟩ := List.length_eq_one_iff.1 (show ay.length = 1 from hl.2)
      obtain ⟨u, rfl⟩ := List.length_eq_one_iff.1 (hx.len.symm)
      obtain ⟨v, rfl⟩ := List.length_eq_one_iff.1 (hy.len.symm)
      have h1 := hx.at_ 0 _ _ rfl rfl
      have h2 := hy.at_ 0 _ _ rfl rfl
      cases x <;> cases y <;> simp only [avEqK] at he <;> try cases he
      cases h1
      cases h2
      simp only [mkV, hr, Bool.false_eq_true, if_false, List.getD, List.getElem?_cons_zero, Option.getD_some]
      rw [run_equalIn_string w D t _ _ hu, bytes_toList, bytes_toList]
      try simp
    · rename_i fs hu
      split at hk
      · cases hk
      · rename_i hst
        have hr : rowT P t = true := by simp [rowT, hu]
        have hfo : P.fieldsOf t = fs := by simp [Program.fieldsOf, hu]
        simp only [mkV, hr, if_true]
        rw [run_equalIn_struct w D t _ _ (by rw [hfo]; exact hu) (by simpa using hst), hfo]
        exact fields_flat (fun t ks hk' D' hD' => equal_flat d t ks hk' D' hD') fs.toList 0 ks hk D (by omega) xs ys ax ay r hx hy (by rw [← hx.len, hl.1]; omega) (by rw [← hy.len, hl.2]; omega) he
    · rename_i n e hu
      obtain ⟨k1, hk1, hk⟩ := Option.bind_eq_some_iff.1 hk
      split at hk
      · rename_i hs
        have hs' : szT P e = some k1.length := by simpa using hs
        injection hk with hk
        subst hk
        have hr : rowT P t = true := by simp [rowT, hu]
        obtain ⟨i, hi, hsz⟩ := Option.map_eq_some_iff.1 hs'
        have hco : P.cellsOf e = k1.length := by simp [Program.cellsOf, hi, hsz]
        simp only [mkV, hr, if_true]
        rw [run_equalIn_array w D _ _ hu hi, hco, List.range_eq_range']
        have hfl : (List.replicate n k1).flatten.length = n * k1.length := by simp
        exact items_flat hk1 hs' (fun D' hD' => equal_flat d e k1 hk1 D' hD') n 0 D (by omega) xs ys ax ay r (by simpa using hx) (by simpa using hy) (by rw [← hx.len, hl.1, hfl]; simp) (by rw [← hy.len, hl.2, hfl]; simp) he
      · cases hk
    · cases hk
end
end Go.Ab
