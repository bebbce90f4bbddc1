/- Rows of elements of several cells; literals. -/
import Derived.Test.YtjeffeobdpganaaGreatDoorAbOps
import Derived.Laws.Build
set_option linter.unusedSimpArgs false
set_option linter.unusedVariables false
namespace Go.Ab
open Go.RowKit (Below)
section
variable {P : Program} {B : Nat} {w : World} {g : Gh} {h : Hp}

/-- Elements and their cells, one behind the other. -/
structure Grid (B : Nat) (w : World) (g : Gh) (esz : Nat) (es : List (List AV)) (vs : List Value) : Prop where
  sz : ∀ c ∈ es, c.length = esz
  at_ : ∀ (i : Nat) (c : List AV) (j : Nat) (x : AV), es[i]? = some c → c[j]? = some x → ∃ v, vs[i * esz + j]? = some v ∧ R B w g x v ∧ v.oneCell' = true
theorem Grid.step {w' : World} {g' : Gh} (hs : Step B w g w' g') {esz : Nat} {es : List (List AV)} {vs : List Value} (hg : Grid B w g esz es vs) : Grid B w' g' esz es vs :=
  ⟨hg.sz, fun i c j x h1 h2 => by
    obtain ⟨v, a, b, c⟩ := hg.at_ i c j x h1 h2
    exact ⟨v, a, b.step hs, c⟩⟩
theorem Grid.more {esz : Nat} {es : List (List AV)} {vs : List Value} (hg : Grid B w g esz es vs) (us : List Value) : Grid B w g esz es (vs ++ us) :=
  ⟨hg.sz, fun i c j x h1 h2 => by
    obtain ⟨v, a, b, c⟩ := hg.at_ i c j x h1 h2
    exact ⟨v, by rw [List.getElem?_append_left (List.getElem?_eq_some_iff.1 a).1]; exact a, b, c⟩⟩
theorem Grid.take {esz : Nat} {es : List (List AV)} {vs : List Value} (hg : Grid B w g esz es vs) (n : Nat) : Grid B w g esz (es.take n) (vs.take (n * esz)) := by
  refine ⟨fun c hc => hg.sz c (List.mem_of_mem_take hc), fun i c j x h1 h2 => ?_⟩
  rw [List.getElem?_take] at h1
  split at h1
  · rename_i hi
    obtain ⟨v, a, b, d⟩ := hg.at_ i c j x h1 h2
    refine ⟨v, ?_, b, d⟩
    have hc := hg.sz c (List.mem_of_getElem? h1)
    have hj := (List.getElem?_eq_some_iff.1 h2).1
    have hm : (i + 1) * esz ≤ n * esz := Nat.mul_le_mul_right _ hi
    rw [Nat.add_mul, Nat.one_mul] at hm
    rw [List.getElem?_take, if_pos (by omega)]
    exact a
  · cases h1
theorem Grid.append {esz : Nat} {es fs : List (List AV)} {vs us : List Value} (hg : Grid B w g esz es vs) (hl : vs.length = es.length * esz) (hf : Grid B w g esz fs us) : Grid B w g esz (es ++ fs) (vs ++ us) := by
  refine ⟨fun c hc => ?_, fun i c j x h1 h2 => ?_⟩
  · rcases List.mem_append.1 hc with hc | hc
    · exact hg.sz c hc
    · exact hf.sz c hc
  · by_cases hi : i < es.length
    · rw [List.getElem?_append_left hi] at h1
      obtain ⟨v, a, b, d⟩ := hg.at_ i c j x h1 h2
      exact ⟨v, by rw [List.getElem?_append_left (List.getElem?_eq_some_iff.1 a).1]; exact a, b, d⟩
    · rw [List.getElem?_append_right (by omega)] at h1
      obtain ⟨v, a, b, d⟩ := hf.at_ _ c j x h1 h2
      have hm : i * esz = es.length * esz + (i - es.length) * esz := by rw [← Nat.add_mul]; congr 1; omega
      refine ⟨v, ?_, b, d⟩
      rw [List.getElem?_append_right (by omega), hl, ← a]
      congr 1
      omega
/-- A part of a row is written anew. -/
theorem seg_get {α : Type} (vs us : List α) (o q : Nat) (h : o + us.length ≤ vs.length) :
    (vs.take o ++ us ++ vs.drop (o + us.length))[q]? = if q < o then vs[q]? else if q < o + us.length then us[q - o]? else vs[q]? := by
  split
  · rw [List.append_assoc, List.getElem?_append_left (by simp; omega), List.getElem?_take, if_pos (by assumption)]
  · split
    · rw [List.getElem?_append_left (by simp; omega), List.getElem?_append_right (by simp; omega)]
      congr 1
      simp
      omega
    · rw [List.getElem?_append_right (by simp; omega), List.getElem?_drop]
      congr 1
      simp
      omega
theorem Grid.set {esz : Nat} {es : List (List AV)} {vs : List Value} (hg : Grid B w g esz es vs) {i : Nat} {new : List AV} {us : List Value} (hn : RL B w g new us) (h1 : ∀ u ∈ us, u.oneCell' = true)
    (hlen : new.length = esz) (hi : i < es.length) (hv : vs.length = es.length * esz) : Grid B w g esz (es.set i new) (vs.take (i * esz) ++ us ++ vs.drop (i * esz + us.length)) := by
  have hm : (i + 1) * esz ≤ es.length * esz := Nat.mul_le_mul_right _ hi
  rw [Nat.add_mul, Nat.one_mul] at hm
  have hul : us.length = esz := by rw [← hn.len, hlen]
  refine ⟨fun c hc => ?_, fun i' c j x hc hx => ?_⟩
  · rcases List.mem_or_eq_of_mem_set hc with hc | rfl
    · exact hg.sz c hc
    · exact hlen
  · rw [List.getElem?_set] at hc
    rw [seg_get _ _ _ _ (by omega)]
    split at hc
    · rename_i e
      subst e
      try rw [if_pos hi] at hc
      injection hc with hc
      subst hc
      have hj := (List.getElem?_eq_some_iff.1 hx).1
      rw [if_neg (by omega), if_pos (by omega), show i * esz + j - i * esz = j from by omega]
      have hju : j < us.length := by omega
      exact ⟨us[j], List.getElem?_eq_getElem hju, hn.at_ _ _ _ hx (List.getElem?_eq_getElem hju), h1 _ (List.getElem_mem hju)⟩
    · rename_i hne
      have hcl := hg.sz c (List.mem_of_getElem? hc)
      have hj := (List.getElem?_eq_some_iff.1 hx).1
      obtain ⟨v, a, b, d⟩ := hg.at_ i' c j x hc hx
      refine ⟨v, ?_, b, d⟩
      rcases Nat.lt_or_gt_of_ne hne with hlt | hlt
      · have : (i + 1) * esz ≤ i' * esz := Nat.mul_le_mul_right _ hlt
        rw [Nat.add_mul, Nat.one_mul] at this
        rw [if_neg (by omega), if_neg (by omega)]
        exact a
      · have : (i' + 1) * esz ≤ i * esz := Nat.mul_le_mul_right _ hlt
        rw [Nat.add_mul, Nat.one_mul] at this
        rw [if_pos (by omega)]
        exact a

/-! ### Instr.fill -/
theorem fold_seg (off : Nat) : ∀ (l : List Value) (j0 : Nat) (cells : Array Value), off + j0 + l.length ≤ cells.size →
    ((l.zipIdx j0).foldl (fun cs (x : Value × Nat) => cs.setIfInBounds (off + x.2) x.1) cells) = (cells.toList.take (off + j0) ++ l ++ cells.toList.drop (off + j0 + l.length)).toArray
  | [], j0, cells, _ => by simp
  | v :: l, j0, cells, hl => by
    rw [List.zipIdx_cons, List.foldl_cons, fold_seg off l (j0 + 1) _ (by simp at hl ⊢; omega)]
    congr 1
    apply List.ext_getElem?
    intro q
    have e1 : off + j0 + 1 + l.length ≤ cells.size := by simp at hl; omega
    rw [seg_get _ _ _ _ (by simp; omega), seg_get _ _ _ _ (by simpa using hl)]
    simp only [Array.toList_setIfInBounds, List.getElem?_set, List.length_cons, Array.length_toList]
    by_cases h1 : q < off + j0
    · rw [if_pos (by omega), if_neg (by omega), if_pos h1]
    · by_cases h2 : q = off + j0
      · subst h2
        rw [if_pos (by omega), if_pos rfl, if_neg h1, if_pos (by omega)]
        simp
      · rw [if_neg (by omega), if_neg h1]
        by_cases h3 : q < off + (j0 + 1) + l.length
        · rw [if_pos h3, if_pos (by omega)]
          rw [show q - (off + j0) = (q - (off + (j0 + 1))) + 1 from by omega]
          rfl
        · rw [if_neg h3, if_neg (by omega), if_neg (by omega)]
theorem fold_seg' (off : Nat) (v cells : Array Value) (h : off + v.size ≤ cells.size) :
    (v.zipIdx.foldl (fun cs (c, j) => cs.setIfInBounds (off + j) c) cells) = (cells.toList.take off ++ v.toList ++ cells.toList.drop (off + v.size)).toArray := by
  have := fold_seg off v.toList 0 cells (by simpa using h)
  rw [← Array.foldl_toList, Array.toList_zipIdx]
  simpa using this
end
end Go.Ab
