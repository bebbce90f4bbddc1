/- A function's end: its own boxes go, its own arrays are only read from there on. -/
import Derived.Test.YtjeffeobdpganaaGreatDoorAbCode
set_option linter.unusedSimpArgs false
set_option linter.unusedVariables false
namespace Go.Ab
open Go.RowKit (Below)
section
variable {P : Program} {B : Nat} {w : World} {g : Gh} {h : Hp} {nt : Nat}

theorem nrmL_map : ∀ l : List AV, AV.nrmL l = l.map AV.nrm
  | [] => rfl
  | v :: l => by simp [AV.nrmL, nrmL_map l]
theorem nrmLL_map : ∀ l : List (List AV), AV.nrmLL l = l.map fun c => c.map AV.nrm
  | [] => rfl
  | v :: l => by simp [AV.nrmLL, nrmL_map, nrmLL_map l]
theorem okL_at {nb na : Nat} : ∀ {l : List AV} {i : Nat} {x : AV}, AV.okL nb na l = true → l[i]? = some x → x.ok nb na = true
  | [], _, _, _, h => by simp at h
  | v :: l, 0, x, h, hx => by
    simp only [AV.okL, Bool.and_eq_true] at h
    simp at hx
    subst hx
    exact h.1
  | v :: l, i + 1, x, h, hx => by
    simp only [AV.okL, Bool.and_eq_true] at h
    exact okL_at h.2 (by simpa using hx)
theorem okLL_at {nb na : Nat} : ∀ {l : List (List AV)} {i : Nat} {c : List AV}, AV.okLL nb na l = true → l[i]? = some c → AV.okL nb na c = true
  | [], _, _, _, h => by simp at h
  | v :: l, 0, x, h, hx => by
    simp only [AV.okLL, Bool.and_eq_true] at h
    simp at hx
    subst hx
    exact h.1
  | v :: l, i + 1, x, h, hx => by
    simp only [AV.okLL, Bool.and_eq_true] at h
    exact okLL_at h.2 (by simpa using hx)

theorem R.nrm {x : AV} {v : Value} (h : R B w g x v) : R B w g x.nrm v := by
  induction h with
  | vptr cs o k p f hc _ ih =>
    simp only [AV.nrm, nrmL_map]
    refine .vptr _ o k p f (fun j x hx => ?_) (fun j x hx => ?_)
    · obtain ⟨y, hy, rfl⟩ : ∃ y, cs[j]? = some y ∧ AV.nrm y = x := by simpa using hx
      exact hc j y hy
    · obtain ⟨y, hy, rfl⟩ : ∃ y, cs[j]? = some y ∧ AV.nrm y = x := by simpa using hx
      exact ih j y hy
  | vs full es ad cap k p esz f had hsz hc _ hcap hfull ih =>
    simp only [AV.nrm, nrmLL_map]
    have := R.vs (B := B) (w := w) (g := g) (full && es.isEmpty) (es.map fun c => c.map AV.nrm) ad cap k p esz f (fun hne => had (by intro e; subst e; exact hne rfl)) (fun c hc => by
      obtain ⟨c', h1, rfl⟩ := List.mem_map.1 hc
      simpa using hsz c' h1) (fun i c j x hi hx => by
      obtain ⟨c', hc', rfl⟩ : ∃ y, es[i]? = some y ∧ y.map AV.nrm = c := by simpa using hi
      obtain ⟨y, hy, rfl⟩ : ∃ y, c'[j]? = some y ∧ AV.nrm y = x := by simpa using hx
      exact hc i c' j y hc' hy) (fun i c j x hi hx => by
      obtain ⟨c', hc', rfl⟩ : ∃ y, es[i]? = some y ∧ y.map AV.nrm = c := by simpa using hi
      obtain ⟨y, hy, rfl⟩ : ∃ y, c'[j]? = some y ∧ AV.nrm y = x := by simpa using hx
      exact ih i c' j y hc' hy) (by simpa using hcap) (fun hf => by
      simp only [Bool.and_eq_true, List.isEmpty_iff] at hf
      obtain ⟨hf, he⟩ := hf
      subst he
      obtain ⟨q1, _, q3⟩ := hfull hf
      exact ⟨by simpa using q1, fun h => absurd rfl h, fun _ => q3 rfl⟩)
    simpa using this
  | fn f cap vs hl _ ih =>
    simp only [AV.nrm, nrmL_map]
    refine .fn _ _ vs (by simpa using hl) fun i x v hx hv => ?_
    obtain ⟨y, hy, rfl⟩ : ∃ y, cap[i]? = some y ∧ AV.nrm y = x := by simpa using hx
    exact ih i y v hy hv
  | iface t x v _ ih => exact .iface t _ v ih
  | agg xs vs hl _ h1 ih =>
    simp only [AV.nrm, nrmL_map]
    refine .agg _ vs (by simpa using hl) (fun i x v hx hv => ?_) h1
    obtain ⟨y, hy, rfl⟩ : ∃ y, xs[i]? = some y ∧ AV.nrm y = x := by simpa using hx
    exact ih i y v hy hv
  | tup xs vs hl _ ih =>
    simp only [AV.nrm, nrmL_map]
    refine .tup _ vs (by simpa using hl) fun i x v hx hv => ?_
    obtain ⟨y, hy, rfl⟩ : ∃ y, xs[i]? = some y ∧ AV.nrm y = x := by simpa using hx
    exact ih i y v hy hv
  | _ => simp only [AV.nrm]; constructor <;> assumption

/-- Fewer boxes and arrays: what does not refer to the others stands. -/
theorem R.cut {nb na : Nat} {g' : Gh} (hb : ∀ b k, b < nb → g.bb[b]? = some k → g'.bb[b]? = some k) (ha : ∀ a G, a < na → g.ab[a]? = some G → g'.ab[a]? = some G)
    (hp : ∀ k o, g.pr k o → g'.pr k o) {x : AV} {v : Value} (h : R B w g x v) (hok : x.ok nb na = true) : R B w g' x v := by
  induction h with
  | ptr b o k hb' => exact .ptr b o k (hb _ _ (by simpa [AV.ok] using hok) hb')
  | mp b k hb' => exact .mp b k (hb _ _ (by simpa [AV.ok] using hok) hb')
  | it b k hb' => exact .it b k (hb _ _ (by simpa [AV.ok] using hok) hb')
  | aptr a ver i j G ad hg hv had => exact .aptr a ver i j G ad (ha _ _ (by simpa [AV.ok] using hok) hg) hv had
  | rs a ver lo n G ad cap hg hv had => exact .rs a ver lo n G ad cap (ha _ _ (by simpa [AV.ok] using hok) hg) hv had
  | vptr cs o k p f hc _ ih =>
    simp only [AV.ok] at hok
    exact .vptr cs o k p f (fun j x hx => ⟨hp _ _ (hc j x hx).1, (hc j x hx).2⟩) (fun j x hx => ih j x hx (okL_at hok hx))
  | vs full es ad cap k p esz f had hsz hc _ hcap hfull ih =>
    simp only [AV.ok] at hok
    exact .vs full es ad cap k p esz f had hsz (fun i c j x hi hx => ⟨hp _ _ (hc i c j x hi hx).1, (hc i c j x hi hx).2⟩) (fun i c j x hi hx => ih i c j x hi hx (okL_at (okLL_at hok hi) hx)) hcap hfull
  | fn f cap vs hl _ ih =>
    simp only [AV.ok] at hok
    exact .fn f cap vs hl fun i x v hx hv => ih i x v hx hv (okL_at hok hx)
  | iface t x v _ ih =>
    simp only [AV.ok] at hok
    exact .iface t x v (ih hok)
  | agg xs vs hl _ h1 ih =>
    simp only [AV.ok] at hok
    exact .agg xs vs hl (fun i x v hx hv => ih i x v hx hv (okL_at hok hx)) h1
  | tup xs vs hl _ ih =>
    simp only [AV.ok] at hok
    exact .tup xs vs hl fun i x v hx hv => ih i x v hx hv (okL_at hok hx)
  | _ => constructor <;> assumption
end
end Go.Ab
