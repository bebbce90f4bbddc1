/- make; a literal's bytes; len, append, max and min as calls. -/
import Derived.Test.YtjeffeobdpganaaGreatDoorAbMap
import Derived.Laws.MakeOwn
import Derived.Lib.UnsafeStr
set_option linter.unusedSimpArgs false
set_option linter.unusedVariables false
namespace Go.Ab
open Go.RowKit (Below)
section
variable {P : Program} {B : Nat} {w : World} {g : Gh} {h : Hp}

theorem mksl_good (H : HR B h g w) {t e : TypeId} {i : TypeInfo} {zv : Value} {zl : List AV} {zs : List Value} {n : Int} {bytes : Nat}
    (hu : P.underlying t = some (.slice e)) (hi : P.info? e = some i) (hsz : i.size = zl.length) (hbpos : 0 < i.bytes) (hby : i.bytes = bytes) (hz : i.zero = some zv)
    (hzc : zv.cells = zs.toArray) (hzr : RL B w g zl zs) (h1 : ∀ u ∈ zs, u.oneCell' = true) (k1 k2 : IntKind) (h0 : 0 ≤ n) (hle : n * (bytes : Int) ≤ 140737488355328) :
    ∃ val w' g', (Instr.makeSlice t (.int k1 n) (.int k2 n)).run P w = .ok val w' ∧ R B w' g' (.rs h.na 0 0 n.toNat) val ∧
      HR B (h.pa ⟨e, zl.length, bytes, 0, List.replicate n.toNat zl, false⟩) g' w' ∧ Step B w g w' g' := by
  subst hby
  obtain ⟨m, rfl⟩ := Int.eq_ofNat_of_zero_le h0
  have hle' : m * i.bytes ≤ 140737488355328 := by
    have : ((m * i.bytes : Nat) : Int) ≤ 140737488355328 := by rw [Int.natCast_mul]; exact hle
    omega
  have hm : m ≤ 140737488355328 := Nat.le_trans (Nat.le_mul_of_pos_right _ hbpos) hle'
  have hrun := run_make (P := P) w t e i zv hu hi hz k1 k2 (m : Int) (m : Int) h0 (Int.le_refl _) (by rw [Int.mul_comm, ← Int.natCast_mul]; omega) (by omega)
  simp only [Int.toNat_natCast] at hrun ⊢
  have hs := step_na (w := w) H (.cells (madeCells zv.cells (m * i.size)) e) ⟨w.heap.size, 0, m, zl.length⟩ rfl
  have hg0 := grid_zero (n := m) hzr h1 rfl
  refine ⟨_, _, g.na ⟨w.heap.size, 0, m, zl.length⟩, hrun, ?_, H.new_arr _ rfl ⟨rfl, rfl, by simp, by simp only [maxLen]; omega, by simp, (madeCells zv.cells (m * i.size)).toList, (0, 0), ?_, fun _ => rfl, ?_, ?_⟩, hs⟩
  · refine .rs _ _ _ _ ⟨w.heap.size, 0, m, zl.length⟩ _ _ ?_ (Nat.le_refl _) (fun _ => ⟨by simp, by simp, Nat.le_refl _⟩)
    simp only [Gh.na, Hp.na]
    rw [List.getElem?_append_right (by rw [H.la]; exact Nat.le_refl _)]
    simp [H.la]
  · refine (heap_alloc_new w _).trans ?_
    simp
  · simp [size_madeCells, hsz]
  · intro q c j x hi hx
    obtain ⟨v, a, b, d⟩ := (hg0.step hs).at_ q c j x hi hx
    refine ⟨v, ?_, b, d⟩
    rw [hzc, hsz]
    exact a

/-- Blocks that are not live have turned. -/
theorem HR.keepAll (H : HR B h g w) {w' : World} (hs : Step B w g w' g) (ho : ∀ k ∈ g.bb ++ g.ab.map (·.k), w'.heap[k]? = w.heap[k]?) : HR B h g w' :=
  ⟨H.lb, H.la, fun b x k hb hk => (H.box b x k hb hk).keep hs (ho k (live_bb hk)), fun a A G ha hG => (H.arr a A G ha hG).keep hs (ho _ (live_ab hG)), H.nd, H.low, H.npr,
    fun k o hp => Nat.lt_of_lt_of_le (H.prs k o hp) hs.below.size, Nat.le_trans H.sz hs.below.size⟩

theorem freeze_cell (w : World) (a : Addr) (n : Nat) (x : Addr) : (w.freeze a n).cell? x = w.cell? x := by
  unfold World.freeze
  split
  · rfl
  · simp only [World.cell?, Array.getElem?_modify]
    by_cases he : a.block = x.block
    · rw [if_pos he]
      generalize w.heap[x.block]? = o
      cases o with
      | none => rfl
      | some o => cases o <;> rfl
    · rw [if_neg he]
theorem freeze_other (w : World) (a : Addr) (n : Nat) {k : Nat} (h : k ≠ a.block) : (w.freeze a n).heap[k]? = w.heap[k]? := by
  unfold World.freeze
  split
  · rfl
  · simp only [Array.getElem?_modify]
    rw [if_neg (by omega)]

theorem lit_good (H : HR B h g w) {s e : TypeId} (hu : P.underlying s = some (.slice e)) (hu8 : P.underlying e = some (.int .u8)) {x : AV} {c : List AV} {es : List (List AV)} {v : Value}
    (hx : R B w g (.vs true ((x :: c) :: es)) v) : ∃ val w' g', (convert s s v).run P w = .ok val w' ∧ R B w' g' (.vs true ((x :: c) :: es)) val ∧ HR B h g' w' ∧ Step B w g w' g' := by
  have hx' := hx
  cases hx with
  | vs _ _ ad cap k p esz f had hsz hc hr hcap hfull =>
  have had' := had (by simp)
  subst had'
  have hB := (hfull rfl).2.1 (by simp)
  have hpr := (hc 0 _ 0 x rfl rfl).1
  have hlt := H.prs _ _ hpr
  have hlive : k ∉ g.bb ++ g.ab.map (·.k) := fun hm => H.npr k hm _ hpr
  have hrun : ∃ w', (convert s s (.slice (some ⟨k, p, none⟩) ((x :: c) :: es).length cap)).run P w = .ok (.slice (some ⟨k, p, none⟩) ((x :: c) :: es).length cap) w' ∧ (w' = w ∨ ∃ q, w' = w.freeze ⟨k, q, none⟩ 1) := by
    cases hsh : w.shape? k with
    | none =>
      exact ⟨w, by simp [convert, run_underlying hu, run_underlying hu8, markStringish, hsh], .inl rfl⟩
    | some q =>
      obtain ⟨ty, q⟩ := q
      exact ⟨w.freeze ⟨k, q, none⟩ 1, by simp [convert, run_underlying hu, run_underlying hu8, markStringish, hsh], .inr ⟨q, rfl⟩⟩
  obtain ⟨w', hrun, hw⟩ := hrun
  have hs : Step B w g w' g := by
    rcases hw with rfl | ⟨q, rfl⟩
    · exact Step.refl _ _ _
    · exact ⟨Lib.below_freeze (Below.refl B w) (p := ⟨k, q, none⟩) hB 1, fun _ _ h => h, fun _ G h => ⟨G, h, Nat.le_refl _, fun _ => rfl⟩, fun _ h => .inl h, fun G h => .inl ⟨G, h, rfl⟩, fun _ _ h => h,
        fun _ _ _ _ hc => by rw [freeze_cell]; exact hc, fun i _ _ _ hnp => freeze_other w _ 1 fun e => hnp (p + (0 * esz + 0)) (by have e' : i = k := e; rw [e']; exact hpr), fun _ _ h => .inl h⟩
  refine ⟨_, w', g, hrun, hx'.step hs, H.keepAll hs fun k' hk' => ?_, hs⟩
  have hne : k' ≠ k := fun e => hlive (e ▸ hk')
  rcases hw with rfl | ⟨q, rfl⟩
  · rfl
  · exact freeze_other w _ 1 hne

/-- A builtin that is called. -/
theorem builtin_run {a : Act} {c : Call} {b : Builtin} {ty : TypeId} (hb : c.callee = .builtin b) :
    (do let d ← resolve a.eval c ty; invoke d.target d.args : Sem Next).run P w = (builtin b c.argTypes ty (c.args.map fun | .const _ => true | _ => false) (c.args.map a.eval)).run P w := by
  unfold resolve
  rw [hb]
  simp only [Sem.run_bind, Sem.run_pure, Result.andThen_ok]
  rfl
theorem args1 {c : Call} {x : Operand} (h : c.args.toList = [x]) (f : Operand → Value) : c.args.map f = #[f x] := by
  apply Array.ext'
  simp [h]
theorem args2 {c : Call} {x y : Operand} (h : c.args.toList = [x, y]) (f : Operand → Value) : c.args.map f = #[f x, f y] := by
  apply Array.ext'
  simp [h]
theorem types2 {c : Call} {x y : TypeId} (h : c.argTypes.toList = [x, y]) : c.argTypes = #[x, y] := by
  apply Array.ext'
  simp [h]
end
end Go.Ab
