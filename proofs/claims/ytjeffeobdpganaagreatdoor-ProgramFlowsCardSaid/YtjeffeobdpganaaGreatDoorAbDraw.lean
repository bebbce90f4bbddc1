/- Regions whose order is open: whatever the order, the same comes of it. -/
import Derived.Test.YtjeffeobdpganaaGreatDoorAbCongr
set_option linter.unusedSimpArgs false
set_option linter.unusedVariables false
namespace Go.Ab
open Go.RowKit (Below)

/-- What the check of such a region tells. -/
structure DS (P : Program) (nt : Nat) (ops : Array Oper) (l : List MD) : Prop where
  one : ∀ x ∈ l, oneD P nt ops l x = true
  pair : ∀ (p q : Nat) (x y : MD), l[p]? = some x → l[q]? = some y → p < q → pairD ops l p x y = true
  all : ∀ k, k < ops.size → ∃ x ∈ l, x.k = k

theorem pairsD_at {ops : Array Oper} {l0 : List MD} : ∀ {l : List MD} {o : Nat}, pairsD ops l0 o l = true → ∀ (p q : Nat) (x y : MD), l[p]? = some x → l[q]? = some y → p < q → pairD ops l0 (o + p) x y = true
  | [], _, _, _, _, _, _, h, _, _ => by simp at h
  | z :: l, o, hp, 0, q + 1, x, y, hx, hy, _ => by
    simp only [pairsD, Bool.and_eq_true, List.all_eq_true] at hp
    simp at hx hy
    subst hx
    exact hp.1 y (List.mem_of_getElem? hy)
  | z :: l, o, hp, p + 1, q + 1, x, y, hx, hy, hlt => by
    simp only [pairsD, Bool.and_eq_true] at hp
    have := pairsD_at hp.2 p q x y (by simpa using hx) (by simpa using hy) (by omega)
    rw [show o + (p + 1) = o + 1 + p by omega]
    exact this
  | z :: l, o, hp, _, 0, x, y, hx, hy, hlt => by omega
theorem chkD_DS {P : Program} {nt : Nat} {ops : Array Oper} {l : List MD} (h : chkD P nt ops l = true) : DS P nt ops l := by
  simp only [chkD, Bool.and_eq_true, List.all_eq_true] at h
  obtain ⟨⟨⟨_, h1⟩, h2⟩, h3⟩ := h
  refine ⟨h1, fun p q x y hx hy hlt => by simpa using pairsD_at h2 p q x y hx hy hlt, fun k hk => ?_⟩
  have := h3 k (List.mem_range.2 hk)
  obtain ⟨x, hx, he⟩ := List.any_eq_true.1 this
  exact ⟨x, hx, by simpa using he⟩

section
variable {P : Program} {B nt : Nat} {ops : Array Oper} {l : List MD}

theorem DS.parts (S : DS P nt ops l) {x : MD} (hx : x ∈ l) : ∃ o, ops[x.k]? = some o ∧ (if x.kd ≤ 2 then chkI P nt ops o x.i else mapD P nt ops l o x) = true ∧ (∀ e ∈ o.after, Region.binds .any e = true → e.on < ops.size ∧ e.on ≠ x.k) ∧ maskOf l o.after.toList = x.m ∧
    (x.kd = 2 → ∃ t t' n z d, o.op = .alloc t ∧ x.i.op = .box t' n (.c z) ∧ x.i.d = some d ∧ x.i.g = none) ∧ (∀ d, x.i.d = some d → d ∉ x.i.reads) ∧ (x.kd = 0 → x.i.op.light = true) := by
  have h := S.one x hx
  simp only [oneD, Bool.and_eq_true] at h
  obtain ⟨⟨h1, h2⟩, h3⟩ := h
  split at h1
  · rename_i o ho
    simp only [Bool.and_eq_true] at h1
    obtain ⟨⟨⟨h4, h5⟩, h5m⟩, h6⟩ := h1
    refine ⟨o, ho, h4, fun e he hb => ?_, by simpa using h5m, fun hk => ?_, fun d hd => ?_, fun hk => ?_⟩
    · have := Array.all_eq_true_iff_forall_mem.1 h5 e he
      simpa [hb] using this
    · rw [if_pos hk] at h6
      split at h6
      · exact ⟨_, _, _, _, _, by assumption, by assumption, by assumption, by assumption⟩
      · cases h6
    · rw [hd] at h2
      simpa using h2
    · rw [hk] at h3
      simpa using h3
  · cases h1
theorem DS.kinj (S : DS P nt ops l) {x y : MD} (hx : x ∈ l) (hy : y ∈ l) (h : x.k = y.k) : x = y := by
  obtain ⟨p, hp⟩ := List.getElem?_of_mem hx
  obtain ⟨q, hq⟩ := List.getElem?_of_mem hy
  have key : ∀ (p q : Nat) (x y : MD), l[p]? = some x → l[q]? = some y → p < q → x.k ≠ y.k := by
    intro p q x y hp hq hlt
    have := S.pair p q x y hp hq hlt
    simp only [pairD, Bool.and_eq_true] at this
    simpa using this.1.1.1.1.2
  rcases Nat.lt_trichotomy p q with hlt | rfl | hlt
  · exact absurd h (key _ _ _ _ hp hq hlt)
  · rw [hp] at hq; injection hq
  · exact absurd h.symm (key _ _ _ _ hq hp hlt)
theorem DS.dne (S : DS P nt ops l) {x y : MD} (hx : x ∈ l) (hy : y ∈ l) (h : x.k ≠ y.k) {d : Nat} (hd : x.i.d = some d) : y.i.d ≠ some d := by
  obtain ⟨p, hp⟩ := List.getElem?_of_mem hx
  obtain ⟨q, hq⟩ := List.getElem?_of_mem hy
  have key : ∀ (p q : Nat) (x y : MD), l[p]? = some x → l[q]? = some y → p < q → ∀ d, x.i.d = some d → y.i.d ≠ some d := by
    intro p q x y hp hq hlt d hd
    have := S.pair p q x y hp hq hlt
    simp only [pairD, Bool.and_eq_true] at this
    have h1 := this.1.1.1.2
    rw [hd] at h1
    simp only [Bool.and_eq_true] at h1
    simpa using h1.2
  rcases Nat.lt_trichotomy p q with hlt | rfl | hlt
  · exact key _ _ _ _ hp hq hlt d hd
  · rw [hp] at hq; injection hq with hq; exact absurd (by rw [hq]) h
  · intro e
    exact key _ _ _ _ hq hp hlt d e hd

/-- What is listed has all that is ahead of it listed. -/
def Closed (ops : Array Oper) (listed : Array Bool) : Prop :=
  ∀ k o, listed.getD k false = true → ops[k]? = some o → ∀ e ∈ o.after, Region.binds .any e = true → listed.getD e.on false = true
/-- i is ahead of j. -/
inductive Anc (ops : Array Oper) (i : Nat) : Nat → Prop where
  | one (j : Nat) (o : Oper) (e : Edge) (ho : ops[j]? = some o) (he : e ∈ o.after) (hb : Region.binds .any e = true) (h : e.on = i) : Anc ops i j
  | more (j : Nat) (o : Oper) (e : Edge) (ho : ops[j]? = some o) (he : e ∈ o.after) (hb : Region.binds .any e = true) (h : Anc ops i e.on) : Anc ops i j
theorem anc_closed {listed : Array Bool} (hc : Closed ops listed) {i j : Nat} (h : Anc ops i j) (hj : listed.getD j false = true) : listed.getD i false = true := by
  induction h with
  | one j o e ho he hb h => rw [← h]; exact hc j o hj ho e he hb
  | more j o e ho he hb _ ih => exact ih (hc j o hj ho e he hb)
theorem anc_ready {listed : Array Bool} (hc : Closed ops listed) {i j : Nat} (h : Anc ops i j) (hr : j ∈ Region.ready .any ops listed) : listed.getD i false = true := by
  obtain ⟨_, o', ho', hall⟩ := mem_ready.1 hr
  cases h with
  | one _ o e ho he hb h => rw [ho] at ho'; injection ho' with ho'; subst ho'; rw [← h]; exact hall e he hb
  | more _ o e ho he hb h => rw [ho] at ho'; injection ho' with ho'; subst ho'; exact anc_closed hc h (hall e he hb)
theorem maskOf_bit {l : List MD} {i : Nat} : ∀ {es : List Edge}, (maskOf l es).testBit i = true → ∃ e ∈ es, Region.binds .any e = true ∧ (e.on = i ∨ (lookL l e.on).testBit i = true)
  | [], h => by simp [maskOf] at h
  | e :: es, h => by
    simp only [maskOf] at h
    split at h
    · rename_i hb
      rw [Nat.testBit_or, Nat.testBit_or, Bool.or_eq_true, Bool.or_eq_true] at h
      rcases h with (h | h) | h
      · refine ⟨e, by simp, hb, .inl ?_⟩
        rw [Nat.one_shiftLeft, Nat.testBit_two_pow] at h
        simpa using h
      · exact ⟨e, by simp, hb, .inr h⟩
      · obtain ⟨e', he', h1⟩ := maskOf_bit h
        exact ⟨e', by simp [he'], h1⟩
    · obtain ⟨e', he', h1⟩ := maskOf_bit h
      exact ⟨e', by simp [he'], h1⟩
theorem lookL_bit {i k : Nat} : ∀ {l : List MD}, (lookL l k).testBit i = true → ∃ z ∈ l, z.k = k ∧ z.m.testBit i = true
  | [], h => by simp [lookL] at h
  | x :: l, h => by
    simp only [lookL] at h
    split at h
    · rename_i hk
      exact ⟨x, by simp, by simpa using hk, h⟩
    · obtain ⟨z, hz, h1⟩ := lookL_bit h
      exact ⟨z, by simp [hz], h1⟩
theorem DS.anc (S : DS P nt ops l) : ∀ (q : Nat) (y : MD), l[q]? = some y → ∀ i, y.m.testBit i = true → Anc ops i y.k := by
  intro q
  induction q using Nat.strongRecOn with
  | _ q ih =>
    intro y hy i hi
    obtain ⟨o, ho, _, hlt, hmk, _⟩ := S.parts (List.mem_of_getElem? hy)
    rw [← hmk] at hi
    obtain ⟨e, he, hb, h1⟩ := maskOf_bit hi
    have he' : e ∈ o.after := by simpa using he
    rcases h1 with h1 | h1
    · exact .one _ o e ho he' hb h1
    · obtain ⟨z, hz, hzk, hzm⟩ := lookL_bit h1
      obtain ⟨p, hp⟩ := List.getElem?_of_mem hz
      refine .more _ o e ho he' hb ?_
      rcases Nat.lt_trichotomy p q with hpq | rfl | hpq
      · rw [← hzk]; exact ih p hpq z hp i hzm
      · rw [hp] at hy; injection hy with hy; subst hy; exact absurd hzk.symm (hlt e he' hb).2
      · exfalso
        have := S.pair q p y z hy hp hpq
        simp only [pairD, Bool.and_eq_true, ho, Option.map_some, Option.getD_some] at this
        have := Array.all_eq_true_iff_forall_mem.1 this.1.1.1.1.1.2 e he'
        simp [hb, hzk] at this
theorem Closed.set {listed : Array Bool} (hc : Closed ops listed) {i : Nat} (hr : i ∈ Region.ready .any ops listed) : Closed ops (listed.setIfInBounds i true) := by
  intro k o hk ho e he hb
  refine getD_set_true ?_
  by_cases hik : i = k
  · subst hik
    obtain ⟨_, o', ho', hall⟩ := mem_ready.1 hr
    rw [ho] at ho'
    injection ho' with ho'
    subst ho'
    exact hall e he hb
  · rw [getD_set_ne false hik] at hk
    exact hc k o hk ho e he hb
theorem ready_un {listed : Array Bool} {i : Nat} (hs : listed.size = ops.size) (hr : i ∈ Region.ready .any ops listed) : listed.getD i false = false ∧ i < ops.size := by
  obtain ⟨h, o, ho, _⟩ := mem_ready.1 hr
  have hlt := (Array.getElem?_eq_some_iff.1 ho).1
  refine ⟨?_, hlt⟩
  have h1 : listed[i]? = some listed[i] := Array.getElem?_eq_getElem (by omega)
  rw [Array.getD_eq_getD_getElem?, h1] at h ⊢
  exact h
/-- Where something is not listed, something is ready. -/
theorem some_ready (S : DS P nt ops l) {listed : Array Bool} (hs : listed.size = ops.size) : ∀ (q : Nat) (y : MD), l[q]? = some y → listed.getD y.k false = false → ∃ i, i ∈ Region.ready .any ops listed := by
  intro q
  induction q using Nat.strongRecOn with
  | _ q ih =>
    intro y hy hu
    obtain ⟨o, ho, hI, hlt, _⟩ := S.parts (List.mem_of_getElem? hy)
    by_cases hr : ∀ e ∈ o.after, Region.binds .any e = true → listed.getD e.on false = true
    · refine ⟨y.k, mem_ready.2 ⟨?_, o, ho, hr⟩⟩
      have hlt := (Array.getElem?_eq_some_iff.1 ho).1
      have h1 : listed[y.k]? = some listed[y.k] := Array.getElem?_eq_getElem (by omega)
      rw [Array.getD_eq_getD_getElem?, h1] at hu ⊢
      exact hu
    · obtain ⟨e, he⟩ := Classical.not_forall.1 hr
      obtain ⟨he, h2⟩ := Classical.not_imp.1 he
      obtain ⟨hb, h3⟩ := Classical.not_imp.1 h2
      obtain ⟨h4, h5⟩ := hlt e he hb
      obtain ⟨z, hz, hzk⟩ := S.all e.on h4
      obtain ⟨p, hp⟩ := List.getElem?_of_mem hz
      have hzu : listed.getD z.k false = false := by rw [hzk]; simpa using h3
      rcases Nat.lt_trichotomy p q with hpq | rfl | hpq
      · exact ih p hpq z hp hzu
      · rw [hp] at hy; injection hy with hy; subst hy; exact absurd hzk.symm h5
      · exfalso
        have := S.pair q p y z hy hp hpq
        simp only [pairD, Bool.and_eq_true, ho, Option.map_some, Option.getD_some] at this
        have := Array.all_eq_true_iff_forall_mem.1 this.1.1.1.1.1.2 e he
        simp [hb, hzk] at this

/-- A new variable that the abstract machine does not have yet. -/
def Pend (w0 : World) (blk : Nat → Nat) (a : Act) (w : World) (g : Gh) (x : MD) : Prop :=
  ∃ t n z zv d, x.i.op = .box t n (.c z) ∧ x.i.d = some d ∧ x.i.g = none ∧ a.tmps.getD d undef = .pointer (some ⟨blk x.k, 0, none⟩) ∧ chkV zv z = true ∧
    w.heap[blk x.k]? = some (.cells zv.cells t (0, 0)) ∧ blk x.k ∉ g.bb ∧ (∀ G ∈ g.ab, G.k ≠ blk x.k) ∧ (∀ o, ¬ g.pr (blk x.k) o) ∧ w0.heap.size ≤ blk x.k

theorem Pend.step {w0 w w' : World} {g g' : Gh} {blk : Nat → Nat} {a a' : Act} {x : MD} (h : Pend w0 blk a w g x) (hs : Step B w g w' g') (ha : ∀ d, x.i.d = some d → a'.tmps.getD d undef = a.tmps.getD d undef) :
    Pend w0 blk a' w' g' x := by
  obtain ⟨t, n, z, zv, d, h1, h3, hg, h4, h5, h6, h7, h8, h9, h10⟩ := h
  have hlt : blk x.k < w.heap.size := (Array.getElem?_eq_some_iff.1 h6).1
  refine ⟨t, n, z, zv, d, h1, h3, hg, (ha d h3).trans h4, h5, (hs.rest _ hlt h7 h8 h9).trans h6, fun hb => ?_, fun G hG he => ?_, fun o hp => ?_, h10⟩
  · rcases hs.newb _ hb with hb | hb
    · exact h7 hb
    · omega
  · rcases hs.newa G hG with ⟨G0, h11, h12⟩ | hb
    · exact h8 G0 h11 (h12.trans he)
    · omega
  · rcases hs.newp _ o hp with hb | hb | ⟨G, hG, he⟩ | hb
    · exact h9 o hb
    · exact h7 hb
    · exact h8 G hG he
    · omega

/-- Is the entry j of the map literal there? -/
def insd (l : List MD) (listed : Array Bool) (j : Nat) : Bool := l.any fun y => y.kd == 4 && isNop j y.i.op && listed.getD y.k false
/-- The entries that are there. -/
def dn (l : List MD) (listed : Array Bool) (e : Nat → AV) (ps : List (AV × Nat)) : List (AV × AV) := (ps.zipIdx.filter fun q => insd l listed q.2).map fun q => (q.1.1, e q.1.2)
/-- A map that is being filled, which the abstract machine does not have yet. -/
def PendM (B : Nat) (w0 : World) (blk : Nat → Nat) (l : List MD) (listed : Array Bool) (e : Nat → AV) (a : Act) (w : World) (g : Gh) (x : MD) : Prop :=
  ∃ st ps d, x.i.op = .mkml st ps ∧ x.i.d = some d ∧ x.i.g = none ∧ a.tmps.getD d undef = .map (some (blk x.k)) ∧
    (∃ (es : List (AV × AV)) (ents : List MapEntry) (clock : Nat), w.heap[blk x.k]? = some (.map ents.toArray clock) ∧ RL B w g (es.map (·.1)) (ents.map (·.key)) ∧ RL B w g (es.map (·.2)) (ents.map (·.val)) ∧ es.Perm (dn l listed e ps)) ∧
    blk x.k ∉ g.bb ∧ (∀ G ∈ g.ab, G.k ≠ blk x.k) ∧ (∀ o, ¬ g.pr (blk x.k) o) ∧ w0.heap.size ≤ blk x.k
/-- What has been done ahead of its turn. -/
def Ahead (B : Nat) (w0 : World) (blk : Nat → Nat) (l : List MD) (listed : Array Bool) (e : Nat → AV) (a : Act) (w : World) (g : Gh) (x : MD) : Prop :=
  (x.kd = 2 ∧ Pend w0 blk a w g x) ∨ (x.kd = 3 ∧ PendM B w0 blk l listed e a w g x) ∨ (x.kd = 4 ∧ x.i.d = none)
theorem Ahead.kd {w0 : World} {blk : Nat → Nat} {listed : Array Bool} {e : Nat → AV} {a : Act} {w : World} {g : Gh} {x : MD} (h : Ahead B w0 blk l listed e a w g x) : 2 ≤ x.kd := by
  rcases h with ⟨h, _⟩ | ⟨h, _⟩ | ⟨h, _⟩ <;> omega
theorem insd_congr {listed listed' : Array Bool} (h : ∀ y ∈ l, y.kd = 4 → listed'.getD y.k false = listed.getD y.k false) (j : Nat) : insd l listed' j = insd l listed j := by
  unfold insd
  apply Bool.eq_iff_iff.2
  simp only [List.any_eq_true, Bool.and_eq_true, beq_iff_eq]
  constructor
  · rintro ⟨y, hy, ⟨h1, h2⟩, h3⟩; exact ⟨y, hy, ⟨h1, h2⟩, by rw [← h y hy h1]; exact h3⟩
  · rintro ⟨y, hy, ⟨h1, h2⟩, h3⟩; exact ⟨y, hy, ⟨h1, h2⟩, by rw [h y hy h1]; exact h3⟩
theorem dn_congr {listed listed' : Array Bool} {e e' : Nat → AV} {ps : List (AV × Nat)} (h : ∀ y ∈ l, y.kd = 4 → listed'.getD y.k false = listed.getD y.k false)
    (he : ∀ j key t, insd l listed j = true → ps[j]? = some (key, t) → e' t = e t) : dn l listed' e' ps = dn l listed e ps := by
  unfold dn
  have h1 : (ps.zipIdx.filter fun q => insd l listed' q.2) = ps.zipIdx.filter fun q => insd l listed q.2 := by
    congr 1
    funext q
    exact insd_congr h q.2
  rw [h1]
  refine List.map_congr_left fun q hq => ?_
  obtain ⟨hq1, hq2⟩ := List.mem_filter.1 hq
  obtain ⟨⟨key, t⟩, j⟩ := q
  have := List.mem_zipIdx_iff_getElem?.1 hq1
  dsimp only at this hq2 ⊢
  rw [he j key t hq2 this]
theorem PendM.step {w0 w w' : World} {g g' : Gh} {blk : Nat → Nat} {a a' : Act} {listed listed' : Array Bool} {e e' : Nat → AV} {x : MD} (h : PendM B w0 blk l listed e a w g x) (hs : Step B w g w' g') (ha : ∀ d, x.i.d = some d → a'.tmps.getD d undef = a.tmps.getD d undef)
    (hl : ∀ y ∈ l, y.kd = 4 → listed'.getD y.k false = listed.getD y.k false) (he : ∀ st ps j key t, x.i.op = .mkml st ps → insd l listed j = true → ps[j]? = some (key, t) → e' t = e t) :
    PendM B w0 blk l listed' e' a' w' g' x := by
  obtain ⟨st, ps, d, h1, h3, hg, h4, ⟨es, ents, clock, h6, q1, q2, q3⟩, h7, h8, h9, h10⟩ := h
  have hlt : blk x.k < w.heap.size := (Array.getElem?_eq_some_iff.1 h6).1
  refine ⟨st, ps, d, h1, h3, hg, (ha d h3).trans h4, ⟨es, ents, clock, (hs.rest _ hlt h7 h8 h9).trans h6, q1.step hs, q2.step hs, by rw [dn_congr hl (fun j key t => he st ps j key t h1)]; exact q3⟩, fun hb => ?_, fun G hG he => ?_, fun o hp => ?_, h10⟩
  · rcases hs.newb _ hb with hb | hb
    · exact h7 hb
    · omega
  · rcases hs.newa G hG with ⟨G0, h11, h12⟩ | hb
    · exact h8 G0 h11 (h12.trans he)
    · omega
  · rcases hs.newp _ o hp with hb | hb | ⟨G, hG, he⟩ | hb
    · exact h9 o hb
    · exact h7 hb
    · exact h8 G hG he
    · omega
theorem Ahead.step {w0 w w' : World} {g g' : Gh} {blk : Nat → Nat} {a a' : Act} {listed listed' : Array Bool} {e e' : Nat → AV} {x : MD} (h : Ahead B w0 blk l listed e a w g x) (hs : Step B w g w' g') (ha : ∀ d, x.i.d = some d → a'.tmps.getD d undef = a.tmps.getD d undef)
    (hl : ∀ y ∈ l, y.kd = 4 → listed'.getD y.k false = listed.getD y.k false) (he : x.kd = 3 → ∀ st ps j key t, x.i.op = .mkml st ps → insd l listed j = true → ps[j]? = some (key, t) → e' t = e t) :
    Ahead B w0 blk l listed' e' a' w' g' x := by
  rcases h with ⟨h1, h2⟩ | ⟨h1, h2⟩ | h1
  · exact .inl ⟨h1, h2.step hs ha⟩
  · exact .inr (.inl ⟨h1, h2.step hs ha hl (he h1)⟩)
  · exact .inr (.inr h1)

structure DI (B nt : Nat) (ops : Array Oper) (l : List MD) (K : Nat → Bool) (dd : List Deferred) (e0 : Nat → AV) (w0 : World) (g0 : Gh) (blk : Nat → Nat) (pre post : List MD) (listed : Array Bool) (e ê : Nat → AV) (h : Hp) (a : Act) (w : World) (g : Gh) : Prop where
  full : l = pre ++ post
  size : listed.size = ops.size
  closed : Closed ops listed
  pre0 : ∀ x ∈ pre, listed.getD x.k false = false → x.kd = 0 ∧ same e h x.i = true ∧ (grd x.i.g e = false → ∀ d, x.i.d = some d → e d = undefA)
  post1 : ∀ x ∈ post, listed.getD x.k false = true → Ahead B w0 blk l listed e a w g x
  inj : ∀ x ∈ post, ∀ y ∈ post, x.kd ≠ 4 → y.kd ≠ 4 → listed.getD x.k false = true → listed.getD y.k false = true → blk x.k = blk y.k → x.k = y.k
  mp : ∀ x ∈ pre, x.kd = 3 → ∀ y ∈ l, y.kd = 4 → listed.getD y.k false = true
  agree : ∀ t, (∀ x ∈ pre, listed.getD x.k false = false → x.i.d ≠ some t) → (∀ x ∈ post, listed.getD x.k false = true → x.i.d ≠ some t) → ê t = e t
  er : ER B w g ê a
  tn : a.tmps.size = nt
  df : a.defers = dd
  hr : HR B h g w
  st : Step B w0 g0 w g
  b0 : B ≤ w0.heap.size
  k0 : ∀ t, K t = true → e t = e0 t

variable {K : Nat → Bool} {dd : List Deferred} {e0 : Nat → AV} {w0 : World} {g0 : Gh} {blk : Nat → Nat} {pre post : List MD} {listed : Array Bool} {e ê : Nat → AV} {h : Hp} {a : Act} {w : World} {g : Gh}

/-- What an operation that is ready looks at is there. -/
theorem DI.reads (S : DS P nt ops l) (D : DI B nt ops l K dd e0 w0 g0 blk pre post listed e ê h a w g) {q : Nat} {y : MD} (hq : l[q]? = some y) (hle : q ≤ pre.length) (hy3 : y.kd ≠ 3) (hr : y.k ∈ Region.ready .any ops listed) :
    ∀ t ∈ y.i.reads, ê t = e t := by
  intro t ht
  have hyl := List.mem_of_getElem? hq
  have hyu := (ready_un D.size hr).1
  refine D.agree t (fun z hz hzu hzd => ?_) (fun z hz hzl hzd => ?_)
  · have hzl : z ∈ l := by rw [D.full]; exact List.mem_append_left _ hz
    by_cases hk : z.k = y.k
    · have := S.kinj hzl hyl hk
      subst this
      obtain ⟨_, _, _, _, _, _, hself, _⟩ := S.parts hzl
      exact hself t hzd ht
    · obtain ⟨p, hp⟩ := List.getElem?_of_mem hzl
      rcases Nat.lt_trichotomy p q with hpq | rfl | hpq
      · have := S.pair p q z y hp hq hpq
        simp only [pairD, Bool.and_eq_true] at this
        have h1 := this.1.1.1.2
        rw [hzd] at h1
        simp only [Bool.and_eq_true, Bool.or_eq_true, Bool.not_eq_true', List.contains_eq_mem, decide_eq_false_iff_not, beq_iff_eq] at h1
        rcases h1.1 with (h2 | h2) | h2
        · exact absurd h2 hy3
        · exact h2 ht
        · have := anc_ready D.closed (S.anc _ _ hq _ h2) hr
          rw [hzu] at this
          cases this
      · rw [hp] at hq; injection hq with hq; exact hk (by rw [hq])
      · have := S.pair q p y z hq hp hpq
        simp only [pairD, Bool.and_eq_true] at this
        have h1 := this.1.1.2
        rw [hzd] at h1
        simp only [Bool.and_eq_true, Bool.or_eq_true, Bool.not_eq_true', List.contains_eq_mem, decide_eq_false_iff_not, beq_iff_eq] at h1
        rcases h1 with h2 | h2
        · exact h2 ht
        · have := (D.pre0 z hz hzu).1
          omega
  · have hzl' : z ∈ l := by rw [D.full]; exact List.mem_append_right _ hz
    obtain ⟨p', hp'⟩ := List.getElem?_of_mem hz
    have hp : l[pre.length + p']? = some z := by
      rw [D.full, List.getElem?_append_right (by omega)]
      simpa using hp'
    have hk : z.k ≠ y.k := fun he => by rw [he, hyu] at hzl; cases hzl
    rcases Nat.lt_or_eq_of_le (show q ≤ pre.length + p' by omega) with hpq | hpq
    · have := S.pair q _ y z hq hp hpq
      simp only [pairD, Bool.and_eq_true] at this
      have h1 := this.1.1.2
      rw [hzd] at h1
      simp only [Bool.and_eq_true, Bool.or_eq_true, Bool.not_eq_true', List.contains_eq_mem, decide_eq_false_iff_not, beq_iff_eq] at h1
      rcases h1 with h2 | h2
      · exact h2 ht
      · have := (D.post1 z hz hzl).kd
        omega
    · rw [← hpq, hq] at hp; injection hp with hp; exact hk (by rw [hp])

theorem DS.pairM_at (S : DS P nt ops l) {p q : Nat} {x y : MD} (hp : l[p]? = some x) (hq : l[q]? = some y) (hlt : p < q) : pairM l x y = true := by
  have := S.pair p q x y hp hq hlt
  simp only [pairD, Bool.and_eq_true] at this
  exact this.1.1.1.1.1.1
/-- There is one map literal. -/
theorem DS.one3 (S : DS P nt ops l) {x y : MD} (hx : x ∈ l) (hy : y ∈ l) (h1 : x.kd = 3) (h2 : y.kd = 3) : x = y := by
  obtain ⟨p, hp⟩ := List.getElem?_of_mem hx
  obtain ⟨q, hq⟩ := List.getElem?_of_mem hy
  rcases Nat.lt_trichotomy p q with hlt | rfl | hlt
  · have := S.pairM_at hp hq hlt
    simp [pairM, h1, h2] at this
  · rw [hp] at hq; injection hq
  · have := S.pairM_at hq hp hlt
    simp [pairM, h1, h2] at this
/-- Each entry stands once. -/
theorem DS.one4 (S : DS P nt ops l) {x y : MD} (hx : x ∈ l) (hy : y ∈ l) (h1 : x.kd = 4) (h2 : y.kd = 4) {j : Nat} (hj : x.i.op = .nop j) (hj' : isNop j y.i.op = true) : x = y := by
  obtain ⟨p, hp⟩ := List.getElem?_of_mem hx
  obtain ⟨q, hq⟩ := List.getElem?_of_mem hy
  have hyo : y.i.op = .nop j := by
    unfold isNop at hj'
    split at hj'
    · rename_i j' hjj
      rw [hjj]
      simp at hj'
      rw [hj']
    · cases hj'
  rcases Nat.lt_trichotomy p q with hlt | rfl | hlt
  · have := S.pairM_at hp hq hlt
    simp [pairM, h1, h2, hj, hyo, isNop] at this
  · rw [hp] at hq; injection hq
  · have := S.pairM_at hq hp hlt
    simp [pairM, h1, h2, hj, hyo, isNop] at this

/-- What the check of an entry tells. -/
theorem DS.entry (S : DS P nt ops l) {y : MD} (hy : y ∈ l) (hk : y.kd = 4) : ∃ o t d k tv j x st ps key z, ops[y.k]? = some o ∧ o.op = .insert t (.tmp d) k (.tmp tv) ∧ o.guard = none ∧ o.dst = none ∧ y.i.op = .nop j ∧ y.i.g = none ∧ y.i.d = none ∧
    x ∈ l ∧ x.kd = 3 ∧ y.m.testBit x.k = true ∧ x.i.op = .mkml st ps ∧ x.i.d = some d ∧ ps[j]? = some (key, tv) ∧ chkO k (.c key) = true ∧ z ∈ l ∧ z.kd ≤ 1 ∧ z.i.d = some tv ∧ y.m.testBit z.k = true ∧
    (∃ ox, ops[x.k]? = some ox ∧ ox.op = .makeMap t none) := by
  obtain ⟨o, ho, hI, _⟩ := S.parts hy
  rw [if_neg (by omega)] at hI
  simp only [mapD, Bool.and_eq_true, Option.isNone_iff_eq_none] at hI
  obtain ⟨⟨hg, hig⟩, hI⟩ := hI
  split at hI
  · simp only [Bool.and_eq_true, beq_iff_eq] at hI
    omega
  · rename_i t m k v j hop hiop
    simp only [Bool.and_eq_true, Option.isNone_iff_eq_none, List.any_eq_true, beq_iff_eq] at hI
    obtain ⟨⟨⟨_, hid⟩, hod⟩, x, hx, ⟨hx3, hxm⟩, hI⟩ := hI
    split at hI
    · rename_i ox hox
      split at hI
      · rename_i t' st ps d hoxp hxop hxd
        simp only [Bool.and_eq_true, beq_iff_eq] at hI
        obtain ⟨rfl, hI⟩ := hI
        split at hI
        · rename_i d' tv key tv' hps
          simp only [Bool.and_eq_true, beq_iff_eq, List.any_eq_true, decide_eq_true_eq] at hI
          obtain ⟨⟨⟨rfl, rfl⟩, hkey⟩, z, hz, ⟨hz1, hz2⟩, hz3⟩ := hI
          exact ⟨o, t, d', k, tv', j, x, st, ps, key, z, ho, hop, hg, hod, hiop, hig, hid, hx, hx3, hxm, hxop, hxd, hps, hkey, hz, hz1, hz2, hz3, ox, hox, hoxp⟩
        · cases hI
      · cases hI
    · cases hI
  · cases hI
/-- What the check of a map literal tells. -/
theorem DS.lit (S : DS P nt ops l) {x : MD} (hx : x ∈ l) (hk : x.kd = 3) : ∃ o t st ps d, ops[x.k]? = some o ∧ o.op = .makeMap t none ∧ o.guard = none ∧ o.dst = some d ∧ d < nt ∧ x.i.op = .mkml st ps ∧ x.i.d = some d ∧ x.i.g = none ∧
    (match P.underlying t with
        | some (.map kt _) => if st then strT P kt else intT P kt
        | _ => false) = true ∧ keysOk st (ps.map (·.1)) = true ∧ ∀ j, j < ps.length → ∃ y ∈ l, y.kd = 4 ∧ isNop j y.i.op = true := by
  obtain ⟨o, ho, hI, _⟩ := S.parts hx
  rw [if_neg (by omega)] at hI
  simp only [mapD, Bool.and_eq_true, Option.isNone_iff_eq_none] at hI
  obtain ⟨⟨hg, hig⟩, hI⟩ := hI
  split at hI
  · rename_i t st ps hop hiop
    simp only [Bool.and_eq_true, beq_iff_eq, List.all_eq_true, List.any_eq_true] at hI
    obtain ⟨⟨⟨⟨_, ht⟩, hd⟩, hks⟩, hall⟩ := hI
    split at hd
    · rename_i d hxd
      simp only [Bool.and_eq_true, beq_iff_eq, decide_eq_true_eq] at hd
      refine ⟨o, t, st, ps, d, ho, hop, hg, hd.1, hd.2, hiop, hxd, hig, ht, hks, fun j hj => ?_⟩
      obtain ⟨y, hy, h1, h2⟩ := hall j (List.mem_range.2 hj)
      exact ⟨y, hy, h1, h2⟩
    · cases hd
  · simp only [Bool.and_eq_true, beq_iff_eq] at hI
    omega
  · cases hI

/-- The value of an entry that is there stands since long. -/
theorem DI.vals (S : DS P nt ops l) (D : DI B nt ops l K dd e0 w0 g0 blk pre post listed e ê h a w g) {x : MD} (hx : x ∈ l) {st : Bool} {ps : List (AV × Nat)} (hop : x.i.op = .mkml st ps) (hx3 : x.kd = 3) {j : Nat} {key : AV} {t : Nat}
    (hj : insd l listed j = true) (hps : ps[j]? = some (key, t)) : ∃ z ∈ pre, z.i.d = some t ∧ listed.getD z.k false = true := by
  simp only [insd, List.any_eq_true, Bool.and_eq_true, beq_iff_eq] at hj
  obtain ⟨y, hy, ⟨hy4, hyj⟩, hyl⟩ := hj
  obtain ⟨o, t0, d, k, tv, j', x', st', ps', key', z, _, _, _, _, hyop, _, _, hx', hx3', _, hxop', _, hps', _, hz, hz1, hz2, hz3, _⟩ := S.entry hy hy4
  have hxx := S.one3 hx hx' hx3 hx3'
  subst hxx
  rw [hop] at hxop'
  injection hxop' with h1 h2
  subst h2
  have hjj : j' = j := by
    rw [hyop] at hyj
    simpa [isNop] using hyj
  subst hjj
  rw [hps] at hps'
  injection hps' with hps'
  injection hps' with h3 h4
  subst h4
  obtain ⟨q, hq⟩ := List.getElem?_of_mem hy
  have hzl := anc_closed D.closed (S.anc _ _ hq _ hz3) hyl
  have hz' := hz
  rw [D.full] at hz'
  rcases List.mem_append.1 hz' with hz' | hz'
  · exact ⟨z, hz', hz2, hzl⟩
  · have := (D.post1 z hz' hzl).kd
    omega
/-- What is written by the next of the one order, or by one that is delayed, is no such value. -/
theorem DI.vals_ne (S : DS P nt ops l) (D : DI B nt ops l K dd e0 w0 g0 blk pre post listed e ê h a w g) {x : MD} (hx : x ∈ l) {st : Bool} {ps : List (AV × Nat)} (hop : x.i.op = .mkml st ps) (hx3 : x.kd = 3) {j : Nat} {key : AV} {t : Nat}
    (hj : insd l listed j = true) (hps : ps[j]? = some (key, t)) {y : MD} (hy : y ∈ post) : y.i.d ≠ some t := by
  obtain ⟨z, hz, hzd, _⟩ := D.vals S hx hop hx3 hj hps
  intro hyd
  have hzl : z ∈ l := by rw [D.full]; exact List.mem_append_left _ hz
  have hyl : y ∈ l := by rw [D.full]; exact List.mem_append_right _ hy
  obtain ⟨p', hp'⟩ := List.getElem?_of_mem hz
  obtain ⟨q', hq'⟩ := List.getElem?_of_mem hy
  have hplt := (List.getElem?_eq_some_iff.1 hp').1
  have hp : l[p']? = some z := by rw [D.full, List.getElem?_append_left hplt]; exact hp'
  have hq : l[pre.length + q']? = some y := by rw [D.full, List.getElem?_append_right (by omega)]; simpa using hq'
  have hk : z.k ≠ y.k := by
    have := S.pair p' _ z y hp hq (by omega)
    simp only [pairD, Bool.and_eq_true] at this
    simpa using this.1.1.1.1.2
  exact S.dne hzl hyl hk hzd hyd
end
end Go.Ab
