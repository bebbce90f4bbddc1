/- How the abstract machine's values and heap stand to the model's. -/
import Derived.Test.YtjeffeobdpganaaGreatDoorAbEv
import Derived.Below
import Derived.Laws.AppendOwn
import Derived.Laws.IdiomCopy
import Derived.Laws.Entries
set_option linter.unusedSimpArgs false
set_option linter.unusedVariables false
namespace Go.Ab
open Go.RowKit (Below)

/-- What is kept of an array: its block, how often it has grown, its room, an element's cells. -/
structure AG where
  k : Nat
  ver : Nat
  cap : Nat
  esz : Nat

/-- The blocks of boxes and arrays, and the cells that are only read. -/
structure Gh where
  bb : List Nat
  ab : List AG
  pr : Nat → Nat → Prop

inductive R (B : Nat) (w : World) (g : Gh) : AV → Value → Prop where
  | bool (b : Bool) : R B w g (.bool b) (.bool b)
  | int (k : IntKind) (n : Int) : R B w g (.int k n) (.int k n)
  | str (s : List UInt8) : R B w g (.str s) (.string ⟨s.toArray⟩)
  | nilp : R B w g .nilp (.pointer none)
  | ptr (b o k : Nat) (h : g.bb[b]? = some k) : R B w g (.ptr b o) (.pointer (some ⟨k, o, none⟩))
  | aptr (a ver i j : Nat) (G : AG) (ad : Addr) (hg : g.ab[a]? = some G) (hv : ver ≤ G.ver) (had : G.ver = ver → ad = ⟨G.k, i * G.esz + j, none⟩) :
      R B w g (.aptr a ver i j) (.pointer (some ad))
  | vptr (cs : List AV) (o k p : Nat) (f : Nat → Value) (hc : ∀ (j : Nat) (x : AV), cs[j]? = some x → g.pr k (p + j) ∧ w.cell? ⟨k, p + j, none⟩ = some (f j) ∧ (f j).oneCell' = true)
      (hr : ∀ (j : Nat) (x : AV), cs[j]? = some x → R B w g x (f j)) : R B w g (.vptr cs o) (.pointer (some ⟨k, p + o, none⟩))
  | vs (full : Bool) (es : List (List AV)) (ad : Option Addr) (cap k p esz : Nat) (f : Nat → Nat → Value)
      (had : es ≠ [] → ad = some ⟨k, p, none⟩) (hsz : ∀ c ∈ es, c.length = esz)
      (hc : ∀ (i : Nat) (c : List AV) (j : Nat) (x : AV), es[i]? = some c → c[j]? = some x → g.pr k (p + (i * esz + j)) ∧ w.cell? ⟨k, p + (i * esz + j), none⟩ = some (f i j) ∧ (f i j).oneCell' = true)
      (hr : ∀ (i : Nat) (c : List AV) (j : Nat) (x : AV), es[i]? = some c → c[j]? = some x → R B w g x (f i j))
      (hcap : es.length ≤ cap) (hfull : full = true → cap = es.length ∧ (es ≠ [] → B ≤ k) ∧ (es = [] → ad = none)) : R B w g (.vs full es) (.slice ad es.length cap)
  | rs (a ver lo n : Nat) (G : AG) (ad : Option Addr) (cap : Nat) (hg : g.ab[a]? = some G) (hv : ver ≤ G.ver)
      (had : G.ver = ver → ad = some ⟨G.k, lo * G.esz, none⟩ ∧ cap + lo = G.cap ∧ n ≤ cap) : R B w g (.rs a ver lo n) (.slice ad n cap)
  | nilm : R B w g .nilm (.map none)
  | mp (b k : Nat) (h : g.bb[b]? = some k) : R B w g (.mp b) (.map (some k))
  | it (b k : Nat) (h : g.bb[b]? = some k) : R B w g (.it b) (.pointer (some ⟨k, 0, none⟩))
  | nilf : R B w g .nilf .nilFunc
  | fn (f : FuncId) (cap : List AV) (vs : List Value) (hl : cap.length = vs.length) (hr : ∀ (i : Nat) (x : AV) (v : Value), cap[i]? = some x → vs[i]? = some v → R B w g x v) :
      R B w g (.fn f cap) (.func (.func f) #[] vs.toArray)
  | nili : R B w g .nili .nilIface
  | iface (t : TypeId) (x : AV) (v : Value) (hr : R B w g x v) : R B w g (.iface t x) (.iface t v)
  | agg (xs : List AV) (vs : List Value) (hl : xs.length = vs.length) (hr : ∀ (i : Nat) (x : AV) (v : Value), xs[i]? = some x → vs[i]? = some v → R B w g x v)
      (h1 : ∀ v ∈ vs, v.oneCell' = true) : R B w g (.agg xs) (.agg vs.toArray)
  | tup (xs : List AV) (vs : List Value) (hl : xs.length = vs.length) (hr : ∀ (i : Nat) (x : AV) (v : Value), xs[i]? = some x → vs[i]? = some v → R B w g x v) :
      R B w g (.tup xs) (.tuple vs.toArray)
  | any (k : Nat) : R B w g .any (.map (some k))

/-- From one moment to a later one. -/
structure Step (B : Nat) (w : World) (g : Gh) (w' : World) (g' : Gh) : Prop where
  below : Below B w w'
  bb : ∀ (b k : Nat), g.bb[b]? = some k → g'.bb[b]? = some k
  ab : ∀ (a : Nat) (G : AG), g.ab[a]? = some G → ∃ G', g'.ab[a]? = some G' ∧ G.ver ≤ G'.ver ∧ (G'.ver = G.ver → G' = G)
  newb : ∀ k ∈ g'.bb, k ∈ g.bb ∨ w.heap.size ≤ k
  newa : ∀ G ∈ g'.ab, (∃ G0 ∈ g.ab, G0.k = G.k) ∨ w.heap.size ≤ G.k
  pr : ∀ k o, g.pr k o → g'.pr k o
  cell : ∀ k o v, g.pr k o → w.cell? ⟨k, o, none⟩ = some v → w'.cell? ⟨k, o, none⟩ = some v
  rest : ∀ k, k < w.heap.size → k ∉ g.bb → (∀ G ∈ g.ab, G.k ≠ k) → (∀ o, ¬ g.pr k o) → w'.heap[k]? = w.heap[k]?
  newp : ∀ k o, g'.pr k o → g.pr k o ∨ k ∈ g.bb ∨ (∃ G ∈ g.ab, G.k = k) ∨ w.heap.size ≤ k

theorem Step.refl (B : Nat) (w : World) (g : Gh) : Step B w g w g :=
  ⟨Below.refl _ _, fun _ _ h => h, fun _ G h => ⟨G, h, Nat.le_refl _, fun _ => rfl⟩, fun _ h => .inl h, fun G h => .inl ⟨G, h, rfl⟩, fun _ _ h => h, fun _ _ _ _ h => h, fun _ _ _ _ _ => rfl, fun _ _ h => .inl h⟩
theorem Step.trans {B : Nat} {w w' w'' : World} {g g' g'' : Gh} (h : Step B w g w' g') (h' : Step B w' g' w'' g'') : Step B w g w'' g'' := by
  refine ⟨h.below.trans h'.below, fun b k hb => h'.bb _ _ (h.bb _ _ hb), fun a G ha => ?_, fun k hk => ?_, fun G hG => ?_, fun k o hp => h'.pr _ _ (h.pr _ _ hp), fun k o v hp hc => h'.cell _ _ _ (h.pr _ _ hp) (h.cell _ _ _ hp hc), fun k hk hb ha hp => ?_, fun k o hp => ?_⟩
  · obtain ⟨G1, h1, h2, h3⟩ := h.ab a G ha
    obtain ⟨G2, h4, h5, h6⟩ := h'.ab a G1 h1
    refine ⟨G2, h4, Nat.le_trans h2 h5, fun he => ?_⟩
    have e1 : G1.ver = G.ver := by omega
    have e2 : G2.ver = G1.ver := by omega
    rw [h6 e2, h3 e1]
  · rcases h'.newb k hk with h1 | h1
    · exact h.newb k h1
    · exact .inr (Nat.le_trans h.below.size h1)
  · rcases h'.newa G hG with ⟨G1, h1, h2⟩ | h1
    · rcases h.newa G1 h1 with ⟨G0, h3, h4⟩ | h3
      · exact .inl ⟨G0, h3, h4.trans h2⟩
      · exact .inr (h2 ▸ h3)
    · exact .inr (Nat.le_trans h.below.size h1)
  · refine (h'.rest k (Nat.lt_of_lt_of_le hk h.below.size) (fun hb' => ?_) (fun G hG he => ?_) (fun o hp' => ?_)).trans (h.rest k hk hb ha hp)
    · rcases h.newb k hb' with h1 | h1
      · exact hb h1
      · omega
    · rcases h.newa G hG with ⟨G0, h1, h2⟩ | h1
      · exact ha G0 h1 (h2.trans he)
      · omega
    · rcases h.newp k o hp' with h1 | h1 | ⟨G, h1, h2⟩ | h1
      · exact hp o h1
      · exact hb h1
      · exact ha G h1 h2
      · omega
  · rcases h'.newp k o hp with h1 | h1 | ⟨G, h1, h2⟩ | h1
    · exact h.newp k o h1
    · rcases h.newb k h1 with h3 | h3
      · exact .inr (.inl h3)
      · exact .inr (.inr (.inr h3))
    · rcases h.newa G h1 with ⟨G0, h3, h4⟩ | h3
      · exact .inr (.inr (.inl ⟨G0, h3, h4.trans h2⟩))
      · exact .inr (.inr (.inr (h2 ▸ h3)))
    · exact .inr (.inr (.inr (Nat.le_trans h.below.size h1)))

/-- What the values' relation needs of it. -/
structure Mono (w : World) (g : Gh) (w' : World) (g' : Gh) : Prop where
  bb : ∀ (b k : Nat), g.bb[b]? = some k → g'.bb[b]? = some k
  ab : ∀ (a : Nat) (G : AG), g.ab[a]? = some G → ∃ G', g'.ab[a]? = some G' ∧ G.ver ≤ G'.ver ∧ (G'.ver = G.ver → G' = G)
  pr : ∀ k o, g.pr k o → g'.pr k o
  cell : ∀ k o v, g.pr k o → w.cell? ⟨k, o, none⟩ = some v → w'.cell? ⟨k, o, none⟩ = some v
theorem Step.mono {B : Nat} {w w' : World} {g g' : Gh} (h : Step B w g w' g') : Mono w g w' g' := ⟨h.bb, h.ab, h.pr, h.cell⟩
theorem R.mono {B : Nat} {w w' : World} {g g' : Gh} (h : Mono w g w' g') {x : AV} {v : Value} (hr : R B w g x v) : R B w' g' x v := by
  induction hr with
  | bool b => exact .bool b
  | int k n => exact .int k n
  | str s => exact .str s
  | nilp => exact .nilp
  | ptr b o k hb => exact .ptr b o k (h.bb _ _ hb)
  | aptr a ver i j G ad hg hv had =>
    obtain ⟨G', h1, h2, h3⟩ := h.ab a G hg
    exact .aptr a ver i j G' ad h1 (Nat.le_trans hv h2) fun e => by
      have e1 : G'.ver = G.ver := by omega
      rw [h3 e1]
      exact had (by omega)
  | vptr cs o k p f hc _ ih => exact .vptr cs o k p f (fun j x hx => ⟨h.pr _ _ (hc j x hx).1, h.cell _ _ _ (hc j x hx).1 (hc j x hx).2.1, (hc j x hx).2.2⟩) ih
  | vs full es ad cap k p esz f had hsz hc _ hcap hfull ih =>
    exact .vs full es ad cap k p esz f had hsz (fun i c j x hi hx => ⟨h.pr _ _ (hc i c j x hi hx).1, h.cell _ _ _ (hc i c j x hi hx).1 (hc i c j x hi hx).2.1, (hc i c j x hi hx).2.2⟩) ih hcap hfull
  | rs a ver lo n G ad cap hg hv had =>
    obtain ⟨G', h1, h2, h3⟩ := h.ab a G hg
    exact .rs a ver lo n G' ad cap h1 (Nat.le_trans hv h2) fun e => by
      have e1 : G'.ver = G.ver := by omega
      rw [h3 e1]
      exact had (by omega)
  | nilm => exact .nilm
  | mp b k hb => exact .mp b k (h.bb _ _ hb)
  | it b k hb => exact .it b k (h.bb _ _ hb)
  | nilf => exact .nilf
  | fn f cap vs hl _ ih => exact .fn f cap vs hl ih
  | nili => exact .nili
  | iface t x v _ ih => exact .iface t x v ih
  | agg xs vs hl _ h1 ih => exact .agg xs vs hl ih h1
  | tup xs vs hl _ ih => exact .tup xs vs hl ih
  | any v => exact .any v

theorem R.step {B : Nat} {w w' : World} {g g' : Gh} (h : Step B w g w' g') {x : AV} {v : Value} (hr : R B w g x v) : R B w' g' x v := hr.mono h.mono

/-- Lists of values, place by place. -/
structure RL (B : Nat) (w : World) (g : Gh) (xs : List AV) (vs : List Value) : Prop where
  len : xs.length = vs.length
  at_ : ∀ (i : Nat) (x : AV) (v : Value), xs[i]? = some x → vs[i]? = some v → R B w g x v
theorem RL.step {B : Nat} {w w' : World} {g g' : Gh} (h : Step B w g w' g') {xs : List AV} {vs : List Value} (hr : RL B w g xs vs) : RL B w' g' xs vs :=
  ⟨hr.len, fun i x v hx hv => (hr.at_ i x v hx hv).step h⟩
theorem RL.nil {B : Nat} {w : World} {g : Gh} : RL B w g [] [] := ⟨rfl, fun i x v hx => by simp at hx⟩
theorem RL.cons {B : Nat} {w : World} {g : Gh} {x : AV} {v : Value} {xs : List AV} {vs : List Value} (h : R B w g x v) (hr : RL B w g xs vs) : RL B w g (x :: xs) (v :: vs) :=
  ⟨by simp [hr.len], fun i y u hy hu => by
    cases i with
    | zero => simp at hy hu; subst hy; subst hu; exact h
    | succ i => simp at hy hu; exact hr.at_ i y u hy hu⟩
theorem RL.append {B : Nat} {w : World} {g : Gh} {xs ys : List AV} {vs us : List Value} (h : RL B w g xs vs) (h' : RL B w g ys us) : RL B w g (xs ++ ys) (vs ++ us) := by
  refine ⟨by simp [h.len, h'.len], fun i x v hx hv => ?_⟩
  rw [List.getElem?_append] at hx hv
  rw [← h.len] at hv
  split at hx
  · rw [if_pos (by assumption)] at hv; exact h.at_ _ _ _ hx hv
  · rw [if_neg (by assumption)] at hv; exact h'.at_ _ _ _ hx hv
theorem RL.take {B : Nat} {w : World} {g : Gh} {xs : List AV} {vs : List Value} (h : RL B w g xs vs) (n : Nat) : RL B w g (xs.take n) (vs.take n) := by
  refine ⟨by simp [h.len], fun i x v hx hv => ?_⟩
  rw [List.getElem?_take] at hx hv
  split at hx
  · rename_i hi; rw [if_pos hi] at hv; exact h.at_ _ _ _ hx hv
  · cases hx
theorem RL.drop {B : Nat} {w : World} {g : Gh} {xs : List AV} {vs : List Value} (h : RL B w g xs vs) (n : Nat) : RL B w g (xs.drop n) (vs.drop n) := by
  refine ⟨by simp [h.len], fun i x v hx hv => ?_⟩
  rw [List.getElem?_drop] at hx hv
  exact h.at_ _ _ _ hx hv

/-- A map's keys are of one kind, each once. -/
def MapOK (es : List (AV × AV)) : Prop := (es.map (·.1)).Nodup ∧ ∃ c, ∀ p ∈ es, kindA p.1 = some c

/-- A box and its block. -/
def BoxR (B : Nat) (w : World) (g : Gh) (k : Nat) : Box → Prop
  | .cells t cs => ∃ vs : List Value, w.heap[k]? = some (.cells vs.toArray t (0, 0)) ∧ RL B w g cs vs ∧ ∀ v ∈ vs, v.oneCell' = true
  | .map es => ∃ (es' : List (AV × AV)) (ents : List MapEntry) (clock : Nat), w.heap[k]? = some (.map ents.toArray clock) ∧ RL B w g (es'.map (·.1)) (ents.map (·.key)) ∧ RL B w g (es'.map (·.2)) (ents.map (·.val)) ∧ es'.Perm es ∧ MapOK es
  | .siter s pos => w.heap[k]? = some (.stringIter ⟨s.toArray⟩ pos)
/-- An array and its block. -/
def ArrR (B : Nat) (w : World) (g : Gh) (G : AG) (A : Arr) : Prop :=
  G.ver = A.ver ∧ G.esz = A.esz ∧ A.es.length ≤ G.cap ∧ G.cap ≤ maxLen ∧ (∀ c ∈ A.es, c.length = A.esz) ∧
  ∃ (vs : List Value) (z : Nat × Nat), w.heap[G.k]? = some (.cells vs.toArray A.t z) ∧ (A.fz = false → z = (0, 0)) ∧ vs.length = G.cap * A.esz ∧
    ∀ (i : Nat) (c : List AV) (j : Nat) (x : AV), A.es[i]? = some c → c[j]? = some x → ∃ v, vs[i * A.esz + j]? = some v ∧ R B w g x v ∧ v.oneCell' = true

structure HR (B : Nat) (h : Hp) (g : Gh) (w : World) : Prop where
  lb : h.bx.length = g.bb.length
  la : h.ar.length = g.ab.length
  box : ∀ (b : Nat) (x : Box) (k : Nat), h.bx[b]? = some x → g.bb[b]? = some k → BoxR B w g k x
  arr : ∀ (a : Nat) (A : Arr) (G : AG), h.ar[a]? = some A → g.ab[a]? = some G → ArrR B w g G A
  nd : (g.bb ++ g.ab.map (·.k)).Nodup
  low : ∀ k ∈ g.bb ++ g.ab.map (·.k), B ≤ k
  npr : ∀ k ∈ g.bb ++ g.ab.map (·.k), ∀ o, ¬ g.pr k o
  prs : ∀ k o, g.pr k o → k < w.heap.size
  sz : B ≤ w.heap.size

theorem BoxR.lt {B : Nat} {w : World} {g : Gh} {k : Nat} {x : Box} (h : BoxR B w g k x) : k < w.heap.size := by
  cases x with
  | cells t cs => obtain ⟨vs, h1, _⟩ := h; exact (Array.getElem?_eq_some_iff.1 h1).1
  | map es => obtain ⟨es', e, c, h1, _⟩ := h; exact (Array.getElem?_eq_some_iff.1 h1).1
  | siter s pos => exact (Array.getElem?_eq_some_iff.1 h).1
theorem ArrR.lt {B : Nat} {w : World} {g : Gh} {G : AG} {A : Arr} (h : ArrR B w g G A) : G.k < w.heap.size := by
  obtain ⟨_, _, _, _, _, vs, _, h1, _⟩ := h
  exact (Array.getElem?_eq_some_iff.1 h1).1
theorem HR.blt {B : Nat} {h : Hp} {g : Gh} {w : World} (H : HR B h g w) {k : Nat} (hk : k ∈ g.bb) : k < w.heap.size := by
  obtain ⟨b, hb⟩ := List.getElem?_of_mem hk
  have hlt : b < h.bx.length := by rw [H.lb]; exact (List.getElem?_eq_some_iff.1 hb).1
  exact (H.box b _ k (List.getElem?_eq_getElem hlt) hb).lt
theorem HR.alt {B : Nat} {h : Hp} {g : Gh} {w : World} (H : HR B h g w) {G : AG} (hG : G ∈ g.ab) : G.k < w.heap.size := by
  obtain ⟨a, ha⟩ := List.getElem?_of_mem hG
  have hlt : a < h.ar.length := by rw [H.la]; exact (List.getElem?_eq_some_iff.1 ha).1
  exact (H.arr a _ G (List.getElem?_eq_getElem hlt) ha).lt
theorem HR.live_lt {B : Nat} {h : Hp} {g : Gh} {w : World} (H : HR B h g w) {k : Nat} (hk : k ∈ g.bb ++ g.ab.map (·.k)) : k < w.heap.size := by
  rcases List.mem_append.1 hk with h1 | h1
  · exact H.blt h1
  · obtain ⟨G, hG, rfl⟩ := List.mem_map.1 h1
    exact H.alt hG
/-- A box's block stands while the heap's other blocks turn. -/
theorem BoxR.keep {B : Nat} {w w' : World} {g g' : Gh} {k : Nat} {x : Box} (h : BoxR B w g k x) (hs : Step B w g w' g') (hk : w'.heap[k]? = w.heap[k]?) : BoxR B w' g' k x := by
  cases x with
  | cells t cs => obtain ⟨vs, h1, h2, h3⟩ := h; exact ⟨vs, hk.trans h1, h2.step hs, h3⟩
  | map es => obtain ⟨es', e, c, h1, h2, h3, h4, h5⟩ := h; exact ⟨es', e, c, hk.trans h1, h2.step hs, h3.step hs, h4, h5⟩
  | siter s pos => exact hk.trans h
theorem ArrR.keep {B : Nat} {w w' : World} {g g' : Gh} {G : AG} {A : Arr} (h : ArrR B w g G A) (hs : Step B w g w' g') (hk : w'.heap[G.k]? = w.heap[G.k]?) : ArrR B w' g' G A := by
  obtain ⟨h1, h2, h3, h4, h5, vs, z, h6, hz, h7, h8⟩ := h
  exact ⟨h1, h2, h3, h4, h5, vs, z, hk.trans h6, hz, h7, fun i c j x hi hx => by
    obtain ⟨v, a, b, c⟩ := h8 i c j x hi hx
    exact ⟨v, a, b.step hs, c⟩⟩
/-- The world has new blocks, nothing else. -/
structure Grew (w w' : World) : Prop where
  os : w'.os = w.os
  tape : w'.tape = w.tape
  output : w'.output = w.output
  size : w.heap.size ≤ w'.heap.size
  block : ∀ k, k < w.heap.size → w'.heap[k]? = w.heap[k]?
theorem Grew.refl (w : World) : Grew w w := ⟨rfl, rfl, rfl, Nat.le_refl _, fun _ _ => rfl⟩
theorem Grew.trans {a b c : World} (h : Grew a b) (k : Grew b c) : Grew a c :=
  ⟨k.os.trans h.os, k.tape.trans h.tape, k.output.trans h.output, Nat.le_trans h.size k.size, fun i hi => (k.block i (Nat.lt_of_lt_of_le hi h.size)).trans (h.block i hi)⟩
theorem Grew.alloc (w : World) (o : Obj) : Grew w (w.alloc o) := ⟨rfl, rfl, rfl, by simp, fun k hk => heap_alloc_old w o k hk⟩
theorem Grew.drew (w : World) : Grew w w.drew := ⟨rfl, rfl, rfl, Nat.le_refl _, fun _ _ => rfl⟩
theorem Grew.below {w w' : World} (h : Grew w w') {B : Nat} (hB : B ≤ w.heap.size) : Below B w w' := ⟨h.os, h.tape, h.output, h.size, fun k hk => h.block k (by omega)⟩
theorem Grew.cell {w w' : World} (h : Grew w w') {k o : Nat} {v : Value} (hc : w.cell? ⟨k, o, none⟩ = some v) : w'.cell? ⟨k, o, none⟩ = some v :=
  (World.cell?_of_block (h.block k (World.block_lt_of_cell? w _ hc))).trans hc
theorem Grew.step {w w' : World} (h : Grew w w') {B : Nat} (hB : B ≤ w.heap.size) (g : Gh) : Step B w g w' g :=
  ⟨h.below hB, fun _ _ h => h, fun _ G h => ⟨G, h, Nat.le_refl _, fun _ => rfl⟩, fun _ h => .inl h, fun G h => .inl ⟨G, h, rfl⟩, fun _ _ h => h, fun _ _ _ _ hc => h.cell hc, fun k hk _ _ _ => h.block k hk, fun _ _ h => .inl h⟩
theorem HR.grew {B : Nat} {h : Hp} {g : Gh} {w w' : World} (H : HR B h g w) (hg : Grew w w') : HR B h g w' :=
  ⟨H.lb, H.la, fun b x k hb hk => (H.box b x k hb hk).keep (hg.step H.sz g) (hg.block k (H.box b x k hb hk).lt),
   fun a A G ha hG => (H.arr a A G ha hG).keep (hg.step H.sz g) (hg.block _ (H.arr a A G ha hG).lt), H.nd, H.low, H.npr,
   fun k o hp => Nat.lt_of_lt_of_le (H.prs k o hp) hg.size, Nat.le_trans H.sz hg.size⟩
end Go.Ab
