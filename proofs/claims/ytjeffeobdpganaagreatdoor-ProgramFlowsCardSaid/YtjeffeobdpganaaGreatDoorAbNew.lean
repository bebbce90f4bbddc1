/- New boxes, new arrays, arrays that grow. -/
import Derived.Test.YtjeffeobdpganaaGreatDoorAbHeap
import Derived.Laws.AppendOwnNone
set_option linter.unusedSimpArgs false
set_option linter.unusedVariables false
namespace Go.Ab
open Go.RowKit (Below)

section
variable {B : Nat} {w : World} {g : Gh} {h : Hp}

def Gh.nb (g : Gh) (k : Nat) : Gh := { g with bb := g.bb ++ [k] }
def Gh.np (g : Gh) (k : Nat) : Gh := { g with pr := fun k' o => g.pr k' o ∨ k' = k }
def Gh.na (g : Gh) (G : AG) : Gh := { g with ab := g.ab ++ [G] }
def Gh.ga (g : Gh) (a : Nat) (G : AG) : Gh := { g with ab := g.ab.set a G }

theorem step_nb (H : HR B h g w) (o : Obj) : Step B w g (w.alloc o) (g.nb w.heap.size) := by
  refine ⟨(Grew.alloc w o).below H.sz, fun b k hb => ?_, fun _ G h => ⟨G, h, Nat.le_refl _, fun _ => rfl⟩, fun k hk => ?_, fun G h => .inl ⟨G, h, rfl⟩, fun _ _ h => h, fun _ _ _ _ hc => (Grew.alloc w o).cell hc, fun k hk _ _ _ => heap_alloc_old w o k hk, fun _ _ h => .inl h⟩
  · have := (List.getElem?_eq_some_iff.1 hb).1
    simp only [Gh.nb]
    rw [List.getElem?_append_left this]
    exact hb
  · rcases List.mem_append.1 hk with hk | hk
    · exact .inl hk
    · simp at hk; exact .inr (by omega)
theorem HR.new_box (H : HR B h g w) (o : Obj) {x : Box} (hx : BoxR B (w.alloc o) (g.nb w.heap.size) w.heap.size x) : HR B (h.pb x) (g.nb w.heap.size) (w.alloc o) := by
  have hs := step_nb H o
  refine ⟨by simp [Hp.pb, Gh.nb, H.lb], by simp [Hp.pb, Gh.nb, H.la], fun b y k hy hk => ?_, fun a A G ha hG => ?_, ?_, ?_, ?_, ?_, ?_⟩
  · by_cases hlt : b < h.bx.length
    · simp only [Hp.pb] at hy
      rw [List.getElem?_append_left hlt] at hy
      simp only [Gh.nb] at hk
      rw [List.getElem?_append_left (by rw [← H.lb]; exact hlt)] at hk
      exact (H.box b y k hy hk).keep hs (heap_alloc_old w o k (H.box b y k hy hk).lt)
    · simp only [Hp.pb] at hy
      have hb : b = h.bx.length := by
        have := (List.getElem?_eq_some_iff.1 hy).1
        simp at this
        omega
      subst hb
      rw [List.getElem?_append_right (Nat.le_refl _)] at hy
      simp only [Gh.nb] at hk
      rw [List.getElem?_append_right (by rw [H.lb]; exact Nat.le_refl _)] at hk
      simp [H.lb] at hy hk
      subst hy
      subst hk
      exact hx
  · exact (H.arr a A G ha hG).keep hs (heap_alloc_old w o _ (H.arr a A G ha hG).lt)
  · have hlt : ∀ k ∈ g.bb ++ g.ab.map (·.k), k < w.heap.size := fun k hk => H.live_lt hk
    obtain ⟨h1, h2, h3⟩ := List.nodup_append.1 H.nd
    refine List.nodup_append.2 ⟨List.nodup_append.2 ⟨h1, by simp, fun a ha b hb => ?_⟩, h2, fun a ha b hb => ?_⟩
    · simp at hb; subst hb; have := hlt a (List.mem_append_left _ ha); omega
    · rcases List.mem_append.1 ha with ha | ha
      · exact h3 a ha b hb
      · simp at ha; subst ha; have := hlt b (List.mem_append_right _ hb); omega
  · intro k hk
    simp only [Gh.nb] at hk
    rcases List.mem_append.1 hk with hk | hk
    · rcases List.mem_append.1 hk with hk | hk
      · exact H.low k (List.mem_append_left _ hk)
      · simp at hk; subst hk; exact H.sz
    · exact H.low k (List.mem_append_right _ hk)
  · intro k hk o' hp
    simp only [Gh.nb] at hk hp
    rcases List.mem_append.1 hk with hk | hk
    · rcases List.mem_append.1 hk with hk | hk
      · exact H.npr k (List.mem_append_left _ hk) o' hp
      · simp at hk; subst hk; have := H.prs _ o' hp; omega
    · exact H.npr k (List.mem_append_right _ hk) o' hp
  · intro k o' hp; have := H.prs k o' hp; simp; omega
  · simp; have := H.sz; omega

theorem step_np (H : HR B h g w) (o : Obj) : Step B w g (w.alloc o) (g.np w.heap.size) :=
  ⟨(Grew.alloc w o).below H.sz, fun _ _ h => h, fun _ G h => ⟨G, h, Nat.le_refl _, fun _ => rfl⟩, fun _ h => .inl h, fun G h => .inl ⟨G, h, rfl⟩, fun _ _ h => .inl h, fun _ _ _ _ hc => (Grew.alloc w o).cell hc, fun k hk _ _ _ => heap_alloc_old w o k hk, fun _ _ hp => hp.imp (fun h => h) fun e => .inr (.inr (Nat.le_of_eq e.symm))⟩
theorem HR.new_pr (H : HR B h g w) (o : Obj) : HR B h (g.np w.heap.size) (w.alloc o) := by
  have hs := step_np H o
  refine ⟨H.lb, H.la, fun b y k hy hk => (H.box b y k hy hk).keep hs (heap_alloc_old w o k (H.box b y k hy hk).lt), fun a A G ha hG => (H.arr a A G ha hG).keep hs (heap_alloc_old w o _ (H.arr a A G ha hG).lt), H.nd, H.low, ?_, ?_, ?_⟩
  · rintro k hk o' (hp | hp)
    · exact H.npr k hk o' hp
    · have h1 : k < w.heap.size := H.live_lt hk; omega
  · rintro k o' (hp | hp)
    · have := H.prs k o' hp; simp; omega
    · simp; omega
  · simp; have := H.sz; omega

theorem step_na (H : HR B h g w) (o : Obj) (G : AG) (hG : G.k = w.heap.size) : Step B w g (w.alloc o) (g.na G) := by
  refine ⟨(Grew.alloc w o).below H.sz, fun _ _ h => h, fun a G0 ha => ⟨G0, ?_, Nat.le_refl _, fun _ => rfl⟩, fun _ h => .inl h, fun G0 h0 => ?_, fun _ _ h => h, fun _ _ _ _ hc => (Grew.alloc w o).cell hc, fun k hk _ _ _ => heap_alloc_old w o k hk, fun _ _ h => .inl h⟩
  · simp only [Gh.na]
    rw [List.getElem?_append_left (List.getElem?_eq_some_iff.1 ha).1]
    exact ha
  · rcases List.mem_append.1 h0 with h0 | h0
    · exact .inl ⟨G0, h0, rfl⟩
    · simp at h0; subst h0; exact .inr (by omega)
theorem HR.new_arr (H : HR B h g w) (o : Obj) {G : AG} {A : Arr} (hG : G.k = w.heap.size) (hA : ArrR B (w.alloc o) (g.na G) G A) : HR B (h.pa A) (g.na G) (w.alloc o) := by
  have hs := step_na H o G hG
  refine ⟨by simp [Hp.pa, Gh.na, H.lb], by simp [Hp.pa, Gh.na, H.la], fun b y k hy hk => (H.box b y k hy hk).keep hs (heap_alloc_old w o k (H.box b y k hy hk).lt), fun a A' G' ha hG' => ?_, ?_, ?_, ?_, ?_, ?_⟩
  · by_cases hlt : a < h.ar.length
    · simp only [Hp.pa] at ha
      rw [List.getElem?_append_left hlt] at ha
      simp only [Gh.na] at hG'
      rw [List.getElem?_append_left (by rw [← H.la]; exact hlt)] at hG'
      exact (H.arr a A' G' ha hG').keep hs (heap_alloc_old w o _ (H.arr a A' G' ha hG').lt)
    · simp only [Hp.pa] at ha
      have hb : a = h.ar.length := by
        have := (List.getElem?_eq_some_iff.1 ha).1
        simp at this
        omega
      subst hb
      rw [List.getElem?_append_right (Nat.le_refl _)] at ha
      simp only [Gh.na] at hG'
      rw [List.getElem?_append_right (by rw [H.la]; exact Nat.le_refl _)] at hG'
      simp [H.la] at ha hG'
      subst ha
      subst hG'
      exact hA
  · have hlt : ∀ k ∈ g.bb ++ g.ab.map (·.k), k < w.heap.size := fun k hk => H.live_lt hk
    obtain ⟨h1, h2, h3⟩ := List.nodup_append.1 H.nd
    simp only [Gh.na, List.map_append, List.map_cons, List.map_nil]
    refine List.nodup_append.2 ⟨h1, List.nodup_append.2 ⟨h2, by simp, fun a ha b hb => ?_⟩, fun a ha b hb => ?_⟩
    · simp at hb; subst hb; have := hlt a (List.mem_append_right _ ha); omega
    · rcases List.mem_append.1 hb with hb | hb
      · exact h3 a ha b hb
      · simp at hb; subst hb; have := hlt a (List.mem_append_left _ ha); omega
  · intro k hk
    simp only [Gh.na, List.map_append, List.map_cons, List.map_nil, ← List.append_assoc] at hk
    rcases List.mem_append.1 hk with hk | hk
    · exact H.low k hk
    · simp at hk; subst hk; rw [hG]; exact H.sz
  · intro k hk o' hp
    simp only [Gh.na, List.map_append, List.map_cons, List.map_nil, ← List.append_assoc] at hk hp
    rcases List.mem_append.1 hk with hk | hk
    · exact H.npr k hk o' hp
    · simp at hk; subst hk; have := H.prs _ o' hp; omega
  · intro k o' hp; have := H.prs k o' hp; simp; omega
  · simp; have := H.sz; omega

/-- An array in another state: in its own block, or in a new one. -/
theorem step_ga (H : HR B h g w) {a : Nat} {G G' : AG} {w' : World} (ha : g.ab[a]? = some G) (hv : G'.ver = G.ver + 1) (hk : G'.k = G.k ∨ G'.k = w.heap.size)
    (hos : w'.os = w.os) (htp : w'.tape = w.tape) (hou : w'.output = w.output) (hsz : w.heap.size ≤ w'.heap.size) (ho : ∀ k, k < w.heap.size → k ≠ G.k → w'.heap[k]? = w.heap[k]?) : Step B w g w' (g.ga a G') := by
  have hlow : B ≤ G.k := H.low _ (live_ab ha)
  refine ⟨⟨hos, htp, hou, hsz, fun k hkB => ho k (by have := H.sz; omega) (by omega)⟩, fun _ _ h => h, fun a' G0 ha' => ?_, fun _ h => .inl h, fun G0 h0 => ?_, fun _ _ h => h, fun k o v hp hc => ?_, fun k hk _ hna _ => ho k hk (fun e => hna G (List.mem_of_getElem? ha) e.symm), fun _ _ h => .inl h⟩
  · by_cases e : a = a'
    · subst e
      rw [ha] at ha'
      injection ha' with ha'
      subst ha'
      refine ⟨G', ?_, by omega, fun e => by omega⟩
      simp [Gh.ga, (List.getElem?_eq_some_iff.1 ha).1]
    · exact ⟨G0, by simp only [Gh.ga]; rw [List.getElem?_set_ne e]; exact ha', Nat.le_refl _, fun _ => rfl⟩
  · rcases List.mem_or_eq_of_mem_set h0 with h0 | rfl
    · exact .inl ⟨G0, h0, rfl⟩
    · rcases hk with hk | hk
      · exact .inl ⟨G, List.mem_of_getElem? ha, hk.symm⟩
      · exact .inr (by omega)
  · refine (World.cell?_of_block (ho k (H.prs k o hp) fun e => ?_)).trans hc
    exact H.npr _ (live_ab ha) o (e ▸ hp)
theorem HR.re_arr (H : HR B h g w) {a : Nat} {G G' : AG} {A : Arr} {w' : World} (ha : g.ab[a]? = some G) (hs : Step B w g w' (g.ga a G')) (hk : G'.k = G.k ∨ G'.k = w.heap.size)
    (ho : ∀ k, k < w.heap.size → k ≠ G.k → w'.heap[k]? = w.heap[k]?) (hA : ArrR B w' (g.ga a G') G' A) : HR B (h.sa a A) (g.ga a G') w' := by
  have hlen := (List.getElem?_eq_some_iff.1 ha).1
  have hset : ∀ x, x ∈ (g.ga a G').ab.map (·.k) → x = G'.k ∨ ∃ a' G0, a' ≠ a ∧ g.ab[a']? = some G0 ∧ G0.k = x := by
    intro x hx
    obtain ⟨G0, hG0, rfl⟩ := List.mem_map.1 hx
    obtain ⟨i, hi⟩ := List.getElem?_of_mem hG0
    simp only [Gh.ga, List.getElem?_set] at hi
    split at hi
    · injection hi with hi; subst hi; exact .inl rfl
    · rename_i e; exact .inr ⟨i, G0, fun e' => e e'.symm, hi, rfl⟩
  refine ⟨by simp [Hp.sa, Gh.ga, H.lb], by simp [Hp.sa, Gh.ga, H.la], fun b y k hy hk' => ?_, fun a' A' G0 hA' hG0 => ?_, ?_, ?_, ?_, fun k o hp => Nat.lt_of_lt_of_le (H.prs k o hp) hs.below.size, Nat.le_trans H.sz hs.below.size⟩
  · exact (H.box b y k hy hk').keep hs (ho k (H.box b y k hy hk').lt (bb_ab H hk' ha))
  · simp only [Hp.sa, List.getElem?_set] at hA'
    simp only [Gh.ga, List.getElem?_set] at hG0
    split at hA'
    · rename_i e
      subst e
      simp only [if_true, hlen] at hG0
      split at hA'
      · injection hA' with hA'
        injection hG0 with hG0
        subst hA'
        subst hG0
        exact hA
      · cases hA'
    · rename_i e
      rw [if_neg e] at hG0
      exact (H.arr a' A' G0 hA' hG0).keep hs (ho _ (H.arr a' A' G0 hA' hG0).lt fun e' => e (ab_inj H ha hG0 e'.symm))
  · obtain ⟨h1, h2, h3⟩ := List.nodup_append.1 H.nd
    refine List.nodup_append.2 ⟨h1, ?_, fun x hx y hy e => ?_⟩
    · simp only [Gh.ga, List.map_set]
      rw [List.nodup_iff_pairwise_ne, List.pairwise_iff_getElem]
      intro i j hi hj hij
      simp only [List.length_set, List.length_map] at hi hj
      have hd : ∀ i, (hi : i < g.ab.length) → i ≠ a → g.ab[i].k ≠ G'.k := by
        intro i hi hne e
        rcases hk with hk | hk
        · exact hne (ab_inj H (List.getElem?_eq_getElem hi) ha (e.trans hk))
        · have := H.alt (List.getElem_mem hi); omega
      simp only [List.getElem_set, List.getElem_map]
      split
      · rename_i e
        rw [if_neg (by omega)]
        exact fun e' => hd j hj (by omega) e'.symm
      · split
        · rename_i e e'; exact hd i hi (by omega)
        · exact fun e' => absurd (ab_inj H (List.getElem?_eq_getElem hi) (List.getElem?_eq_getElem hj) e') (by omega)
    · subst e
      rcases hset x hy with rfl | ⟨a', G0, _, hG0, rfl⟩
      · rcases hk with hk | hk
        · exact h3 _ hx _ (List.mem_map.2 ⟨G, List.mem_of_getElem? ha, hk.symm⟩) rfl
        · have := H.blt hx; omega
      · exact h3 _ hx _ (List.mem_map.2 ⟨G0, List.mem_of_getElem? hG0, rfl⟩) rfl
  · intro x hx
    rcases List.mem_append.1 hx with hx | hx
    · exact H.low x (List.mem_append_left _ hx)
    · rcases hset x hx with rfl | ⟨a', G0, _, hG0, rfl⟩
      · rcases hk with hk | hk
        · rw [hk]; exact H.low _ (live_ab ha)
        · rw [hk]; exact H.sz
      · exact H.low _ (live_ab hG0)
  · intro x hx o hp
    simp only [Gh.ga] at hp
    rcases List.mem_append.1 hx with hx | hx
    · exact H.npr x (List.mem_append_left _ hx) o hp
    · rcases hset x hx with rfl | ⟨a', G0, _, hG0, rfl⟩
      · rcases hk with hk | hk
        · rw [hk] at hp; exact H.npr _ (live_ab ha) o hp
        · rw [hk] at hp; have := H.prs _ o hp; omega
      · exact H.npr _ (live_ab hG0) o hp
end
end Go.Ab
