/- Regions whose order is open: the moves. -/
import Derived.Test.YtjeffeobdpganaaGreatDoorAbDraw
set_option linter.unusedSimpArgs false
set_option linter.unusedVariables false
namespace Go.Ab
open Go.RowKit (Below)

theorem mono_nb (w : World) (g : Gh) (k : Nat) : Mono w g w (g.nb k) :=
  ⟨fun b k' hb => by simp only [Gh.nb]; rw [List.getElem?_append_left (List.getElem?_eq_some_iff.1 hb).1]; exact hb, fun _ G h => ⟨G, h, Nat.le_refl _, fun _ => rfl⟩, fun _ _ h => h, fun _ _ _ _ h => h⟩
theorem RL.mono {B : Nat} {w w' : World} {g g' : Gh} (h : Mono w g w' g') {xs : List AV} {vs : List Value} (hr : RL B w g xs vs) : RL B w' g' xs vs :=
  ⟨hr.len, fun i x v hx hv => (hr.at_ i x v hx hv).mono h⟩
theorem BoxR.mono {B : Nat} {w : World} {g g' : Gh} {k : Nat} {x : Box} (h : BoxR B w g k x) (hm : Mono w g w g') : BoxR B w g' k x := by
  cases x with
  | cells t cs => obtain ⟨vs, h1, h2, h3⟩ := h; exact ⟨vs, h1, h2.mono hm, h3⟩
  | map es => obtain ⟨es', e, c, h1, h2, h3, h4, h5⟩ := h; exact ⟨es', e, c, h1, h2.mono hm, h3.mono hm, h4, h5⟩
  | siter s pos => exact h
theorem ArrR.mono {B : Nat} {w : World} {g g' : Gh} {G : AG} {A : Arr} (h : ArrR B w g G A) (hm : Mono w g w g') : ArrR B w g' G A := by
  obtain ⟨h1, h2, h3, h4, h5, vs, z, h6, hz, h7, h8⟩ := h
  exact ⟨h1, h2, h3, h4, h5, vs, z, h6, hz, h7, fun i c j x hi hx => by
    obtain ⟨v, a, b, c⟩ := h8 i c j x hi hx
    exact ⟨v, a, b.mono hm, c⟩⟩

section
variable {P : Program} {B nt : Nat} {ops : Array Oper} {l : List MD}
variable {K : Nat → Bool} {dd : List Deferred} {e0 : Nat → AV} {w0 : World} {g0 : Gh} {blk : Nat → Nat} {pre post : List MD} {listed : Array Bool} {e ê : Nat → AV} {h : Hp} {a : Act} {w : World} {g : Gh}

/-- A block of the call's own becomes a box. -/
theorem HR.late_box (H : HR B h g w) {k : Nat} {x : Box} (hB : B ≤ k) (hlt' : k < w.heap.size) (hb : k ∉ g.bb) (ha : ∀ G ∈ g.ab, G.k ≠ k) (hp : ∀ o, ¬ g.pr k o) (hx : BoxR B w (g.nb k) k x) : HR B (h.pb x) (g.nb k) w := by
  have hm := mono_nb w g k
  refine ⟨by simp [Hp.pb, Gh.nb, H.lb], by simp [Hp.pb, Gh.nb, H.la], fun b y k' hy hk => ?_, fun a A G ha hG => (H.arr a A G ha hG).mono hm, ?_, ?_, ?_, fun k' o' hp => H.prs k' o' hp, H.sz⟩
  · by_cases hlt : b < h.bx.length
    · simp only [Hp.pb] at hy
      rw [List.getElem?_append_left hlt] at hy
      simp only [Gh.nb] at hk
      rw [List.getElem?_append_left (by rw [← H.lb]; exact hlt)] at hk
      exact (H.box b y k' hy hk).mono hm
    · simp only [Hp.pb] at hy
      have hb : b = h.bx.length := by
        have := (List.getElem?_eq_some_iff.1 hy).1
        simp at this
        omega
      subst hb
      rw [List.getElem?_append_right (Nat.le_refl _)] at hy
      simp only [Gh.nb] at hk
      rw [List.getElem?_append_right (by rw [H.lb]; exact Nat.le_refl _)] at hk
      simp [H.lb] at hy hk
      subst hy
      subst hk
      exact hx
  · obtain ⟨h1, h2, h3⟩ := List.nodup_append.1 H.nd
    refine List.nodup_append.2 ⟨List.nodup_append.2 ⟨h1, by simp, fun a ha' b hb' => ?_⟩, h2, fun a ha' b hb' => ?_⟩
    · simp at hb'; subst hb'; exact fun e => hb (e ▸ ha')
    · rcases List.mem_append.1 ha' with ha' | ha'
      · exact h3 a ha' b hb'
      · simp at ha'
        subst ha'
        obtain ⟨G, hG, he⟩ := List.mem_map.1 hb'
        exact fun e => ha G hG (he.trans e.symm)
  · intro k' hk'
    simp only [Gh.nb] at hk'
    rcases List.mem_append.1 hk' with hk' | hk'
    · rcases List.mem_append.1 hk' with hk' | hk'
      · exact H.low k' (List.mem_append_left _ hk')
      · simp at hk'; subst hk'; exact hB
    · exact H.low k' (List.mem_append_right _ hk')
  · intro k' hk' o' hp'
    simp only [Gh.nb] at hk' hp'
    rcases List.mem_append.1 hk' with hk' | hk'
    · rcases List.mem_append.1 hk' with hk' | hk'
      · exact H.npr k' (List.mem_append_left _ hk') o' hp'
      · simp at hk'; subst hk'; exact hp o' hp'
    · exact H.npr k' (List.mem_append_right _ hk') o' hp'

theorem late_step (hs : Step B w0 g0 w g) {k : Nat} (hk : w0.heap.size ≤ k) : Step B w0 g0 w (g.nb k) :=
  ⟨hs.below, fun b k' hb => (mono_nb w g k).bb _ _ (hs.bb b k' hb), hs.ab, fun k' hk' => by
    rcases List.mem_append.1 hk' with hk' | hk'
    · exact hs.newb k' hk'
    · simp at hk'; subst hk'; exact .inr hk, hs.newa, hs.pr, hs.cell, hs.rest, hs.newp⟩

theorem same_congr {e1 : Nat → AV} {i : MI} (h1 : ∀ t ∈ i.reads, e t = e1 t) (h2 : ∀ d, i.d = some d → e d = e1 d) : same e h i = same e1 h i := by
  have hg : grd i.g e = grd i.g e1 := grd_congr fun t b ht => h1 t (by unfold MI.reads; rw [ht]; simp)
  have ho : opv (fun _ _ _ => none) (Opd.ev e) h i.op = opv (fun _ _ _ => none) (Opd.ev e1) h i.op := opv_congr h fun t ht => h1 t (by unfold MI.reads; exact List.mem_append_right _ ht)
  unfold same
  rw [hg]
  split
  · have ho' : evop (Opd.ev e) h i.op = evop (Opd.ev e1) h i.op := by
      cases hi : i.op <;> first
        | rfl
        | (rw [hi] at ho
           simp only [opv] at ho
           rename_i x y
           exact Option.map_injective (f := fun r : AV × Hp => (AEnd.ret r.1, r.2)) (fun p q hpq => by
             obtain ⟨p1, p2⟩ := p; obtain ⟨q1, q2⟩ := q; simpa using hpq) ho)
    rw [ho']
    split
    · cases hd : i.d with
      | none => rfl
      | some d => dsimp only; rw [h2 d hd]
    · rfl
  · rfl
theorem mem_pos (hf : l = pre ++ post) {z : MD} (hz : z ∈ pre) : ∃ p, p < pre.length ∧ l[p]? = some z := by
  obtain ⟨p, hp⟩ := List.getElem?_of_mem hz
  have hlt := (List.getElem?_eq_some_iff.1 hp).1
  exact ⟨p, hlt, by rw [hf, List.getElem?_append_left hlt]; exact hp⟩
theorem head_pos {x : MD} (hf : l = pre ++ x :: post) : l[pre.length]? = some x := by
  rw [hf, List.getElem?_append_right (Nat.le_refl _)]
  simp
theorem tail_pos {x : MD} (hf : l = pre ++ x :: post) {z : MD} (hz : z ∈ post) : ∃ q, pre.length < q ∧ l[q]? = some z := by
  obtain ⟨p, hp⟩ := List.getElem?_of_mem hz
  refine ⟨pre.length + 1 + p, by omega, ?_⟩
  rw [hf, List.getElem?_append_right (by omega)]
  simp only [show pre.length + 1 + p - pre.length = p + 1 by omega, List.getElem?_cons_succ]
  exact hp
theorem pos_kne (S : DS P nt ops l) {p q : Nat} {x y : MD} (hp : l[p]? = some x) (hq : l[q]? = some y) (hlt : p < q) : x.k ≠ y.k := by
  have := S.pair p q x y hp hq hlt
  simp only [pairD, Bool.and_eq_true] at this
  simpa using this.1.1.1.1.2

theorem sames_at {all : List MD} : ∀ {rc : List Nat} {q : Nat} {x : MD}, sames all e h rc = true → rc.contains q = true → all[q]? = some x → same e h x.i = true
  | [], q, x, _, hq, _ => by simp at hq
  | p :: rc, q, x, hs, hq, hx => by
    simp only [sames, Bool.and_eq_true] at hs
    by_cases hpq : q = p
    · subst hpq
      rw [hx] at hs
      exact hs.1
    · refine sames_at hs.2 ?_ hx
      simpa [hpq] using hq

/-- The delayed ones behind a step of the one order: what they look at is as it was, or is looked at again. -/
theorem pre_keep (S : DS P nt ops l) {x : MD} (D : DI B nt ops l K dd e0 w0 g0 blk pre (x :: post) listed e ê h a w g) {e1 : Nat → AV} {h1 : Hp}
    (he1 : ∀ t, x.i.d ≠ some t → e1 t = e t) (hh : x.kd = 0 → h1 = h) (hsm : sames l e1 h1 x.rc = true)
    (hno : ∀ z ∈ pre, listed.getD z.k false = false → Anc ops z.k x.k → x.kd = 0) (hx4 : x.kd ≠ 4) :
    ∀ z ∈ pre, listed.getD z.k false = false → z.kd = 0 ∧ same e1 h1 z.i = true ∧ (grd z.i.g e1 = false → ∀ d, z.i.d = some d → e1 d = undefA) := by
  intro z hz hzu
  obtain ⟨hk0, hsame, hund⟩ := D.pre0 z hz hzu
  obtain ⟨p, hplt, hp⟩ := mem_pos D.full hz
  have hx := head_pos D.full
  have hpair := S.pair p _ z x hp hx hplt
  simp only [pairD, Bool.and_eq_true] at hpair
  obtain ⟨⟨⟨⟨⟨c1, c2⟩, c3⟩, c4⟩, c5⟩, c6⟩ := hpair
  have hzl := List.mem_of_getElem? hp
  have hxl := List.mem_of_getElem? hx
  have hkne := pos_kne S hp hx hplt
  have hrd : ∀ t ∈ z.i.reads, e t = e1 t := by
    intro t ht
    by_cases hd : x.i.d = some t
    · rw [hd] at c4
      simp only [Bool.or_eq_true, Bool.not_eq_true', List.contains_eq_mem, decide_eq_false_iff_not, Bool.and_eq_true, beq_iff_eq] at c4
      rcases c4 with c4 | ⟨c4, c7⟩
      · exact absurd ht c4
      · have := hno z hz hzu (S.anc _ _ hx _ c7)
        omega
    · exact (he1 t hd).symm
  have hdd : ∀ d, z.i.d = some d → e d = e1 d := fun d hd => (he1 d (S.dne hzl hxl hkne hd)).symm
  have hg : grd z.i.g e = grd z.i.g e1 := grd_congr fun t b ht => hrd t (by unfold MI.reads; rw [ht]; simp)
  refine ⟨hk0, ?_, fun hgf d hd => by rw [← hdd d hd]; exact hund (by rw [hg]; exact hgf) d hd⟩
  by_cases hx0 : x.kd = 0
  · rw [hh hx0, ← same_congr hrd hdd]
    exact hsame
  · simp only [Bool.or_eq_true, beq_iff_eq, bne_iff_ne, ne_eq] at c6
    rcases c6 with (((c6 | c6) | c6) | c6) | c6
    · exact absurd c6 hx0
    · exact absurd hk0 c6
    · exact absurd (hno z hz hzu (S.anc _ _ hx _ c6)) hx0
    · exact sames_at hsm c6 hp
    · exact absurd c6 hx4

theorem Ahead.nb {y : MD} (h : Ahead B w0 blk l listed e a w g y) {k : Nat} {e' : Nat → AV} (hk : y.kd ≠ 4 → blk y.k = k → False) (he : y.kd = 3 → ∀ st ps j key t, y.i.op = .mkml st ps → insd l listed j = true → ps[j]? = some (key, t) → e' t = e t) :
    Ahead B w0 blk l listed e' a w (g.nb k) y := by
  rcases h with ⟨h0, t, n, z, zv, d, p1, p2, p3, p4, p5, p6, p7, p8, p9, p10⟩ | ⟨h0, st, ps, d, p1, p2, p3, p4, ⟨es, ents, clock, q1, q2, q3, q4⟩, p7, p8, p9, p10⟩ | h0
  · refine .inl ⟨h0, t, n, z, zv, d, p1, p2, p3, p4, p5, p6, fun hm => ?_, p8, p9, p10⟩
    rcases List.mem_append.1 hm with hm | hm
    · exact p7 hm
    · simp at hm
      exact hk (by omega) hm
  · refine .inr (.inl ⟨h0, st, ps, d, p1, p2, p3, p4, ⟨es, ents, clock, q1, ⟨q2.len, fun i x v hx hv => (q2.at_ i x v hx hv).mono (mono_nb w g k)⟩, ⟨q3.len, fun i x v hx hv => (q3.at_ i x v hx hv).mono (mono_nb w g k)⟩, by rw [dn_congr (fun _ _ _ => rfl) (fun j key t => he h0 st ps j key t p1)]; exact q4⟩, fun hm => ?_, p8, p9, p10⟩)
    rcases List.mem_append.1 hm with hm | hm
    · exact p7 hm
    · simp at hm
      exact hk (by omega) hm
  · exact .inr (.inr h0)

/-- The abstract machine catches up with a variable that is there already. -/
theorem ghost (S : DS P nt ops l) (hKl : ∀ x ∈ l, ∀ q, x.i.d = some q → K q = false) {call : CallO} {x : MD} (D : DI B nt ops l K dd e0 w0 g0 blk pre (x :: post) listed e ê h a w g) (hx : listed.getD x.k false = true) (hkd : x.kd = 2) {r : ARes}
    (hev : evd call l (x :: post) e h = some r) :
    ∃ e1 ê1 h1 g1, DI B nt ops l K dd e0 w0 g0 blk (pre ++ [x]) post listed e1 ê1 h1 a w g1 ∧ evd call l post e1 h1 = some r := by
  have hA : Pend w0 blk a w g x := by
    rcases D.post1 x (by simp) hx with ⟨_, h⟩ | ⟨h, _⟩ | ⟨h, _⟩
    · exact h
    · omega
    · omega
  obtain ⟨t, n, z, zv, d, hop, hd, hg, htm, hz, hblk, hb1, hb2, hb3, hb4⟩ := hA
  simp only [evd] at hev
  obtain ⟨⟨x1, e1, h1⟩, hs, hev⟩ := Option.bind_eq_some_iff.1 hev
  simp only [stp, hg, grd, if_true, hop, opv, evop, Opd.ev, hd] at hs
  obtain ⟨⟨r1, h2⟩, hs1, hs2⟩ := Option.map_eq_some_iff.1 hs
  obtain ⟨⟨v3, h3⟩, hs3, hs4⟩ := Option.map_eq_some_iff.1 hs1
  obtain ⟨⟨hlen, htup⟩, hs3⟩ := ite_opt hs3
  injection hs3 with hs3
  injection hs3 with q1 q2
  subst q1
  subst q2
  injection hs4 with q3 q4
  subst q3
  subst q4
  simp only [back, puts] at hs2
  injection hs2 with q5 q6
  injection q6 with q6 q7
  subst q5
  subst q6
  subst q7
  dsimp only at hev
  obtain ⟨hsm, hev⟩ := ite_opt hev
  refine ⟨upd e d (.ptr h.nb 0), upd ê d (.ptr h.nb 0), _, g.nb (blk x.k), ⟨by rw [D.full]; simp, D.size, D.closed, ?_, ?_, ?_, ?_, ?_, ?_, D.tn, D.df, ?_, late_step D.st hb4, D.b0, fun t ht => (puts_keep (d := some d) (fun q hq => hKl x (by rw [D.full]; simp) q (by rw [hd]; exact hq)) t ht).trans (D.k0 t ht)⟩, hev⟩
  · intro y hy hyu
    rcases List.mem_append.1 hy with hy | hy
    · refine pre_keep S D (fun q hq => ?_) (fun h0 => by omega) hsm (fun y' hy' hyu' hanc => ?_) (by omega) y hy hyu
      · unfold upd
        rw [if_neg (fun e' => hq (by rw [hd, e']))]
      · have := anc_closed D.closed hanc hx
        rw [hyu'] at this
        cases this
    · simp at hy
      subst hy
      rw [hx] at hyu
      cases hyu
  · intro y hy hyl
    have hxl : x ∈ l := by rw [D.full]; simp
    have hyl2 : y ∈ l := by rw [D.full]; simp [hy]
    refine (D.post1 y (by simp [hy]) hyl).nb (fun hy4 he => ?_) (fun hy3 st ps j key t hyop hj hps => ?_)
    · obtain ⟨q, hq, hqy⟩ := tail_pos D.full hy
      exact pos_kne S (head_pos D.full) hqy hq (D.inj y (by simp [hy]) x (by simp) hy4 (by omega) hyl hx he).symm
    · have := D.vals_ne S hyl2 hyop hy3 hj hps (y := x) (by simp)
      unfold upd
      rw [if_neg (fun e' => this (by rw [hd, e']))]
  · exact fun y hy y' hy' => D.inj y (by simp [hy]) y' (by simp [hy'])
  · intro z hz hz3
    rcases List.mem_append.1 hz with hz | hz
    · exact D.mp z hz hz3
    · simp at hz
      subst hz
      omega
  · intro q h5 h6
    by_cases hq : q = d
    · subst hq
      simp [upd]
    · simp only [upd, if_neg hq]
      refine D.agree q (fun y hy hyu => h5 y (by simp [hy]) hyu) (fun y hy hyl => ?_)
      rcases List.mem_cons.1 hy with rfl | hy
      · rw [hd]; exact fun e' => hq (by injection e' with e'; exact e'.symm)
      · exact h6 y hy hyl
  · intro q
    by_cases hq : q = d
    · subst hq
      simp only [upd, if_true]
      rw [htm]
      refine .ptr _ _ _ ?_
      simp only [Gh.nb, Hp.nb]
      rw [List.getElem?_append_right (by rw [D.hr.lb]; exact Nat.le_refl _)]
      simp [D.hr.lb]
    · simp only [upd, if_neg hq]
      exact (D.er q).mono (mono_nb w g _)
  · have hzR := chkV_R (B := B) (w := w) (g := g) hz
    obtain ⟨vs, hvc, hvr, hv1⟩ := hzR.cells htup
    refine D.hr.late_box (Nat.le_trans D.b0 hb4) (Array.getElem?_eq_some_iff.1 hblk).1 hb1 hb2 hb3 ⟨vs, ?_, hvr.mono (mono_nb w g _), hv1⟩
    rw [hblk, hvc]
theorem keysOk_map {st : Bool} {ps : List (AV × AV)} (h : keysOk st (ps.map (·.1)) = true) : MapOK ps := by
  simp only [keysOk, Bool.and_eq_true, List.all_eq_true] at h
  obtain ⟨⟨h1, h2⟩, h3⟩ := h
  refine ⟨?_, ?_⟩
  · generalize ps.map (·.1) = ks at h1
    induction ks with
    | nil => exact List.nodup_nil
    | cons k l ih =>
      simp only [kdist, Bool.and_eq_true, List.all_eq_true] at h1
      refine List.nodup_cons.2 ⟨fun hm => ?_, ih h1.2⟩
      have := h1.1 k hm
      rw [AV.beq_refl] at this
      cases this
  · cases ps with
    | nil => exact ⟨none, by simp⟩
    | cons p ps =>
      have hk : isKey st p.1 = true := h2 p.1 (by simp)
      obtain ⟨c, hc⟩ : ∃ c, kindA p.1 = some c := by
        rcases isKey_int hk with ⟨_, a, b, e⟩ | ⟨_, s, e⟩ <;> rw [e] <;> exact ⟨_, rfl⟩
      refine ⟨c, fun q hq => ?_⟩
      simp only [List.map_cons, List.all_eq_true, beq_iff_eq] at h3
      rw [h3 q.1 (by
        rcases List.mem_cons.1 hq with rfl | hq
        · simp
        · simp only [List.mem_cons, List.mem_map]; exact .inr ⟨q, hq, rfl⟩)]
      exact hc
theorem dn_all {ps : List (AV × Nat)} (h : ∀ j, j < ps.length → insd l listed j = true) : dn l listed e ps = ps.map fun p => (p.1, e p.2) := by
  unfold dn
  have h1 : (ps.zipIdx.filter fun q => insd l listed q.2) = ps.zipIdx := by
    refine List.filter_eq_self.2 fun q hq => ?_
    obtain ⟨p, j⟩ := q
    have := List.mem_zipIdx_iff_getElem?.1 hq
    exact h j (List.getElem?_eq_some_iff.1 this).1
  rw [h1]
  have : (fun q : (AV × Nat) × Nat => (q.1.1, e q.1.2)) = (fun p : AV × Nat => (p.1, e p.2)) ∘ Prod.fst := rfl
  rw [this, ← List.map_map, List.zipIdx_map_fst]

/-- The abstract machine catches up with a map literal, when all entries are there. -/
theorem ghost3 (S : DS P nt ops l) (hKl : ∀ x ∈ l, ∀ q, x.i.d = some q → K q = false) {call : CallO} {x : MD} (D : DI B nt ops l K dd e0 w0 g0 blk pre (x :: post) listed e ê h a w g) (hx : listed.getD x.k false = true) (hkd : x.kd = 3)
    (hall : ∀ y ∈ l, y.kd = 4 → listed.getD y.k false = true) {r : ARes}
    (hev : evd call l (x :: post) e h = some r) :
    ∃ e1 ê1 h1 g1, DI B nt ops l K dd e0 w0 g0 blk (pre ++ [x]) post listed e1 ê1 h1 a w g1 ∧ evd call l post e1 h1 = some r := by
  have hA : PendM B w0 blk l listed e a w g x := by
    rcases D.post1 x (by simp) hx with ⟨h, _⟩ | ⟨_, h⟩ | ⟨h, _⟩
    · omega
    · exact h
    · omega
  obtain ⟨st, ps, d, hop, hd, hg, htm, ⟨es, ents, clock, hblk, q1, q2, q3⟩, hb1, hb2, hb3, hb4⟩ := hA
  have hxl : x ∈ l := by rw [D.full]; simp
  obtain ⟨_, _, st', ps', _, _, _, _, _, _, hop', _, _, _, hks, hcov⟩ := S.lit hxl hkd
  rw [hop] at hop'
  injection hop' with e1 e2
  subst e1
  subst e2
  have hins : ∀ j, j < ps.length → insd l listed j = true := by
    intro j hj
    obtain ⟨y, hy, hy4, hyj⟩ := hcov j hj
    simp only [insd, List.any_eq_true, Bool.and_eq_true, beq_iff_eq]
    exact ⟨y, hy, ⟨hy4, hyj⟩, hall y hy hy4⟩
  rw [dn_all hins] at q3
  simp only [evd] at hev
  obtain ⟨⟨x1, e1, h1⟩, hs, hev⟩ := Option.bind_eq_some_iff.1 hev
  simp only [stp, hg, grd, if_true, hop, opv, evop, Opd.ev, hd, hks] at hs
  simp only [Option.map_some, back, puts] at hs
  injection hs with hs
  injection hs with q5 q6
  injection q6 with q6 q7
  subst q5
  subst q6
  subst q7
  dsimp only at hev
  obtain ⟨hsm, hev⟩ := ite_opt hev
  have hmap : MapOK (ps.map fun p => (p.1, e p.2)) := keysOk_map (st := st) (by rw [List.map_map]; exact hks)
  refine ⟨upd e d (.mp h.nb), upd ê d (.mp h.nb), _, g.nb (blk x.k), ⟨by rw [D.full]; simp, D.size, D.closed, ?_, ?_, ?_, ?_, ?_, ?_, D.tn, D.df, ?_, late_step D.st hb4, D.b0, fun t ht => (puts_keep (d := some d) (fun q hq => hKl x hxl q (by rw [hd]; exact hq)) t ht).trans (D.k0 t ht)⟩, hev⟩
  · intro y hy hyu
    rcases List.mem_append.1 hy with hy | hy
    · refine pre_keep S D (fun q hq => ?_) (fun h0 => by omega) hsm (fun y' hy' hyu' hanc => ?_) (by omega) y hy hyu
      · unfold upd
        rw [if_neg (fun e' => hq (by rw [hd, e']))]
      · have := anc_closed D.closed hanc hx
        rw [hyu'] at this
        cases this
    · simp at hy
      subst hy
      rw [hx] at hyu
      cases hyu
  · intro y hy hyl
    have hyl2 : y ∈ l := by rw [D.full]; simp [hy]
    refine (D.post1 y (by simp [hy]) hyl).nb (fun hy4 he => ?_) (fun hy3 st ps j key t hyop hj hps => ?_)
    · obtain ⟨q, hq, hqy⟩ := tail_pos D.full hy
      exact pos_kne S (head_pos D.full) hqy hq (D.inj y (by simp [hy]) x (by simp) hy4 (by omega) hyl hx he).symm
    · have := D.vals_ne S hyl2 hyop hy3 hj hps (y := x) (by simp)
      unfold upd
      rw [if_neg (fun e' => this (by rw [hd, e']))]
  · exact fun y hy y' hy' => D.inj y (by simp [hy]) y' (by simp [hy'])
  · intro z hz hz3 y hy hy4
    exact hall y hy hy4
  · intro q h5 h6
    by_cases hq : q = d
    · subst hq
      simp [upd]
    · simp only [upd, if_neg hq]
      refine D.agree q (fun y hy hyu => h5 y (by simp [hy]) hyu) (fun y hy hyl => ?_)
      rcases List.mem_cons.1 hy with rfl | hy
      · rw [hd]; exact fun e' => hq (by injection e' with e'; exact e'.symm)
      · exact h6 y hy hyl
  · intro q
    by_cases hq : q = d
    · subst hq
      simp only [upd, if_true]
      rw [htm]
      refine .mp _ _ ?_
      simp only [Gh.nb, Hp.nb]
      rw [List.getElem?_append_right (by rw [D.hr.lb]; exact Nat.le_refl _)]
      simp [D.hr.lb]
    · simp only [upd, if_neg hq]
      exact (D.er q).mono (mono_nb w g _)
  · refine D.hr.late_box (Nat.le_trans D.b0 hb4) (Array.getElem?_eq_some_iff.1 hblk).1 hb1 hb2 hb3 ⟨es, ents, clock, hblk, ⟨q1.len, fun i x v hx hv => (q1.at_ i x v hx hv).mono (mono_nb w g _)⟩, ⟨q2.len, fun i x v hx hv => (q2.at_ i x v hx hv).mono (mono_nb w g _)⟩, q3, hmap⟩
/-- .. and passes its entries. -/
theorem ghost4 (S : DS P nt ops l) {call : CallO} {x : MD} (D : DI B nt ops l K dd e0 w0 g0 blk pre (x :: post) listed e ê h a w g) (hx : listed.getD x.k false = true) (hkd : x.kd = 4) {r : ARes}
    (hev : evd call l (x :: post) e h = some r) :
    DI B nt ops l K dd e0 w0 g0 blk (pre ++ [x]) post listed e ê h a w g ∧ evd call l post e h = some r := by
  have hxl : x ∈ l := by rw [D.full]; simp
  obtain ⟨_, _, _, _, _, j, _, _, _, _, _, _, _, _, _, hop, hg, hd, _⟩ := S.entry hxl hkd
  simp only [evd] at hev
  obtain ⟨⟨x1, e1, h1⟩, hs, hev⟩ := Option.bind_eq_some_iff.1 hev
  simp only [stp, hg, grd, if_true, hop, opv, evop, hd] at hs
  simp only [Option.map_some, back, puts] at hs
  injection hs with hs
  injection hs with q5 q6
  injection q6 with q6 q7
  subst q5
  subst q6
  subst q7
  dsimp only at hev
  obtain ⟨hsm, hev⟩ := ite_opt hev
  refine ⟨⟨by rw [D.full]; simp, D.size, D.closed, fun y hy hyu => ?_, fun y hy => D.post1 y (by simp [hy]), fun y hy y' hy' => D.inj y (by simp [hy]) y' (by simp [hy']), fun z hz hz3 => ?_, fun q h5 h6 => ?_, D.er, D.tn, D.df, D.hr, D.st, D.b0, D.k0⟩, hev⟩
  · rcases List.mem_append.1 hy with hy | hy
    · exact D.pre0 y hy hyu
    · simp at hy
      subst hy
      rw [hx] at hyu
      cases hyu
  · rcases List.mem_append.1 hz with hz | hz
    · exact D.mp z hz hz3
    · simp at hz
      subst hz
      omega
  · refine D.agree q (fun y hy hyu => h5 y (by simp [hy]) hyu) (fun y hy hyl => ?_)
    rcases List.mem_cons.1 hy with rfl | hy
    · rw [hd]; exact fun e' => by cases e'
    · exact h6 y hy hyl
/-- What only looks is put off: the abstract machine goes on, the model does not. -/
theorem delay (S : DS P nt ops l) (hKl : ∀ x ∈ l, ∀ q, x.i.d = some q → K q = false) {call : CallO} {x : MD} (D : DI B nt ops l K dd e0 w0 g0 blk pre (x :: post) listed e ê h a w g) (hk0 : x.kd = 0) {r : ARes}
    (hev : evd call l (x :: post) e h = some r) :
    ∃ e1, DI B nt ops l K dd e0 w0 g0 blk (pre ++ [x]) post listed e1 ê h a w g ∧ evd call l post e1 h = some r := by
  have hx := head_pos D.full
  have hxl := List.mem_of_getElem? hx
  obtain ⟨o, ho, _, _, _, _, hself, hlight⟩ := S.parts hxl
  simp only [evd] at hev
  obtain ⟨⟨x1, e1, h1⟩, hs, hev2⟩ := Option.bind_eq_some_iff.1 hev
  clear hev
  have key : ∃ v, x1 = .norm ∧ e1 = puts e x.i.d v ∧ h1 = h ∧ (grd x.i.g e = true → evop (Opd.ev e) h x.i.op = some (v, h)) ∧ (grd x.i.g e = false → v = undefA) := by
    unfold stp at hs
    split at hs
    · rename_i hg
      rw [opv_light (hlight hk0)] at hs
      obtain ⟨⟨r1, h2⟩, hs1, hs2⟩ := Option.map_eq_some_iff.1 hs
      obtain ⟨⟨v, h3⟩, hs3, hs4⟩ := Option.map_eq_some_iff.1 hs1
      have := evop_light (hlight hk0) hs3
      subst this
      injection hs4 with q1 q2
      subst q1
      subst q2
      simp only [back] at hs2
      injection hs2 with q3 q4
      injection q4 with q4 q5
      exact ⟨v, q3.symm, q4.symm, q5.symm, fun _ => hs3, fun hf => by rw [hg] at hf; cases hf⟩
    · rename_i hg
      injection hs with hs
      injection hs with q3 q4
      injection q4 with q4 q5
      exact ⟨undefA, q3.symm, q4.symm, q5.symm, fun ht => absurd ht hg, fun _ => rfl⟩
  obtain ⟨v, rfl, rfl, rfl, hv1, hv2⟩ := key
  dsimp only at hev2
  obtain ⟨hsm, hev⟩ := ite_opt hev2
  have hput : ∀ t, x.i.d ≠ some t → puts e x.i.d v t = e t := by
    intro t ht
    cases hd : x.i.d with
    | none => rfl
    | some d =>
      rw [hd] at ht
      simp only [puts, upd]
      rw [if_neg (fun e' => ht (by rw [e']))]
  have hput1 : ∀ d, x.i.d = some d → puts e x.i.d v d = v := by
    intro d hd
    rw [hd]
    simp [puts, upd]
  have hrd : ∀ t ∈ x.i.reads, e t = puts e x.i.d v t := fun t ht => (hput t fun hd => hself t hd ht).symm
  have hg : grd x.i.g e = grd x.i.g (puts e x.i.d v) := grd_congr fun t b ht => hrd t (by unfold MI.reads; rw [ht]; simp)
  refine ⟨_, ⟨by rw [D.full]; simp, D.size, D.closed, ?_, fun y hy hyl => (D.post1 y (by simp [hy]) hyl).step (Step.refl _ _ _) (fun _ _ => rfl) (fun _ _ _ => rfl) (fun hy3 st ps j key t hyop hj hps => hput t (D.vals_ne S (by rw [D.full]; simp [hy]) hyop hy3 hj hps (y := x) (by simp))), fun y hy y' hy' => D.inj y (by simp [hy]) y' (by simp [hy']), fun z hz hz3 => ?_, ?_, D.er, D.tn, D.df, D.hr, D.st, D.b0, fun t ht => (puts_keep (hKl x hxl) t ht).trans (D.k0 t ht)⟩, hev⟩
  · intro y hy hyu
    rcases List.mem_append.1 hy with hy | hy
    · exact pre_keep S D hput (fun _ => rfl) hsm (fun _ _ _ _ => hk0) (by omega) y hy hyu
    · simp at hy
      subst hy
      refine ⟨hk0, ?_, fun hgf d hd => by rw [hput1 d hd]; exact hv2 (by rw [hg]; exact hgf)⟩
      unfold same
      split
      · rename_i hgt
        have hop : evop (Opd.ev (puts e y.i.d v)) h1 y.i.op = some (v, h1) := by
          have h1' := hv1 (by rw [hg]; exact hgt)
          have hc := opv_congr (call := fun _ _ _ => none) (m := y.i.op) h1 fun t ht => hrd t (by unfold MI.reads; exact List.mem_append_right _ ht)
          rw [opv_light (hlight hk0), opv_light (hlight hk0), h1'] at hc
          obtain ⟨⟨v', h'⟩, hq1, hq2⟩ := Option.map_eq_some_iff.1 hc.symm
          injection hq2 with hq2 hq3
          injection hq2 with hq2
          dsimp only at hq2 hq3
          rw [hq1, hq2, hq3]
        rw [hop]
        dsimp only
        cases hd : y.i.d with
        | none => rfl
        | some d =>
          dsimp only
          have := hput1 d hd
          rw [hd] at this
          rw [this]
          exact AV.beq_refl v
      · rfl
  · rcases List.mem_append.1 hz with hz | hz
    · exact D.mp z hz hz3
    · simp at hz
      subst hz
      omega
  · intro q h5 h6
    rw [hput q (fun hd => ?_)]
    · refine D.agree q (fun y hy hyu => h5 y (by simp [hy]) hyu) (fun y hy hyl => ?_)
      rcases List.mem_cons.1 hy with rfl | hy
      · intro hd
        have := (D.post1 y (by simp) hyl).kd
        omega
      · exact h6 y hy hyl
    · by_cases hxl' : listed.getD x.k false = true
      · have := (D.post1 x (by simp) hxl').kd
        omega
      · exact h5 x (by simp) (by simpa using hxl') hd
end
end Go.Ab
