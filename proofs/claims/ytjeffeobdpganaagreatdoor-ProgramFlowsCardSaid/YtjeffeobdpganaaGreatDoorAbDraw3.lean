/- Regions whose order is open: the whole. -/
import Derived.Test.YtjeffeobdpganaaGreatDoorAbDraw2
set_option linter.unusedSimpArgs false
set_option linter.unusedVariables false
namespace Go.Ab
open Go.RowKit (Below)
section
variable {P : Program} {B nt : Nat} {ops : Array Oper} {l : List MD}
variable {Kp : Nat → Bool} {dd : List Deferred} {e0 : Nat → AV} {w0 : World} {g0 : Gh} {blk : Nat → Nat} {pre post : List MD} {listed : Array Bool} {e ê : Nat → AV} {h : Hp} {a : Act} {w : World} {g : Gh}

theorem put_other_tmp {a : Act} {d : Option Nat} {v : Value} {q : Nat} (hq : d ≠ some q) : (a.put d v).tmps.getD q undef = a.tmps.getD q undef := by
  cases d with
  | none => rfl
  | some d =>
    simp only [Act.put]
    rw [Array.getD_eq_getD_getElem?, Array.getD_eq_getD_getElem?, Array.getElem?_setIfInBounds_ne (fun e => hq (by rw [e]))]
theorem put_same_tmp {a : Act} {d : Nat} {v : Value} (hd : d < a.tmps.size) : (a.put (some d) v).tmps.getD d undef = v := by
  simp only [Act.put]
  rw [Array.getD_eq_getD_getElem?, Array.getElem?_setIfInBounds_self_of_lt hd]
  rfl
theorem set_listed {i k : Nat} (hs : listed.size = ops.size) (hr : i ∈ Region.ready .any ops listed) : (listed.setIfInBounds i true).getD k false = true ↔ k = i ∨ listed.getD k false = true := by
  have hi := (ready_un hs hr).2
  by_cases hik : i = k
  · subst hik
    simp [hs, hi]
  · rw [getD_set_ne false hik]
    simp [Ne.symm hik]
theorem set_unlisted {i k : Nat} (hs : listed.size = ops.size) (hr : i ∈ Region.ready .any ops listed) : (listed.setIfInBounds i true).getD k false = false ↔ k ≠ i ∧ listed.getD k false = false := by
  have := set_listed (k := k) hs hr
  by_cases h1 : (listed.setIfInBounds i true).getD k false = true
  · rw [h1]
    have := this.1 h1
    constructor
    · intro h; cases h
    · rintro ⟨h2, h3⟩
      rcases this with h4 | h4
      · exact absurd h4 h2
      · rw [h3] at h4; cases h4
  · have h2 : ¬ (k = i ∨ listed.getD k false = true) := fun h => h1 (this.2 h)
    have h3 : (listed.setIfInBounds i true).getD k false = false := by simpa using h1
    rw [h3]
    constructor
    · intro _
      exact ⟨fun h => h2 (.inl h), by simpa using fun h => h2 (.inr h)⟩
    · intro _; rfl

/-- A delayed one is done. -/
theorem exec_pre (S : DS P nt ops l) {y : MD} (D : DI B nt ops l Kp dd e0 w0 g0 blk pre post listed e ê h a w g) (hy : y ∈ pre) (hr : y.k ∈ Region.ready .any ops listed)
    {K : Act → World → Prop} {Q : Exit → Act → World → Prop}
    (hK : ∀ ê1 a1 w1 g1, DI B nt ops l Kp dd e0 w0 g0 blk pre post (listed.setIfInBounds y.k true) e ê1 h a1 w1 g1 → K a1 w1) : wpOp P ops Q y.k K a w := by
  obtain ⟨p, hplt, hp⟩ := mem_pos D.full hy
  have hyl := List.mem_of_getElem? hp
  obtain ⟨o, ho, hI, _, _, _, hself, hlight⟩ := S.parts hyl
  obtain ⟨hyu, _⟩ := ready_un D.size hr
  obtain ⟨hk0, hsame, hund⟩ := D.pre0 y hy hyu
  rw [if_pos (by omega)] at hI
  obtain ⟨hdst, hlt, hgd, hm⟩ := chkI_parts hI
  have hrd := D.reads S hp (Nat.le_of_lt hplt) (by omega) hr
  have hg : grd y.i.g ê = grd y.i.g e := grd_congr fun t b ht => hrd t (by unfold MI.reads; rw [ht]; simp)
  unfold wpOp
  rw [ho]
  dsimp only
  rw [wanted_grd hgd D.er D.tn, hg]
  -- the state behind
  have fin : ∀ v val w1 g1, (∀ d, y.i.d = some d → e d = v) → R B w1 g1 v val → HR B h g1 w1 → Step B w g w1 g1 → K (a.put o.dst val) w1 := by
    intro v val w1 g1 hv hR hH hS
    rw [hdst]
    rw [hdst] at hlt
    obtain ⟨p1, p2, p3⟩ := (D.er.step hS).put D.tn hlt hR
    refine hK (puts ê y.i.d v) _ _ g1 ⟨D.full, by simp [D.size], D.closed.set hr, fun z hz hzu => D.pre0 z hz ((set_unlisted D.size hr).1 hzu).2, fun z hz hzl => ?_, fun z hz z' hz' hz4 hz4' hzl hzl' => ?_, fun z hz hz3 z' hz' hz4 => (set_listed D.size hr).2 (.inr (D.mp z hz hz3 z' hz' hz4)), ?_, p1, p2, p3.trans D.df, hH, D.st.trans hS, D.b0, D.k0⟩
    · have hzk : z.k ≠ y.k := by
        obtain ⟨q', hq'⟩ := List.getElem?_of_mem hz
        have hq : l[pre.length + q']? = some z := by rw [D.full, List.getElem?_append_right (by omega)]; simpa using hq'
        exact fun e' => pos_kne S hp hq (by omega) e'.symm
      have hzl' : listed.getD z.k false = true := ((set_listed D.size hr).1 hzl).resolve_left hzk
      have hzl2 : z ∈ l := by rw [D.full]; exact List.mem_append_right _ hz
      exact (D.post1 z hz hzl').step hS (fun d hd => put_other_tmp (S.dne hzl2 hyl hzk hd)) (fun q hq hq4 => getD_set_ne false (fun e' => by rw [S.kinj hyl hq e'] at hk0; omega)) (fun _ _ _ _ _ _ _ _ _ => rfl)
    · have hne : ∀ z ∈ post, z.k ≠ y.k := by
        intro z hz
        obtain ⟨q', hq'⟩ := List.getElem?_of_mem hz
        have hq : l[pre.length + q']? = some z := by rw [D.full, List.getElem?_append_right (by omega)]; simpa using hq'
        exact fun e' => pos_kne S hp hq (by omega) e'.symm
      exact D.inj z hz z' hz' hz4 hz4' (((set_listed D.size hr).1 hzl).resolve_left (hne z hz)) (((set_listed D.size hr).1 hzl').resolve_left (hne z' hz'))
    · intro t h1 h2
      by_cases ht : y.i.d = some t
      · rw [ht]
        simp only [puts, upd, if_true]
        exact (hv t ht).symm
      · have : puts ê y.i.d v t = ê t := by
          cases hd : y.i.d with
          | none => rfl
          | some d =>
            rw [hd] at ht
            simp only [puts, upd]
            rw [if_neg (fun e' => ht (by rw [e']))]
        rw [this]
        refine D.agree t (fun z hz hzu => ?_) (fun z hz hzl => h2 z hz ((set_listed D.size hr).2 (.inr hzl)))
        by_cases hzk : z.k = y.k
        · have hzl : z ∈ l := by rw [D.full]; exact List.mem_append_left _ hz
          rw [S.kinj hzl hyl hzk]
          exact ht
        · exact h1 z hz ((set_unlisted D.size hr).2 ⟨hzk, hzu⟩)
  by_cases hgt : grd y.i.g e = true
  · rw [if_pos hgt]
    unfold same at hsame
    rw [if_pos hgt] at hsame
    split at hsame
    · rename_i r hop
      obtain ⟨v, h1⟩ := r
      have := evop_light (hlight hk0) hop
      subst this
      have hop' : opv (fun _ _ _ => none) (Opd.ev ê) h1 y.i.op = some (.ret v, h1) := by
        rw [opv_congr h1 fun t ht => hrd t (by unfold MI.reads; exact List.mem_append_right _ ht), opv_light (hlight hk0), hop]
        rfl
      refine .inl (opv_wp (call := fun _ _ _ => none) (fun _ _ _ _ _ hc => by cases hc) hm D.hr D.er hop' (fun v' val w' g' hv hR hH hS => ?_) (fun v' val w' g' hv => by cases hv))
      injection hv with hv
      subst hv
      refine fin v val w' g' (fun d hd => ?_) hR hH hS
      rw [hd] at hsame
      exact AV.eq_of_beq hsame
    · cases hsame
  · rw [if_neg hgt]
    exact fin undefA undef w g (hund (by simpa using hgt)) undef_R D.hr (Step.refl _ _ _)
/-- The next one of the one order is done. -/
theorem exec_head (S : DS P nt ops l) (hKl : ∀ x ∈ l, ∀ q, x.i.d = some q → Kp q = false) {call : CallO} (hok : CallOk P call) {y : MD} (D : DI B nt ops l Kp dd e0 w0 g0 blk pre (y :: post) listed e ê h a w g) (hyk : y.kd ≤ 2) (hr : y.k ∈ Region.ready .any ops listed)
    {x : AEx} {e' : Nat → AV} {h' : Hp} (hev : evd call l (y :: post) e h = some (x, e', h')) {K : Act → World → Prop}
    (hK : ∀ e1 ê1 h1 a1 w1 g1, DI B nt ops l Kp dd e0 w0 g0 blk (pre ++ [y]) post (listed.setIfInBounds y.k true) e1 ê1 h1 a1 w1 g1 → evd call l post e1 h1 = some (x, e', h') → K a1 w1) :
    wpOp P ops (CPost B w0 g0 nt Kp dd e0 x e' h') y.k K a w := by
  have hp := head_pos D.full
  have hyl := List.mem_of_getElem? hp
  obtain ⟨o, ho, hI, _, _, _, hself, hlight⟩ := S.parts hyl
  rw [if_pos hyk] at hI
  obtain ⟨hdst, hlt, hgd, hm⟩ := chkI_parts hI
  obtain ⟨hyu, _⟩ := ready_un D.size hr
  have hrd := D.reads S hp (Nat.le_refl _) (by omega) hr
  have hg : grd y.i.g ê = grd y.i.g e := grd_congr fun t b ht => hrd t (by unfold MI.reads; rw [ht]; simp)
  simp only [evd] at hev
  obtain ⟨⟨x1, e1, h1⟩, hs, hev2⟩ := Option.bind_eq_some_iff.1 hev
  clear hev
  have hne : ∀ z ∈ post, z.k ≠ y.k := fun z hz => by
    obtain ⟨q, hq, hqz⟩ := tail_pos D.full hz
    exact fun e' => pos_kne S hp hqz hq e'.symm
  -- the state behind
  have fin : ∀ v val w1 g1, (y.kd = 0 → h1 = h) → x1 = .norm → e1 = puts e y.i.d v → R B w1 g1 v val → HR B h1 g1 w1 → Step B w g w1 g1 → K (a.put o.dst val) w1 := by
    intro v val w1 g1 hh hx1 he1 hR hH hS
    subst hx1
    subst he1
    dsimp only at hev2
    obtain ⟨hsm, hev⟩ := ite_opt hev2
    rw [hdst]
    rw [hdst] at hlt
    have hput : ∀ t, y.i.d ≠ some t → ∀ f : Nat → AV, puts f y.i.d v t = f t := by
      intro t ht f
      cases hd : y.i.d with
      | none => rfl
      | some d =>
        rw [hd] at ht
        simp only [puts, upd]
        rw [if_neg (fun e' => ht (by rw [e']))]
    obtain ⟨p1, p2, p3⟩ := (D.er.step hS).put D.tn hlt hR
    refine hK _ (puts ê y.i.d v) _ _ _ g1 ⟨by rw [D.full]; simp, by simp [D.size], D.closed.set hr, fun z hz hzu => ?_, fun z hz hzl => ?_, fun z hz z' hz' hz4 hz4' hzl hzl' => ?_, fun z hz hz3 z' hz' hz4 => ?_, ?_, p1, p2, p3.trans D.df, hH, D.st.trans hS, D.b0, fun t ht => (puts_keep (hKl y hyl) t ht).trans (D.k0 t ht)⟩ hev
    · obtain ⟨hzk, hzu'⟩ := (set_unlisted D.size hr).1 hzu
      rcases List.mem_append.1 hz with hz | hz
      · refine pre_keep S D (fun t ht => hput t ht e) hh hsm (fun z' hz' hzu2 hanc => ?_) (by omega) z hz hzu'
        obtain ⟨q, hq, hqz⟩ := mem_pos D.full hz'
        have := anc_ready D.closed hanc hr
        rw [hzu2] at this
        cases this
      · simp at hz
        subst hz
        exact absurd rfl hzk
    · have hzl' : listed.getD z.k false = true := ((set_listed D.size hr).1 hzl).resolve_left (hne z hz)
      have hzl2 : z ∈ l := by rw [D.full]; simp [hz]
      exact (D.post1 z (by simp [hz]) hzl').step hS (fun d hd => put_other_tmp (S.dne hzl2 hyl (hne z hz) hd)) (fun q hq hq4 => getD_set_ne false (fun e' => by rw [S.kinj hyl hq e'] at hyk; omega))
        (fun hz3 st ps j key t hzop hj hps => hput t (D.vals_ne S hzl2 hzop hz3 hj hps (y := y) (by simp)) e)
    · exact D.inj z (by simp [hz]) z' (by simp [hz']) hz4 hz4' (((set_listed D.size hr).1 hzl).resolve_left (hne z hz)) (((set_listed D.size hr).1 hzl').resolve_left (hne z' hz'))
    · rcases List.mem_append.1 hz with hz | hz
      · exact (set_listed D.size hr).2 (.inr (D.mp z hz hz3 z' hz' hz4))
      · simp at hz
        subst hz
        omega
    · intro t h3 h4
      by_cases ht : y.i.d = some t
      · rw [ht]
        simp only [puts, upd, if_true]
      · rw [hput t ht, hput t ht]
        refine D.agree t (fun z hz hzu => ?_) (fun z hz hzl => ?_)
        · obtain ⟨q, hq, hqz⟩ := mem_pos D.full hz
          exact h3 z (by simp [hz]) ((set_unlisted D.size hr).2 ⟨pos_kne S hqz hp hq, hzu⟩)
        · rcases List.mem_cons.1 hz with rfl | hz
          · exact ht
          · exact h4 z hz ((set_listed D.size hr).2 (.inr hzl))
  unfold wpOp
  rw [ho]
  dsimp only
  rw [wanted_grd hgd D.er D.tn, hg]
  unfold stp at hs
  split at hs
  · rename_i hgt
    rw [if_pos hgt]
    obtain ⟨⟨r, h2⟩, hop, hb⟩ := Option.map_eq_some_iff.1 hs
    have hop' : opv call (Opd.ev ê) h y.i.op = some (r, h2) := by
      rw [opv_congr h fun t ht => hrd t (by unfold MI.reads; exact List.mem_append_right _ ht)]
      exact hop
    have hh : y.kd = 0 → h2 = h := fun hk0 => by
      rw [opv_light (hlight hk0)] at hop
      obtain ⟨⟨v, h3⟩, hs3, hs4⟩ := Option.map_eq_some_iff.1 hop
      have := evop_light (hlight hk0) hs3
      injection hs4 with q1 q2
      rw [← q2]
      exact this
    refine .inl (opv_wp hok hm D.hr D.er hop' (fun v val w' g' hv hR hH hS => ?_) (fun v val w' g' hv hR hH hS => ?_))
    · subst hv
      simp only [back] at hb
      injection hb with hb1 hb2
      injection hb2 with hb2 hb3
      subst hb3
      exact fin v val w' g' hh hb1.symm hb2.symm hR hH hS
    · subst hv
      simp only [back] at hb
      injection hb with hb1 hb2
      injection hb2 with hb2 hb3
      subst hb1
      subst hb3
      dsimp only at hev2
      injection hev2 with hev2
      injection hev2 with h3 h4
      injection h4 with h4 h5
      subst h3
      subst h5
      refine ⟨g', hH, D.st.trans hS, D.df, ⟨val, rfl, hR⟩, fun t ht => ?_⟩
      have hq : ê t = e t := D.agree t (fun z hz _ hzd => by
        rw [hKl z (by rw [D.full]; simp [hz]) t hzd] at ht; cases ht) (fun z hz _ hzd => by
        rw [hKl z (by rw [D.full]; exact List.mem_append_right _ hz) t hzd] at ht; cases ht)
      rw [← D.k0 t ht, ← hq]
      exact (D.er.step hS) t
  · rename_i hgt
    rw [if_neg hgt]
    injection hs with hs
    injection hs with hs1 hs2
    injection hs2 with hs2 hs3
    subst hs3
    exact fin undefA undef w g (fun _ => rfl) hs1.symm hs2.symm undef_R D.hr (Step.refl _ _ _)

theorem Ahead.at_ {blk blk' : Nat → Nat} {x : MD} (h : Ahead B w0 blk l listed e a w g x) (hb : blk' x.k = blk x.k) : Ahead B w0 blk' l listed e a w g x := by
  unfold Ahead Pend PendM at h ⊢
  rw [hb]
  exact h
theorem Ahead.lt {x : MD} (h : Ahead B w0 blk l listed e a w g x) (h4 : x.kd ≠ 4) : blk x.k < w.heap.size := by
  rcases h with ⟨_, _, _, _, _, _, _, _, _, _, _, h6, _⟩ | ⟨_, _, _, _, _, _, _, _, ⟨_, _, _, h6, _⟩, _⟩ | ⟨h, _⟩
  · exact (Array.getElem?_eq_some_iff.1 h6).1
  · exact (Array.getElem?_eq_some_iff.1 h6).1
  · exact absurd h h4

/-- A variable is made ahead of its turn. -/
theorem exec_alloc (S : DS P nt ops l) {y : MD} (D : DI B nt ops l Kp dd e0 w0 g0 blk pre post listed e ê h a w g) (hy : y ∈ post) (hk2 : y.kd = 2) (hr : y.k ∈ Region.ready .any ops listed)
    {K : Act → World → Prop} {Q : Exit → Act → World → Prop}
    (hK : ∀ blk1 ê1 a1 w1 g1, DI B nt ops l Kp dd e0 w0 g0 blk1 pre post (listed.setIfInBounds y.k true) e ê1 h a1 w1 g1 → K a1 w1) : wpOp P ops Q y.k K a w := by
  have hyl : y ∈ l := by rw [D.full]; simp [hy]
  obtain ⟨o, ho, hI, _, _, hal, hself, hlight⟩ := S.parts hyl
  rw [if_pos (by omega)] at hI
  obtain ⟨hdst, hlt, hgd, hm⟩ := chkI_parts hI
  obtain ⟨hyu, _⟩ := ready_un D.size hr
  obtain ⟨t, t', n, z, d, hop, hmop, hd, hgn⟩ := hal hk2
  rw [hop, hmop] at hm
  simp only [chkM, Bool.and_eq_true, beq_iff_eq] at hm
  obtain ⟨rfl, hz⟩ := hm
  split at hz
  · rename_i zv hzv
    have hrun : (execOp a.eval o).run P w = .ok (.value (.pointer (some ⟨w.heap.size, 0, none⟩))) (w.alloc (.cells zv.cells t)) := by
      unfold execOp
      rw [hop]
      simp only [Instr.alloc, Sem.run_bind, zrT_run hzv w, Result.andThen_ok, newVar, newRow, newObj]
      rfl
    unfold wpOp
    rw [ho]
    dsimp only
    rw [wanted_grd hgd D.er D.tn, hgn, if_pos (show grd none ê = true from rfl)]
    refine .inl ?_
    unfold Oper.wp
    rw [hrun, Oper.upon_value]
    have hG := Grew.alloc w (.cells zv.cells t)
    have hS := hG.step D.hr.sz g
    have hdlt : d < a.tmps.size := by rw [D.tn]; exact hlt d (hdst.trans hd)
    rw [hdst, hd]
    obtain ⟨p1, p2, p3⟩ := (D.er.step hS).put (d := some d) (v := .vptr [] 0) (val := .pointer (some ⟨w.heap.size, 0, none⟩)) D.tn (fun t ht => by injection ht with ht; subst ht; rw [← D.tn]; exact hdlt)
      (.vptr [] 0 w.heap.size 0 (fun _ => undef) (fun j x hx => by simp at hx) (fun j x hx => by simp at hx))
    refine hK (fun k => if k = y.k then w.heap.size else blk k) (puts ê (some d) (.vptr [] 0)) _ _ g ⟨D.full, by simp [D.size], D.closed.set hr, fun q hq hqu => D.pre0 q hq ((set_unlisted D.size hr).1 hqu).2, fun q hq hql => ?_, fun q hq q' hq' hq4 hq4' hql hql' he => ?_, fun z hz hz3 z' hz' hz4 => (set_listed D.size hr).2 (.inr (D.mp z hz hz3 z' hz' hz4)), ?_, p1, p2, p3.trans D.df, D.hr.grew hG, D.st.trans hS, D.b0, D.k0⟩
    · by_cases hqk : q.k = y.k
      · have hql2 : q ∈ l := by rw [D.full]; exact List.mem_append_right _ hq
        have := S.kinj hql2 hyl hqk
        subst this
        refine .inl ⟨hk2, t, n, z, zv, d, hmop, hd, hgn, ?_, hz, ?_, ?_, ?_, ?_, ?_⟩
        · simp only [if_true]
          exact put_same_tmp hdlt
        · simp only [if_true]
          exact heap_alloc_new w _
        · simp only [if_true]
          intro hm
          have h1 : w.heap.size < w.heap.size := D.hr.blt hm
          omega
        · simp only [if_true]
          intro G hG' he
          have h1 : G.k < w.heap.size := D.hr.alt hG'
          omega
        · simp only [if_true]
          intro o' hp
          have := D.hr.prs _ o' hp
          omega
        · simp only [if_true]
          exact D.st.below.size
      · have hql' : listed.getD q.k false = true := ((set_listed D.size hr).1 hql).resolve_left hqk
        have hql2 : q ∈ l := by rw [D.full]; exact List.mem_append_right _ hq
        refine Ahead.at_ (blk := blk) ?_ (if_neg hqk)
        exact (D.post1 q hq hql').step hS (fun d' hd' => put_other_tmp (by
          have := S.dne hql2 hyl hqk hd'
          rw [hd] at this
          exact this)) (fun z' hz' hz4 => getD_set_ne false (fun e' => by rw [S.kinj hyl hz' e'] at hk2; omega)) (fun _ _ _ _ _ _ _ _ _ => rfl)
    · have hlow : ∀ q ∈ post, q.kd ≠ 4 → q.k ≠ y.k → (listed.setIfInBounds y.k true).getD q.k false = true → blk q.k < w.heap.size := by
        intro q hq hq4 hqk hql
        exact (D.post1 q hq (((set_listed D.size hr).1 hql).resolve_left hqk)).lt hq4
      by_cases hqk : q.k = y.k <;> by_cases hqk' : q'.k = y.k
      · rw [hqk, hqk']
      · rw [if_pos hqk, if_neg hqk'] at he
        have := hlow q' hq' hq4' hqk' hql'
        omega
      · rw [if_neg hqk, if_pos hqk'] at he
        have := hlow q hq hq4 hqk hql
        omega
      · rw [if_neg hqk, if_neg hqk'] at he
        exact D.inj q hq q' hq' hq4 hq4' (((set_listed D.size hr).1 hql).resolve_left hqk) (((set_listed D.size hr).1 hql').resolve_left hqk') he
    · intro q h5 h6
      have hqd : d ≠ q := by
        intro e'
        subst e'
        exact h6 y (by simp [hy]) ((set_listed D.size hr).2 (.inl rfl)) hd
      simp only [puts, upd]
      rw [if_neg (Ne.symm hqd)]
      refine D.agree q (fun z hz hzu => ?_) (fun z hz hzl => h6 z hz ((set_listed D.size hr).2 (.inr hzl)))
      by_cases hzk : z.k = y.k
      · have hzl : z ∈ l := by rw [D.full]; exact List.mem_append_left _ hz
        rw [S.kinj hzl hyl hzk, hd]
        exact fun e' => hqd (by injection e')
      · exact h5 z hz ((set_unlisted D.size hr).2 ⟨hzk, hzu⟩)
  · cases hz

/-- A map literal is begun. -/
theorem exec_map (S : DS P nt ops l) {y : MD} (D : DI B nt ops l Kp dd e0 w0 g0 blk pre post listed e ê h a w g) (hy : y ∈ post) (hk3 : y.kd = 3) (hr : y.k ∈ Region.ready .any ops listed)
    {K : Act → World → Prop} {Q : Exit → Act → World → Prop}
    (hK : ∀ blk1 ê1 a1 w1 g1, DI B nt ops l Kp dd e0 w0 g0 blk1 pre post (listed.setIfInBounds y.k true) e ê1 h a1 w1 g1 → K a1 w1) : wpOp P ops Q y.k K a w := by
  have hyl : y ∈ l := by rw [D.full]; simp [hy]
  obtain ⟨hyu, _⟩ := ready_un D.size hr
  obtain ⟨o, t, st, ps, d, ho, hop, hog, hdst, hdn, hmop, hd, hgn, _, _, _⟩ := S.lit hyl hk3
  have hrun : (execOp a.eval o).run P w = .ok (.value (.map (some w.heap.size))) (w.alloc (.map #[] 0)) := by
    unfold execOp
    rw [hop]
    simp only [Option.map_none, Instr.makeMap, newObj]
    rfl
  unfold wpOp
  rw [ho]
  dsimp only
  rw [wanted_grd (nt := nt) (ops := ops) (g := g) (i := y.i.g) (by rw [hog, hgn]; rfl) D.er D.tn, hgn, if_pos (show grd none ê = true from rfl)]
  refine .inl ?_
  unfold Oper.wp
  rw [hrun, Oper.upon_value]
  have hG := Grew.alloc w (.map #[] 0)
  have hS := hG.step D.hr.sz g
  have hdlt : d < a.tmps.size := by rw [D.tn]; exact hdn
  rw [hdst]
  obtain ⟨p1, p2, p3⟩ := (D.er.step hS).put (d := some d) (v := .any) (val := .map (some w.heap.size)) D.tn (fun t ht => by injection ht with ht; subst ht; exact hdn) (.any _)
  refine hK (fun k => if k = y.k then w.heap.size else blk k) (puts ê (some d) .any) _ _ g ⟨D.full, by simp [D.size], D.closed.set hr, fun q hq hqu => D.pre0 q hq ((set_unlisted D.size hr).1 hqu).2, fun q hq hql => ?_, fun q hq q' hq' hq4 hq4' hql hql' he => ?_, fun z hz hz3 z' hz' hz4 => (set_listed D.size hr).2 (.inr (D.mp z hz hz3 z' hz' hz4)), ?_, p1, p2, p3.trans D.df, D.hr.grew hG, D.st.trans hS, D.b0, D.k0⟩
  · by_cases hqk : q.k = y.k
    · have hql2 : q ∈ l := by rw [D.full]; exact List.mem_append_right _ hq
      have := S.kinj hql2 hyl hqk
      subst this
      have hdn0 : dn l (listed.setIfInBounds q.k true) e ps = [] := by
        have hno : ∀ j, insd l (listed.setIfInBounds q.k true) j = false := by
          intro j
          apply Bool.eq_false_iff.2
          intro hj
          simp only [insd, List.any_eq_true, Bool.and_eq_true, beq_iff_eq] at hj
          obtain ⟨z, hz, ⟨hz4, _⟩, hzl⟩ := hj
          have hzk : z.k ≠ q.k := fun e' => by rw [S.kinj hz hyl e'] at hz4; omega
          have hzl' := ((set_listed D.size hr).1 hzl).resolve_left hzk
          obtain ⟨_, _, _, _, _, _, x', _, _, _, _, _, _, _, _, _, _, _, hx', hx3', hxm', _⟩ := S.entry hz hz4
          have := S.one3 hx' hyl hx3' hk3
          subst this
          obtain ⟨p, hp⟩ := List.getElem?_of_mem hz
          have := anc_closed D.closed (S.anc _ _ hp _ hxm') hzl'
          rw [hyu] at this
          cases this
        unfold dn
        rw [List.map_eq_nil_iff, List.filter_eq_nil_iff]
        intro p _
        rw [hno]
        simp
      refine .inr (.inl ⟨hk3, st, ps, d, hmop, hd, hgn, ?_, ⟨[], [], 0, ?_, RL.nil, RL.nil, by rw [hdn0]⟩, ?_, ?_, ?_, ?_⟩)
      · simp only [if_true]
        exact put_same_tmp hdlt
      · simp only [if_true]
        exact heap_alloc_new w _
      · simp only [if_true]
        intro hm
        have h1 : w.heap.size < w.heap.size := D.hr.blt hm
        omega
      · simp only [if_true]
        intro G hG' he
        have h1 : G.k < w.heap.size := D.hr.alt hG'
        omega
      · simp only [if_true]
        intro o' hp
        have := D.hr.prs _ o' hp
        omega
      · simp only [if_true]
        exact D.st.below.size
    · have hql' : listed.getD q.k false = true := ((set_listed D.size hr).1 hql).resolve_left hqk
      have hql2 : q ∈ l := by rw [D.full]; exact List.mem_append_right _ hq
      refine Ahead.at_ (blk := blk) ?_ (if_neg hqk)
      exact (D.post1 q hq hql').step hS (fun d' hd' => put_other_tmp (by
        have := S.dne hql2 hyl hqk hd'
        rw [hd] at this
        exact this)) (fun z' hz' hz4 => getD_set_ne false (fun e' => by rw [S.kinj hyl hz' e'] at hk3; omega)) (fun _ _ _ _ _ _ _ _ _ => rfl)
  · have hlow : ∀ q ∈ post, q.kd ≠ 4 → q.k ≠ y.k → (listed.setIfInBounds y.k true).getD q.k false = true → blk q.k < w.heap.size := by
      intro q hq hq4 hqk hql
      exact (D.post1 q hq (((set_listed D.size hr).1 hql).resolve_left hqk)).lt hq4
    by_cases hqk : q.k = y.k <;> by_cases hqk' : q'.k = y.k
    · rw [hqk, hqk']
    · rw [if_pos hqk, if_neg hqk'] at he
      have := hlow q' hq' hq4' hqk' hql'
      omega
    · rw [if_neg hqk, if_pos hqk'] at he
      have := hlow q hq hq4 hqk hql
      omega
    · rw [if_neg hqk, if_neg hqk'] at he
      exact D.inj q hq q' hq' hq4 hq4' (((set_listed D.size hr).1 hql).resolve_left hqk) (((set_listed D.size hr).1 hql').resolve_left hqk') he
  · intro q h5 h6
    have hqd : d ≠ q := by
      intro e'
      subst e'
      exact h6 y (by simp [hy]) ((set_listed D.size hr).2 (.inl rfl)) hd
    simp only [puts, upd]
    rw [if_neg (Ne.symm hqd)]
    refine D.agree q (fun z hz hzu => ?_) (fun z hz hzl => h6 z hz ((set_listed D.size hr).2 (.inr hzl)))
    by_cases hzk : z.k = y.k
    · have hzl : z ∈ l := by rw [D.full]; exact List.mem_append_left _ hz
      rw [S.kinj hzl hyl hzk, hd]
      exact fun e' => hqd (by injection e')
    · exact h5 z hz ((set_unlisted D.size hr).2 ⟨hzk, hzu⟩)

theorem filter_perm {α : Type} (f : α → Nat) (p : Nat → Bool) (j : Nat) (hp : p j = false) : ∀ (L : List α) (q : α), q ∈ L → f q = j → (L.map f).Nodup → (L.filter fun x => p (f x) || f x == j).Perm (q :: L.filter fun x => p (f x))
  | [], q, h, _, _ => by simp at h
  | x :: L, q, h, hq, hn => by
    simp only [List.map_cons, List.nodup_cons] at hn
    by_cases hx : f x = j
    · have hqx : q = x := by
        rcases List.mem_cons.1 h with h | h
        · exact h
        · exact absurd (List.mem_map.2 ⟨q, h, hq.trans hx.symm⟩) hn.1
      subst hqx
      have h1 : (L.filter fun x => p (f x) || f x == j) = L.filter fun x => p (f x) := by
        refine List.filter_congr fun z hz => ?_
        have : f z ≠ j := fun e => hn.1 (List.mem_map.2 ⟨z, hz, e.trans hx.symm⟩)
        simp [this]
      rw [List.filter_cons_of_pos (by simp [hx]), List.filter_cons_of_neg (by simp [hx, hp]), h1]
    · have hqL : q ∈ L := by
        rcases List.mem_cons.1 h with h | h
        · rw [h] at hq; exact absurd hq hx
        · exact h
      have ih := filter_perm f p j hp L q hqL hq hn.2
      by_cases hpx : p (f x) = true
      · rw [List.filter_cons_of_pos (by simp [hpx]), List.filter_cons_of_pos (by simp [hpx])]
        exact (ih.cons x).trans (List.Perm.swap _ _ _)
      · rw [List.filter_cons_of_neg (by simp [hpx, hx]), List.filter_cons_of_neg (by simp [hpx])]
        exact ih
theorem insd_set (S : DS P nt ops l) {y : MD} (hyl : y ∈ l) (hk4 : y.kd = 4) {j : Nat} (hop : y.i.op = .nop j) (hs : listed.size = ops.size) (hr : y.k ∈ Region.ready .any ops listed) (j' : Nat) :
    insd l (listed.setIfInBounds y.k true) j' = (insd l listed j' || j' == j) := by
  apply Bool.eq_iff_iff.2
  simp only [insd, List.any_eq_true, Bool.and_eq_true, beq_iff_eq, Bool.or_eq_true]
  constructor
  · rintro ⟨z, hz, ⟨h4, hj⟩, hl⟩
    rcases (set_listed hs hr).1 hl with he | he
    · have := S.kinj hz hyl he
      subst this
      rw [hop] at hj
      simp [isNop] at hj
      exact .inr hj.symm
    · exact .inl ⟨z, hz, ⟨h4, hj⟩, he⟩
  · rintro (⟨z, hz, ⟨h4, hj⟩, hl⟩ | rfl)
    · exact ⟨z, hz, ⟨h4, hj⟩, (set_listed hs hr).2 (.inr hl)⟩
    · exact ⟨y, hyl, ⟨hk4, by rw [hop]; simp [isNop]⟩, (set_listed hs hr).2 (.inl rfl)⟩
theorem dn_set (S : DS P nt ops l) {y : MD} (hyl : y ∈ l) (hk4 : y.kd = 4) {j : Nat} (hop : y.i.op = .nop j) (hs : listed.size = ops.size) (hr : y.k ∈ Region.ready .any ops listed) (hno : insd l listed j = false)
    {ps : List (AV × Nat)} {key : AV} {tv : Nat} (hps : ps[j]? = some (key, tv)) : (dn l (listed.setIfInBounds y.k true) e ps).Perm (dn l listed e ps ++ [(key, e tv)]) := by
  unfold dn
  have h1 : (ps.zipIdx.filter fun q => insd l (listed.setIfInBounds y.k true) q.2) = ps.zipIdx.filter fun q => insd l listed q.2 || q.2 == j := by
    congr 1
    funext q
    exact insd_set S hyl hk4 hop hs hr q.2
  rw [h1]
  have h2 := filter_perm (fun q : (AV × Nat) × Nat => q.2) (insd l listed) j hno ps.zipIdx ((key, tv), j) (List.mem_zipIdx_iff_getElem?.2 hps) rfl (by
    have : ps.zipIdx.map (fun q : (AV × Nat) × Nat => q.2) = List.range ps.length := by
      apply List.ext_getElem?
      intro i
      rw [List.getElem?_map, List.getElem?_zipIdx]
      by_cases hi : i < ps.length
      · simp [hi]
      · simp [hi]
    rw [this]
    exact List.nodup_range)
  refine (h2.map _).trans ?_
  simp only [List.map_cons]
  exact (List.perm_append_singleton _ _).symm

/-- A block that the abstract machine does not know turns. -/
theorem mono_put {k : Nat} (hp : ∀ o, ¬ g.pr k o) (o : Obj) : Mono w g (World.put w k o) g :=
  ⟨fun _ _ h => h, fun _ G h => ⟨G, h, Nat.le_refl _, fun _ => rfl⟩, fun _ _ h => h, fun k' o' v hk hc => (World.cell?_of_block (put_other (w := w) (k := k) (i := k') (fun e => hp o' (e ▸ hk)) o)).trans hc⟩
theorem BoxR.far {w' : World} {k : Nat} {x : Box} (h : BoxR B w g k x) (hm : Mono w g w' g) (hk : w'.heap[k]? = w.heap[k]?) : BoxR B w' g k x := by
  cases x with
  | cells t cs => obtain ⟨vs, h1, h2, h3⟩ := h; exact ⟨vs, hk.trans h1, ⟨h2.len, fun i x v hx hv => (h2.at_ i x v hx hv).mono hm⟩, h3⟩
  | map es => obtain ⟨es', e, c, h1, h2, h3, h4, h5⟩ := h; exact ⟨es', e, c, hk.trans h1, ⟨h2.len, fun i x v hx hv => (h2.at_ i x v hx hv).mono hm⟩, ⟨h3.len, fun i x v hx hv => (h3.at_ i x v hx hv).mono hm⟩, h4, h5⟩
  | siter s pos => exact hk.trans h
theorem ArrR.far {w' : World} {G : AG} {A : Arr} (h : ArrR B w g G A) (hm : Mono w g w' g) (hk : w'.heap[G.k]? = w.heap[G.k]?) : ArrR B w' g G A := by
  obtain ⟨h1, h2, h3, h4, h5, vs, z, h6, hz, h7, h8⟩ := h
  exact ⟨h1, h2, h3, h4, h5, vs, z, hk.trans h6, hz, h7, fun i c j x hi hx => by
    obtain ⟨v, a, b, c⟩ := h8 i c j x hi hx
    exact ⟨v, a, b.mono hm, c⟩⟩
theorem HR.far (H : HR B h g w) {k : Nat} (hb : k ∉ g.bb) (ha : ∀ G ∈ g.ab, G.k ≠ k) (hp : ∀ o, ¬ g.pr k o) (o : Obj) : HR B h g (World.put w k o) :=
  ⟨H.lb, H.la, fun b x k' hx hk' => (H.box b x k' hx hk').far (mono_put hp o) (put_other (fun e => hb (by rw [← e]; exact List.mem_of_getElem? hk')) o),
    fun a A G hA hG => (H.arr a A G hA hG).far (mono_put hp o) (put_other (ha G (List.mem_of_getElem? hG)) o), H.nd, H.low, H.npr, fun k' o' h' => by
      have := H.prs k' o' h'
      simpa [World.put] using this, by simpa [World.put] using H.sz⟩
theorem Step.far (hs : Step B w0 g0 w g) (hB : B ≤ w0.heap.size) {k : Nat} (hk : w0.heap.size ≤ k) (hp : ∀ o, ¬ g.pr k o) (o : Obj) : Step B w0 g0 (World.put w k o) g :=
  ⟨hs.below.trans ⟨rfl, rfl, rfl, by simp [World.put], fun i hi => put_other (by omega) o⟩, hs.bb, hs.ab, hs.newb, hs.newa, hs.pr, fun k' o' v h1 h2 => (mono_put hp o).cell _ _ _ (hs.pr _ _ h1) (hs.cell k' o' v h1 h2),
    fun i h1 h2 h3 h4 => (put_other (by omega) o).trans (hs.rest i h1 h2 h3 h4), hs.newp⟩

/-- An entry of a map literal. -/
theorem exec_ins (S : DS P nt ops l) {y : MD} (D : DI B nt ops l Kp dd e0 w0 g0 blk pre post listed e ê h a w g) (hy : y ∈ post) (hk4 : y.kd = 4) (hr : y.k ∈ Region.ready .any ops listed)
    {K : Act → World → Prop} {Q : Exit → Act → World → Prop}
    (hK : ∀ a1 w1 g1, DI B nt ops l Kp dd e0 w0 g0 blk pre post (listed.setIfInBounds y.k true) e ê h a1 w1 g1 → K a1 w1) : wpOp P ops Q y.k K a w := by
  have hyl : y ∈ l := by rw [D.full]; simp [hy]
  obtain ⟨hyu, _⟩ := ready_un D.size hr
  obtain ⟨o, t, d, k, tv, j, x, st, ps, key, z, ho, hop, hog, hod, hyop, hyg, hyd, hx, hx3, hxm, hxop, hxd, hps, hkey, hz, hz1, hz2, hz3, ox, hox, hoxp⟩ := S.entry hyl hk4
  obtain ⟨o', t', st', ps', d', ho', hop', _, _, _, hxop', _, _, ht, hks, _⟩ := S.lit hx hx3
  rw [hxop] at hxop'
  injection hxop' with e1 e2
  subst e1
  subst e2
  rw [hox] at ho'
  injection ho' with ho'
  subst ho'
  rw [hoxp] at hop'
  injection hop' with e3
  subst e3
  obtain ⟨q, hq⟩ := List.getElem?_of_mem hyl
  have hxl := anc_ready D.closed (S.anc _ _ hq _ hxm) hr
  have hzl := anc_ready D.closed (S.anc _ _ hq _ hz3) hr
  have hxp : x ∈ post := by
    have := hx
    rw [D.full] at this
    rcases List.mem_append.1 this with h1 | h1
    · have := D.mp x h1 hx3 y hyl hk4
      rw [hyu] at this
      cases this
    · exact h1
  have hzp : z ∈ pre := by
    have := hz
    rw [D.full] at this
    rcases List.mem_append.1 this with h1 | h1
    · exact h1
    · have := (D.post1 z h1 hzl).kd
      omega
  have hA : PendM B w0 blk l listed e a w g x := by
    rcases D.post1 x hxp hxl with ⟨h, _⟩ | ⟨_, h⟩ | ⟨h, _⟩
    · omega
    · exact h
    · omega
  obtain ⟨st', ps', d', hop2, hd2, hg2, htm, ⟨es, ents, clock, hblk, q1, q2, q3⟩, hb1, hb2, hb3, hb4⟩ := hA
  rw [hxop] at hop2
  injection hop2 with e1 e2
  subst e1
  subst e2
  rw [hxd] at hd2
  injection hd2 with hd2
  subst hd2
  have hno : insd l listed j = false := by
    apply Bool.eq_false_iff.2
    intro hj
    simp only [insd, List.any_eq_true, Bool.and_eq_true, beq_iff_eq] at hj
    obtain ⟨y', hy', ⟨h4', hj'⟩, hl'⟩ := hj
    have := S.one4 hyl hy' hk4 h4' hyop hj'
    subst this
    rw [hyu] at hl'
    cases hl'
  -- the value
  have hzl2 : z ∈ l := hz
  have hev : ê tv = e tv := by
    refine D.agree tv (fun u hu huu hud => ?_) (fun u hu hul hud => ?_)
    · have hul2 : u ∈ l := by rw [D.full]; exact List.mem_append_left _ hu
      have hne : u.k ≠ z.k := fun e' => by rw [S.kinj hul2 hzl2 e', hzl] at huu; cases huu
      exact S.dne hul2 hzl2 hne hud hz2
    · have hul2 : u ∈ l := by rw [D.full]; exact List.mem_append_right _ hu
      have hne : u.k ≠ z.k := fun e' => by
        have h1 := S.kinj hul2 hzl2 e'
        have h2 := (D.post1 u hu hul).kd
        rw [h1] at h2
        omega
      exact S.dne hul2 hzl2 hne hud hz2
  have hxR : R B w g (e tv) (a.eval (.tmp tv)) := by rw [← hev]; exact D.er tv
  have hkR : R B w g key (a.eval k) := D.er.opd hkey
  -- the kinds
  split at ht
  case h_2 => cases ht
  rename_i kt et hu
  have hkt := kindOf_chk ht
  have hks' := hks
  simp only [keysOk, Bool.and_eq_true, List.all_eq_true] at hks'
  obtain ⟨⟨hkd, hki⟩, hkk⟩ := hks'
  have hik : isKey st key = true := hki key (List.mem_map.2 ⟨_, List.mem_of_getElem? hps, rfl⟩)
  have hok : MapOK (ps.map fun p => (p.1, e p.2)) := keysOk_map (st := st) (by rw [List.map_map]; exact hks)
  have hdn : ∀ p ∈ es, ∃ j' key' t', insd l listed j' = true ∧ ps[j']? = some (key', t') ∧ p.1 = key' := by
    intro p hp
    have := q3.mem_iff.1 hp
    unfold dn at this
    obtain ⟨⟨⟨key', t'⟩, j'⟩, hq', rfl⟩ := List.mem_map.1 this
    obtain ⟨h1, h2⟩ := List.mem_filter.1 hq'
    exact ⟨j', key', t', h2, List.mem_zipIdx_iff_getElem?.1 h1, rfl⟩
  obtain ⟨r, hr0, hr1⟩ := mfind_any (es := es) hik (fun p hp => by
    obtain ⟨j', key', t', _, h2, h3⟩ := hdn p hp
    rw [h3]
    obtain ⟨_, c, hc⟩ := hok
    have c1 := hc (key', e t') (List.mem_map.2 ⟨(key', t'), List.mem_of_getElem? h2, rfl⟩)
    have c2 := hc (key, e tv) (List.mem_map.2 ⟨(key, tv), List.mem_of_getElem? hps, rfl⟩)
    dsimp only at c1 c2
    rw [c1, c2])
  have hrn : r = none := by
    cases r with
    | none => rfl
    | some q' =>
      obtain ⟨i, v⟩ := q'
      exfalso
      obtain ⟨j', key', t', h1, h2, h3⟩ := hdn _ (List.mem_of_getElem? hr1)
      dsimp only at h3
      subst h3
      have hnd := hok.1
      rw [List.map_map] at hnd
      have hj' : (ps.map (Prod.fst ∘ fun p : AV × Nat => (p.1, e p.2)))[j']? = some key := by simp [h2]
      have hj0 : (ps.map (Prod.fst ∘ fun p : AV × Nat => (p.1, e p.2)))[j]? = some key := by simp [hps]
      have := List.getElem?_inj (List.getElem?_eq_some_iff.1 hj').1 hnd |>.1 (hj'.trans hj0.symm)
      subst this
      rw [hno] at h1
      cases h1
  subst hrn
  obtain ⟨Dd, hD, hfn⟩ := mfind_ok (P := P) hkt hkR q1 q2 hr0 0
  have hget : (getObj (blk x.k)).run P w = .ok (.map ents.toArray clock) w := by simp [getObj, Sem.run, hblk]
  have hlt : blk x.k < w.heap.size := (Array.getElem?_eq_some_iff.1 hblk).1
  have hset : (setObj (blk x.k) (.map (ents.toArray.push { key := a.eval k, val := a.eval (.tmp tv), born := clock }) (clock + 1))).run P w = .ok () (World.put w (blk x.k) (.map (ents.toArray.push { key := a.eval k, val := a.eval (.tmp tv), born := clock }) (clock + 1))) :=
    setObj_run hblk (by simp)
  have hmv : a.eval (.tmp d) = .map (some (blk x.k)) := htm
  have hrun : (execOp a.eval o).run P w = .ok .skip (World.put w (blk x.k) (.map (ents.toArray.push { key := a.eval k, val := a.eval (.tmp tv), born := clock }) (clock + 1))) := by
    unfold execOp
    rw [hop]
    simp only [hmv, Instr.mapUpdate, Sem.run_bind, run_underlying hu, Result.andThen_ok, hget, checkKey_run hkt hik hkR, findKey_run hD hfn, hset, Sem.run_pure]
  unfold wpOp
  rw [ho]
  dsimp only
  rw [wanted_grd (nt := nt) (ops := ops) (g := g) (i := y.i.g) (by rw [hog, hyg]; rfl) D.er D.tn, hyg, if_pos (show grd none ê = true from rfl)]
  refine .inl ?_
  unfold Oper.wp
  rw [hrun, Oper.upon_skip, hod]
  show K a _
  have hm := mono_put (w := w) hb3 (.map (ents.toArray.push { key := a.eval k, val := a.eval (.tmp tv), born := clock }) (clock + 1))
  refine hK a _ g ⟨D.full, by simp [D.size], D.closed.set hr, fun q hq hqu => D.pre0 q hq ((set_unlisted D.size hr).1 hqu).2, fun q hq hql => ?_, fun q hq q' hq' hq4 hq4' hql hql' he => ?_, fun z hz hz3 z' hz' hz4 => (set_listed D.size hr).2 (.inr (D.mp z hz hz3 z' hz' hz4)), fun t h1 h2 => ?_, fun t => (D.er t).mono hm, D.tn, D.df, D.hr.far hb1 hb2 hb3 _, D.st.far D.b0 hb4 hb3 _, D.b0, D.k0⟩
  · have hql2 : q ∈ l := by rw [D.full]; exact List.mem_append_right _ hq
    by_cases hqk : q.k = y.k
    · have := S.kinj hql2 hyl hqk
      subst this
      exact .inr (.inr ⟨hk4, hyd⟩)
    · have hql' : listed.getD q.k false = true := ((set_listed D.size hr).1 hql).resolve_left hqk
      rcases D.post1 q hq hql' with ⟨h0, t1, n1, z1, zv1, d1, p1, p2, p3, p4, p5, p6, p7⟩ | ⟨h0, _⟩ | h0
      · have hne : blk q.k ≠ blk x.k := fun e' => by
          have := S.kinj hql2 hx (D.inj q hq x hxp (by omega) (by omega) hql' hxl e')
          rw [this] at h0
          omega
        exact .inl ⟨h0, t1, n1, z1, zv1, d1, p1, p2, p3, p4, p5, (put_other hne _).trans p6, p7⟩
      · have := S.one3 hql2 hx h0 hx3
        subst this
        refine .inr (.inl ⟨h0, st, ps, d, hxop, hxd, hg2, htm, ⟨es ++ [(key, e tv)], ents ++ [{ key := a.eval k, val := a.eval (.tmp tv), born := clock }], clock + 1, ?_, ?_, ?_, ?_⟩, hb1, hb2, hb3, hb4⟩)
        · rw [put_heap hlt]; simp
        · have := q1.append (.cons hkR .nil)
          simp only [List.map_append, List.map_cons, List.map_nil]
          exact ⟨this.len, fun i x v hx hv => (this.at_ i x v hx hv).mono hm⟩
        · have := q2.append (.cons hxR .nil)
          simp only [List.map_append, List.map_cons, List.map_nil]
          exact ⟨this.len, fun i x v hx hv => (this.at_ i x v hx hv).mono hm⟩
        · exact (q3.append_right _).trans (dn_set S hyl hk4 hyop D.size hr hno hps).symm
      · exact .inr (.inr h0)
  · have hne : ∀ q ∈ post, q.kd ≠ 4 → q.k ≠ y.k := fun q hq hq4 e' => by
      have hql2 : q ∈ l := by rw [D.full]; exact List.mem_append_right _ hq
      rw [S.kinj hql2 hyl e'] at hq4
      exact hq4 hk4
    exact D.inj q hq q' hq' hq4 hq4' (((set_listed D.size hr).1 hql).resolve_left (hne q hq hq4)) (((set_listed D.size hr).1 hql').resolve_left (hne q' hq' hq4')) he
  · refine D.agree t (fun u hu huu => ?_) (fun u hu hul => h2 u hu ((set_listed D.size hr).2 (.inr hul)))
    by_cases huk : u.k = y.k
    · have hul : u ∈ l := by rw [D.full]; exact List.mem_append_left _ hu
      rw [S.kinj hul hyl huk, hyd]
      exact fun e' => by cases e'
    · exact h1 u hu ((set_unlisted D.size hr).2 ⟨huk, huu⟩)
/-- How many are not listed. -/
def unl (ops : Array Oper) (listed : Array Bool) : Nat := (List.range ops.size).countP fun k => !listed.getD k false
theorem countP_lt {α : Type} {p q : α → Bool} : ∀ {l : List α}, (∀ x ∈ l, q x = true → p x = true) → (∃ x ∈ l, p x = true ∧ q x = false) → l.countP q < l.countP p
  | [], _, ⟨x, hx, _⟩ => by simp at hx
  | y :: l, h, ⟨x, hx, hp, hq⟩ => by
    have hle : l.countP q ≤ l.countP p := List.countP_mono_left fun x hx => h x (by simp [hx])
    by_cases hxl : ∃ x ∈ l, p x = true ∧ q x = false
    · have := countP_lt (l := l) (fun x hx => h x (by simp [hx])) hxl
      simp only [List.countP_cons]
      have := h y (by simp)
      by_cases hqy : q y = true
      · simp [hqy, this hqy]; omega
      · simp [hqy]; omega
    · rcases List.mem_cons.1 hx with rfl | hx
      · simp only [List.countP_cons, hp, hq]
        simp
        omega
      · exact absurd ⟨x, hx, hp, hq⟩ hxl
theorem unl_set {i : Nat} (hs : listed.size = ops.size) (hr : i ∈ Region.ready .any ops listed) : unl ops (listed.setIfInBounds i true) < unl ops listed := by
  obtain ⟨hu, hlt⟩ := ready_un hs hr
  refine countP_lt (fun k _ hk => ?_) ⟨i, List.mem_range.2 hlt, by simp only [hu]; rfl, ?_⟩
  · have : (listed.setIfInBounds i true).getD k false = false := by simpa using hk
    have := ((set_unlisted hs hr).1 this).2
    simp only [this]; rfl
  · have : (listed.setIfInBounds i true).getD i false = true := (set_listed hs hr).2 (.inl rfl)
    simp only [this]; rfl
theorem unl_pos {k : Nat} (hk : k < ops.size) (hu : listed.getD k false = false) : 0 < unl ops listed := by
  unfold unl
  rw [List.countP_pos_iff]
  exact ⟨k, List.mem_range.2 hk, by simp only [hu]; rfl⟩

theorem ready_elem (S : DS P nt ops l) {i : Nat} (hs : listed.size = ops.size) (hr : i ∈ Region.ready .any ops listed) : ∃ y ∈ l, y.k = i := S.all i (ready_un hs hr).2

theorem DS.kd_le (S : DS P nt ops l) {x : MD} (hx : x ∈ l) : x.kd ≤ 4 := by
  by_cases h : x.kd ≤ 2
  · omega
  · obtain ⟨o, ho, hI, _⟩ := S.parts hx
    rw [if_neg h] at hI
    simp only [mapD, Bool.and_eq_true] at hI
    obtain ⟨_, hI⟩ := hI
    split at hI
    · simp only [Bool.and_eq_true, beq_iff_eq] at hI
      omega
    · simp only [Bool.and_eq_true, beq_iff_eq] at hI
      omega
    · cases hI

theorem draw_any (S : DS P nt ops l) (hKl : ∀ x ∈ l, ∀ q, x.i.d = some q → Kp q = false) {call : CallO} (hok : CallOk P call) {x : AEx} {e' : Nat → AV} {h' : Hp} : ∀ (fuel : Nat) (post pre : List MD) (listed : Array Bool) (e ê : Nat → AV) (h : Hp) (a : Act) (w : World) (g : Gh) (blk : Nat → Nat),
    DI B nt ops l Kp dd e0 w0 g0 blk pre post listed e ê h a w g → evd call l post e h = some (x, e', h') → unl ops listed ≤ fuel → wpAny P .any ops (CPost B w0 g0 nt Kp dd e0 x e' h') fuel listed a w := by
  intro fuel
  induction fuel with
  | zero =>
    intro post
    induction post with
    | nil =>
      intro pre listed e ê h a w g blk D hev hun
      simp only [evd] at hev
      injection hev with hev
      injection hev with h1 h2
      injection h2 with h2 h3
      subst h1
      subst h2
      subst h3
      have hall : ∀ y ∈ l, listed.getD y.k false = true := by
        intro y hy
        obtain ⟨o, ho, _⟩ := S.parts hy
        have hk := (Array.getElem?_eq_some_iff.1 ho).1
        by_cases hu : listed.getD y.k false = true
        · exact hu
        · have := unl_pos (listed := listed) hk (by simpa using hu)
          omega
      refine ⟨?_, g, D.hr, D.st, D.df, fun t => ?_, D.tn⟩
      · apply List.eq_nil_iff_forall_not_mem.2
        intro i hi
        obtain ⟨y, hy, rfl⟩ := ready_elem S D.size hi
        have := (ready_un D.size hi).1
        rw [hall y hy] at this
        cases this
      · rw [← D.agree t (fun z hz hzu => ?_) (fun z hz => by simp at hz)]
        · exact D.er t
        · have := hall z (by rw [D.full]; simp [hz])
          rw [hzu] at this
          cases this
    | cons y post ih =>
      intro pre listed e ê h a w g blk D hev hun
      have hyl : y ∈ l := by rw [D.full]; simp
      obtain ⟨o, ho, _⟩ := S.parts hyl
      have hk := (Array.getElem?_eq_some_iff.1 ho).1
      have hl : listed.getD y.k false = true := by
        by_cases hu : listed.getD y.k false = true
        · exact hu
        · have := unl_pos (listed := listed) hk (by simpa using hu)
          omega
      have hall : ∀ z ∈ l, z.kd = 4 → listed.getD z.k false = true := by
        intro z hz _
        obtain ⟨o', ho', _⟩ := S.parts hz
        have hk' := (Array.getElem?_eq_some_iff.1 ho').1
        by_cases hu : listed.getD z.k false = true
        · exact hu
        · have := unl_pos (listed := listed) hk' (by simpa using hu)
          omega
      rcases D.post1 y (by simp) hl with ⟨hk2, _⟩ | ⟨hk3, _⟩ | ⟨hk4, _⟩
      · obtain ⟨e1, ê1, h1, g1, D1, hev1⟩ := ghost S hKl D hl hk2 hev
        exact ih _ _ _ _ _ _ _ _ _ D1 hev1 hun
      · obtain ⟨e1, ê1, h1, g1, D1, hev1⟩ := ghost3 S hKl D hl hk3 hall hev
        exact ih _ _ _ _ _ _ _ _ _ D1 hev1 hun
      · obtain ⟨D1, hev1⟩ := ghost4 S D hl hk4 hev
        exact ih _ _ _ _ _ _ _ _ _ D1 hev1 hun
  | succ fuel IH =>
    intro post
    induction post with
    | nil =>
      intro pre listed e ê h a w g blk D hev hun
      have hev' := hev
      simp only [evd] at hev
      injection hev with hev
      injection hev with h1 h2
      injection h2 with h2 h3
      subst h1
      subst h2
      subst h3
      refine ⟨fun hnil => ⟨g, D.hr, D.st, D.df, fun t => ?_, D.tn⟩, fun i hi => ?_⟩
      · rw [← D.agree t (fun z hz hzu => ?_) (fun z hz => by simp at hz)]
        · exact D.er t
        · exfalso
          obtain ⟨q, _, hq⟩ := mem_pos D.full hz
          obtain ⟨i, hi⟩ := some_ready S D.size q z hq hzu
          rw [hnil] at hi
          cases hi
      · obtain ⟨y, hy, rfl⟩ := ready_elem S D.size hi
        have hyp : y ∈ pre := by rw [D.full] at hy; simpa using hy
        exact exec_pre S D hyp hi fun ê1 a1 w1 g1 D1 => IH _ _ _ _ _ _ _ _ _ _ D1 hev' (by have := unl_set D.size hi; omega)
    | cons y post ih =>
      intro pre listed e ê h a w g blk D hev hun
      have ahead : ∀ z ∈ y :: post, 2 ≤ z.kd → (z.kd = 2 → listed.getD z.k false = false) → z.k ∈ Region.ready .any ops listed → wpOp P ops (CPost B w0 g0 nt Kp dd e0 x e' h') z.k (wpAny P .any ops (CPost B w0 g0 nt Kp dd e0 x e' h') fuel (listed.setIfInBounds z.k true)) a w := by
        intro z hz hk _ hi
        have hzl : z ∈ l := by rw [D.full]; exact List.mem_append_right _ hz
        have h4 := S.kd_le hzl
        by_cases hk2 : z.kd = 2
        · exact exec_alloc S D hz hk2 hi fun blk1 ê1 a1 w1 g1 D1 => IH _ _ _ _ _ _ _ _ _ _ D1 hev (by have := unl_set D.size hi; omega)
        · by_cases hk3 : z.kd = 3
          · exact exec_map S D hz hk3 hi fun blk1 ê1 a1 w1 g1 D1 => IH _ _ _ _ _ _ _ _ _ _ D1 hev (by have := unl_set D.size hi; omega)
          · exact exec_ins S D hz (by omega) hi fun a1 w1 g1 D1 => IH _ _ _ _ _ _ _ _ _ _ D1 hev (by have := unl_set D.size hi; omega)
      by_cases hl : listed.getD y.k false = true
      · rcases D.post1 y (by simp) hl with ⟨hk2, _⟩ | ⟨hk3, _⟩ | ⟨hk4, _⟩
        · obtain ⟨e1, ê1, h1, g1, D1, hev1⟩ := ghost S hKl D hl hk2 hev
          exact ih _ _ _ _ _ _ _ _ _ D1 hev1 hun
        · by_cases hall : ∀ z ∈ l, z.kd = 4 → listed.getD z.k false = true
          · obtain ⟨e1, ê1, h1, g1, D1, hev1⟩ := ghost3 S hKl D hl hk3 hall hev
            exact ih _ _ _ _ _ _ _ _ _ D1 hev1 hun
          · obtain ⟨u, hu⟩ := Classical.not_forall.1 hall
            obtain ⟨hul, hu⟩ := Classical.not_imp.1 hu
            obtain ⟨hu4, huu⟩ := Classical.not_imp.1 hu
            have huu' : listed.getD u.k false = false := by simpa using huu
            refine ⟨fun hnil => ?_, fun i hi => ?_⟩
            · exfalso
              obtain ⟨q, hq⟩ := List.getElem?_of_mem hul
              obtain ⟨i, hi⟩ := some_ready S D.size q u hq huu'
              rw [hnil] at hi
              cases hi
            · obtain ⟨z, hz, rfl⟩ := ready_elem S D.size hi
              have hz' := hz
              rw [D.full] at hz'
              rcases List.mem_append.1 hz' with hzp | hzp
              · exact exec_pre S D hzp hi fun ê1 a1 w1 g1 D1 => IH _ _ _ _ _ _ _ _ _ _ D1 hev (by have := unl_set D.size hi; omega)
              · by_cases hk : 2 ≤ z.kd
                · exact ahead z hzp hk (fun _ => (ready_un D.size hi).1) hi
                · exfalso
                  rcases List.mem_cons.1 hzp with rfl | hzp
                  · omega
                  · obtain ⟨q, hq, hqz⟩ := tail_pos D.full hzp
                    have hM := S.pairM_at (head_pos D.full) hqz hq
                    simp only [pairM, Bool.and_eq_true, Bool.or_eq_true, bne_iff_ne, ne_eq, decide_eq_true_eq, List.all_eq_true] at hM
                    rcases hM.1.1.1 with (h1 | h1) | h1
                    · exact h1 hk3
                    · exact hk h1
                    · rcases h1 u hul with h2 | h2
                      · exact h2 hu4
                      · have := anc_ready D.closed (S.anc _ _ hqz _ h2) hi
                        rw [huu'] at this
                        cases this
        · obtain ⟨D1, hev1⟩ := ghost4 S D hl hk4 hev
          exact ih _ _ _ _ _ _ _ _ _ D1 hev1 hun
      · have hyu : listed.getD y.k false = false := by simpa using hl
        refine ⟨fun hnil => ?_, fun i hi => ?_⟩
        · exfalso
          obtain ⟨i, hi⟩ := some_ready S D.size _ y (head_pos D.full) hyu
          rw [hnil] at hi
          cases hi
        · obtain ⟨z, hz, rfl⟩ := ready_elem S D.size hi
          have hz' := hz
          rw [D.full] at hz'
          rcases List.mem_append.1 hz' with hzp | hzp
          · exact exec_pre S D hzp hi fun ê1 a1 w1 g1 D1 => IH _ _ _ _ _ _ _ _ _ _ D1 hev (by have := unl_set D.size hi; omega)
          · rcases List.mem_cons.1 hzp with rfl | hzp'
            · by_cases hk : z.kd ≤ 2
              · exact exec_head S hKl hok D hk hi hev fun e1 ê1 h1 a1 w1 g1 D1 hev1 => IH _ _ _ _ _ _ _ _ _ _ D1 hev1 (by have := unl_set D.size hi; omega)
              · exact ahead z hzp (by omega) (fun _ => (ready_un D.size hi).1) hi
            · by_cases hk2 : 2 ≤ z.kd
              · exact ahead z hzp hk2 (fun _ => (ready_un D.size hi).1) hi
              · obtain ⟨q, hq, hqz⟩ := tail_pos D.full hzp'
                have hp := head_pos D.full
                have hpair := S.pair _ q y z hp hqz hq
                simp only [pairD, Bool.and_eq_true] at hpair
                have h5 := hpair.1.2
                simp only [Bool.or_eq_true, beq_iff_eq, decide_eq_true_eq] at h5
                have hk0 : y.kd = 0 := by
                  rcases h5 with (h5 | h5) | h5
                  · exact h5
                  · exact absurd h5 hk2
                  · have := anc_ready D.closed (S.anc _ _ hqz _ h5) hi
                    rw [hyu] at this
                    cases this
                obtain ⟨e1, D1, hev1⟩ := delay S hKl D hk0 hev
                exact (ih _ _ _ _ _ _ _ _ _ D1 hev1 hun).2 _ hi

/-- A region whose order is open. -/
theorem dreg_wp {call : CallO} (hok : CallOk P call) (hKl : ∀ x ∈ l, ∀ q, x.i.d = some q → Kp q = false) (hc : chkD P nt ops l = true) (hm : P.follows .mixedOrders = true) {id : Nat} {x : AEx} {e' : Nat → AV} {h' : Hp}
    (hev : evd call l l e h = some (x, e', h')) (H : HR B h g w) (he : ER B w g e a) (hn : a.tmps.size = nt) (hd : a.defers = dd) : (Code.region id ops true).wp P (CPost B w g nt Kp dd e x e' h') a w := by
  have S := chkD_DS hc
  refine wp_region_any hm ?_
  have hg := Grew.drew w
  have hs := hg.step H.sz g
  have h0 : ∀ k, (Array.replicate ops.size false).getD k false = false := by
    intro k
    rw [Array.getD_eq_getD_getElem?, Array.getElem?_replicate]
    split <;> rfl
  refine draw_any S hKl hok ops.size l [] (Array.replicate ops.size false) e e h a w.drew g (fun _ => 0) ⟨rfl, by simp, (fun k o hk => (by rw [h0 k] at hk; cases hk)), (fun _ hx => (by simp at hx)), fun x _ hx => (by rw [h0] at hx; cases hx), fun x _ _ _ _ _ hx => (by rw [h0] at hx; cases hx), (fun _ hx => (by simp at hx)), fun _ _ _ => rfl, he.step hs, hn, hd, H.grew hg, hs, H.sz, fun _ _ => rfl⟩ hev ?_
  unfold unl
  exact Nat.le_trans List.countP_le_length (by simp)
end
end Go.Ab
