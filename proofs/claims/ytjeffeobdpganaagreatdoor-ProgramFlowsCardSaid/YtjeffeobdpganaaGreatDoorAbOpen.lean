/- The law's arguments, opened: what a reading through memory gives, as plain data and as the abstract machine's values. -/
import Derived.Test.YtjeffeobdpganaaGreatDoorAbFun
import Derived.ReadAgain
import Derived.RowKitTokens
import Derived.SizedLaws
set_option linter.unusedSimpArgs false
set_option linter.unusedVariables false
namespace Go.Ab

/-- Plain data: truth values, numbers, texts, lists, rows of fields. -/
inductive D where
  | b (b : Bool)
  | i (k : IntKind) (n : Int)
  | s (s : List UInt8)
  | l (es : List D)
  | a (fs : List D)
  deriving Inhabited

mutual
def D.cells : D → List AV
  | .b x => [.bool x]
  | .i k n => [.int k n]
  | .s x => [.str x]
  | .l es => [.vs false (D.cellsLL es)]
  | .a fs => D.cellsL fs
def D.cellsL : List D → List AV
  | [] => []
  | d :: q => D.cells d ++ D.cellsL q
def D.cellsLL : List D → List (List AV)
  | [] => []
  | d :: q => D.cells d :: D.cellsLL q
end
def D.val : D → AV
  | .b x => .bool x
  | .i k n => .int k n
  | .s x => .str x
  | .l es => .vs false (D.cellsLL es)
  | .a fs => .agg (D.cellsL fs)

theorem D.cellsLL_map : ∀ es : List D, D.cellsLL es = es.map D.cells
  | [] => rfl
  | d :: q => by simp [D.cellsLL, D.cellsLL_map q]
theorem D.cellsL_flat : ∀ es : List D, D.cellsL es = es.flatMap D.cells
  | [] => rfl
  | d :: q => by simp [D.cellsL, D.cellsL_flat q]

/-- Data of a type. -/
inductive HasTy (P : Program) : TypeId → D → Prop where
  | b (t : TypeId) (x : Bool) (h : P.underlying t = some .bool) : HasTy P t (.b x)
  | i (t : TypeId) (k : IntKind) (n : Int) (h : P.underlying t = some (.int k)) (hw : (Lit.int k n).wf = true) : HasTy P t (.i k n)
  | s (t : TypeId) (x : List UInt8) (h : P.underlying t = some .string) (hl : x.length ≤ reachBytes) : HasTy P t (.s x)
  | l (t e : TypeId) (es : List D) (h : P.underlying t = some (.slice e)) (hl : es.length * P.bytesOf e ≤ reachBytes) (he : ∀ d ∈ es, HasTy P e d) : HasTy P t (.l es)
  | a (t : TypeId) (fs : Array Field) (ds : List D) (h : P.underlying t = some (.struct fs)) (hl : ds.length = fs.toList.length)
      (he : ∀ (j : Nat) (f : Field) (d : D), fs.toList[j]? = some f → ds[j]? = some d → HasTy P f.type d) : HasTy P t (.a ds)
  | r (t e : TypeId) (n : Nat) (ds : List D) (h : P.underlying t = some (.array n e)) (hl : ds.length = n) (he : ∀ d ∈ ds, HasTy P e d) : HasTy P t (.a ds)

/-- Types of which plain data is. -/
def plainTys (P : Program) (ts : List TypeId) : Bool := ts.all fun t => match P.underlying t with
  | some .bool => true
  | some (.int _) => true
  | some .string => true
  | some (.slice e) => ts.contains e && decide (0 < P.cellsOf e)
  | some (.struct fs) => fs.toList.all fun f => ts.contains f.type
  | some (.array _ e) => ts.contains e
  | _ => false

section
variable {H : Type} {enc : TypeId × Value → H} {P : Program} {w : World} {g : Gh} {B : Nat} {ts : List TypeId}

theorem RL.flat {xss : List (List AV)} {vss : List (List Value)} (hl : xss.length = vss.length) (h : ∀ (i : Nat) (x : List AV) (v : List Value), xss[i]? = some x → vss[i]? = some v → RL B w g x v) : RL B w g xss.flatten vss.flatten := by
  induction xss generalizing vss with
  | nil => cases vss with
    | nil => exact RL.nil
    | cons _ _ => cases hl
  | cons x xss ih => cases vss with
    | nil => cases hl
    | cons v vss => exact (h 0 x v rfl rfl).append (ih (by simpa using hl) fun i a b ha hb => h (i + 1) a b ha hb)

theorem take_sum_flat {α β : Type} (len : β → Nat) : ∀ (fs : List β) (cs : List α), cs.length = (fs.map len).sum → cs = ((List.range fs.length).map fun j => (cs.drop ((fs.take j).map len).sum).take ((fs[j]?.map len).getD 0)).flatten := by
  intro fs
  induction fs with
  | nil => intro cs h; simp at h; simp [h]
  | cons f fs ih =>
    intro cs h
    simp only [List.map_cons, List.sum_cons] at h
    have h1 := ih (cs.drop (len f)) (by simp [h])
    rw [List.length_cons, List.range_succ_eq_map]
    simp only [List.map_cons, List.flatten_cons, List.map_map]
    conv => lhs; rw [← List.take_append_drop (len f) cs]
    congr 1
    conv => lhs; rw [h1]
    congr 1
    refine List.map_congr_left fun j hj => ?_
    simp only [Function.comp, List.take_succ_cons, List.map_cons, List.sum_cons, List.getElem?_cons_succ, List.drop_drop]

theorem mapM_get {α β : Type} {f : α → Option β} : ∀ {l : List α} {r : List β}, l.mapM f = some r → r.length = l.length ∧ ∀ (i : Nat) (x : α) (y : β), l[i]? = some x → r[i]? = some y → f x = some y := by
  intro l
  induction l with
  | nil => intro r h; simp at h; subst h; exact ⟨rfl, fun i x y hx => by simp at hx⟩
  | cons x xs ih =>
    intro r h
    rw [List.mapM_cons] at h
    cases hx : f x with
    | none => simp [hx] at h
    | some y =>
      cases hxs : xs.mapM f with
      | none => simp [hx, hxs] at h
      | some ys =>
        simp [hx, hxs] at h
        subst h
        obtain ⟨h1, h2⟩ := ih hxs
        refine ⟨by simp [h1], fun i a b ha hb => ?_⟩
        cases i with
        | zero => simp at ha hb; subst ha; subst hb; exact hx
        | succ i => simp at ha hb; exact h2 i a b ha hb

theorem choose_list {α β : Type} {p : α → β → Prop} : ∀ (l : List α), (∀ x ∈ l, ∃ y, p x y) → ∃ ys : List β, ys.length = l.length ∧ ∀ (i : Nat) (x : α) (y : β), l[i]? = some x → ys[i]? = some y → p x y
  | [], _ => ⟨[], rfl, fun i x y h => by simp at h⟩
  | a :: l, h => by
    obtain ⟨y, hy⟩ := h a (by simp)
    obtain ⟨ys, h1, h2⟩ := choose_list l fun x hx => h x (by simp [hx])
    refine ⟨y :: ys, by simp [h1], fun i u v hu hv => ?_⟩
    cases i with
    | zero => simp at hu hv; subst hu; subst hv; exact hy
    | succ i => simp at hu hv; exact h2 i u v hu hv

theorem cells?_get {base n : Nat} {a : Addr} {cs : List Value} (h : w.cells? base a n = some cs) : cs.length = n ∧ ∀ (i : Nat) (v : Value), cs[i]? = some v → w.cell? ⟨a.block, a.off + i, none⟩ = some v ∧ (a.add i).spot = none := by
  unfold World.cells? at h
  split at h
  · obtain ⟨h1, h2⟩ := mapM_get h
    refine ⟨by simpa using h1, fun i v hv => ?_⟩
    have hi : i < n := by
      have := (List.getElem?_eq_some_iff.1 hv).1
      simp at h1; omega
    have hc := h2 i i v (by simp [hi]) hv
    have hspot : (a.add i).spot = none := by
      cases hsp : (a.add i).spot with
      | none => rfl
      | some s =>
        simp only [World.cell?] at hc
        split at hc
        · simp [hsp] at hc
        · cases hc
    have e : a.add i = ⟨a.block, a.off + i, none⟩ := by
      unfold Addr.add at hspot ⊢
      split
      · rename_i h0
        subst h0
        rw [if_pos rfl] at hspot
        cases a
        simp_all
      · rfl
    rw [e] at hc
    exact ⟨hc, hspot⟩
  · cases h

theorem addr_add (a : Addr) (i j : Nat) : (a.add i).block = a.block ∧ (a.add i).off = a.off + i := by
  unfold Addr.add
  split
  · rename_i h; subst h; simp
  · simp

/-- What is known of a reading: data of the type, and the cells stand for it. -/
def Opened (P : Program) (B : Nat) (w : World) (g : Gh) (t : TypeId) (cs : List Value) (d : D) : Prop :=
  HasTy P t d ∧ RL B w g d.cells cs ∧ (∀ v ∈ cs, v.oneCell' = true) ∧ cs.length = P.cellsOf t

theorem plainTys_at (hp : plainTys P ts = true) {t : TypeId} (ht : t ∈ ts) : (match P.underlying t with
  | some .bool => true
  | some (.int _) => true
  | some .string => true
  | some (.slice e) => ts.contains e && decide (0 < P.cellsOf e)
  | some (.struct fs) => fs.toList.all fun f => ts.contains f.type
  | some (.array _ e) => ts.contains e
  | _ => false) = true := List.all_eq_true.1 hp t ht

theorem weightsAll_mem {e : TypeId} : ∀ {l : List (DataW H)} {d : DataW H}, d ∈ l → ∀ n ∈ d.weights P e, n ∈ DataW.weightsAll P e l
  | a :: l, d, h, n, hn => by
    rw [DataW.weightsAll, List.mem_append]
    rcases List.mem_cons.1 h with rfl | h
    · exact .inl hn
    · exact .inr (weightsAll_mem h n hn)

theorem trod_open (hl : laidOutB P = true) (hlt : ∀ t ∈ ts, t < P.types.size) (hp : plainTys P ts = true) (hg : ∀ k o, k < w.heap.size → g.pr k o)
    (hone : ∀ t ∈ ts, (match P.underlying t with | some .bool | some (.int _) | some .string | some (.slice _) => P.cellsOf t == 1 | _ => true) = true) :
    ∀ (n : Nat) (t : TypeId) (cs : List Value) (x : DataW H × List MemPlace), t ∈ ts → (x.1.weights P t).all (· ≤ reachBytes) = true → DataW.trod enc P w 0 (fun _ => true) true n t cs = some x → ∃ d, Opened P B w g t cs d := by
  intro n
  induction n with
  | zero => intro t cs x _ _ h; simp [DataW.trod] at h
  | succ n ih =>
    intro t cs x ht hw h
    have hk := plainTys_at hp ht
    have hc1 := hone t ht
    unfold DataW.trod at h
    split at h
    case h_1 b hu =>
      rw [hu] at hc1
      exact ⟨.b b, .b t b hu, RL.cons (.bool b) RL.nil, fun v hv => by simp at hv; subst hv; rfl, by simpa using (eq_comm.1 (beq_iff_eq.1 hc1))⟩
    case h_2 k k' m hu =>
      split at h
      · rename_i hc
        obtain ⟨rfl, hwf⟩ := hc
        rw [hu] at hc1
        exact ⟨.i _ m, .i t _ m hu hwf, RL.cons (.int _ m) RL.nil, fun v hv => by simp at hv; subst hv; rfl, by simpa using (eq_comm.1 (beq_iff_eq.1 hc1))⟩
      · cases h
    case h_3 k k' m hu => rw [hu] at hk; cases hk
    case h_4 s hu =>
      split at h
      · injection h with h
        subst h
        rw [hu] at hc1
        refine ⟨.s s.data.toList, .s t _ hu ?_, RL.cons ?_ RL.nil, fun v hv => by simp at hv; subst hv; rfl, by simpa using (eq_comm.1 (beq_iff_eq.1 hc1))⟩
        · simpa [DataW.weights] using hw
        · have : R B w g (.str s.data.toList) (.string ⟨s.data.toList.toArray⟩) := .str _
          simpa using this
      · cases h
    case h_5 hu => rw [hu] at hk; cases hk
    case h_6 hu => rw [hu] at hk; cases hk
    case h_7 e hu =>
      rw [hu] at hc1
      refine ⟨.l [], .l t e [] hu (by simp) (by simp), RL.cons ?_ RL.nil, fun v hv => by simp at hv; subst hv; rfl, by simpa using (eq_comm.1 (beq_iff_eq.1 hc1))⟩
      exact .vs false [] none 0 0 0 1 (fun _ _ => .nilFunc) (by simp) (by simp) (by simp) (by simp) (by simp) (by simp)
    case h_8 e a len cap hu =>
      simp only at h
      split at h
      · rename_i hc
        rw [hu] at hk
        simp only [Bool.and_eq_true, List.contains_iff_mem, decide_eq_true_eq] at hk
        obtain ⟨hke, hpos⟩ := hk
        simp only [Option.map_eq_some_iff, Option.bind_eq_some_iff] at h
        obtain ⟨elems, he, rest, hrest, rfl⟩ := h
        obtain ⟨hlen, hat⟩ := mapM_get he
        simp only [List.length_range] at hlen
        rw [hu] at hc1
        simp only [DataW.weights, hu, List.all_cons, List.all_append, Bool.and_eq_true, decide_eq_true_eq, List.length_map] at hw
        obtain ⟨hw1, hw2, _⟩ := hw
        have hel : ∀ (i : Nat), i < len → ∃ cd : List Value × D, w.cells? 0 (a.add (i * P.cellsOf e)) (P.cellsOf e) = some cd.1 ∧ Opened P B w g e cd.1 cd.2 := by
          intro i hi
          obtain ⟨y, hy⟩ : ∃ y, elems[i]? = some y := ⟨elems[i]'(by omega), List.getElem?_eq_getElem (by omega)⟩
          have := hat i i y (by simp [hi]) hy
          simp only [Option.bind_eq_some_iff] at this
          obtain ⟨cs', hcs', hy'⟩ := this
          obtain ⟨d, hd⟩ := ih e cs' y hke (List.all_eq_true.2 fun n hn => List.all_eq_true.1 hw2 n (weightsAll_mem (List.mem_map.2 ⟨y, List.mem_of_getElem? hy, rfl⟩) n hn)) hy'
          exact ⟨(cs', d), hcs', hd⟩
        obtain ⟨cds, hcl, hcd⟩ := choose_list (p := fun i (cd : List Value × D) => w.cells? 0 (a.add (i * P.cellsOf e)) (P.cellsOf e) = some cd.1 ∧ Opened P B w g e cd.1 cd.2) (List.range len) (fun i hi => hel i (by simpa using hi))
        rw [List.length_range] at hcl
        have hcd' : ∀ (i : Nat) (cd : List Value × D), cds[i]? = some cd → w.cells? 0 (a.add (i * P.cellsOf e)) (P.cellsOf e) = some cd.1 ∧ Opened P B w g e cd.1 cd.2 := by
          intro i cd hi
          refine hcd i i cd ?_ hi
          have hq := (List.getElem?_eq_some_iff.1 hi).1
          rw [List.getElem?_range (by omega)]
        refine ⟨.l (cds.map (·.2)), .l t e _ hu (by simp only [List.length_map]; exact Nat.le_trans (Nat.mul_le_mul_right _ (by omega)) hw1) ?_, RL.cons ?_ RL.nil, fun v hv => by simp at hv; subst hv; rfl, by simpa using (eq_comm.1 (beq_iff_eq.1 hc1))⟩
        · intro d hd
          obtain ⟨cd, hcd1, rfl⟩ := List.mem_map.1 hd
          obtain ⟨i, hi⟩ := List.getElem?_of_mem hcd1
          exact (hcd' i cd hi).2.1
        · have hgetc : ∀ (i : Nat) (c : List AV), (D.cellsLL (cds.map (·.2)))[i]? = some c → ∃ cd, cds[i]? = some cd ∧ c = cd.2.cells := by
            intro i c hi
            rw [D.cellsLL_map, List.map_map, List.getElem?_map] at hi
            obtain ⟨cd, h1, h2⟩ := Option.map_eq_some_iff.1 hi
            exact ⟨cd, h1, h2.symm⟩
          have hlenc : (D.cellsLL (cds.map (·.2))).length = len := by rw [D.cellsLL_map]; simp [hcl]
          have hcell : ∀ (i : Nat) (c : List AV) (j : Nat) (y : AV), (D.cellsLL (cds.map (·.2)))[i]? = some c → c[j]? = some y → ∃ v, ((cds[i]?).bind fun cd => cd.1[j]?) = some v ∧ w.cell? ⟨a.block, a.off + (i * P.cellsOf e + j), none⟩ = some v ∧ v.oneCell' = true ∧ R B w g y v := by
            intro i c j y hi hj
            obtain ⟨cd, h1, rfl⟩ := hgetc i c hi
            obtain ⟨h2, h3, h4, h5, h6⟩ := hcd' i cd h1
            have hjl : j < cd.1.length := by rw [← h4.len]; exact (List.getElem?_eq_some_iff.1 hj).1
            obtain ⟨v, hv⟩ : ∃ v, cd.1[j]? = some v := ⟨cd.1[j], List.getElem?_eq_getElem hjl⟩
            have h7 := (cells?_get h2).2 j v hv
            rw [(addr_add a (i * P.cellsOf e) 0).1, (addr_add a (i * P.cellsOf e) 0).2] at h7
            refine ⟨v, by rw [h1]; exact hv, ?_, h5 v (List.mem_of_getElem? hv), h4.at_ j y v hj hv⟩
            rw [← Nat.add_assoc]
            exact h7.1
          have hR := R.vs (B := B) (w := w) (g := g) false (D.cellsLL (cds.map (·.2))) (some a) cap a.block a.off (P.cellsOf e) (fun i j => (((cds[i]?).bind fun cd => cd.1[j]?)).getD .nilFunc)
            (by
              intro hne
              have h0 : 0 < len := by
                rcases Nat.eq_zero_or_pos len with h0 | h0
                · exact absurd (List.eq_nil_of_length_eq_zero (by omega)) hne
                · exact h0
              obtain ⟨cd, hcd0⟩ : ∃ cd, cds[0]? = some cd := ⟨cds[0]'(by omega), List.getElem?_eq_getElem (by omega)⟩
              obtain ⟨h2, _, _, _, h6⟩ := hcd' 0 cd hcd0
              have hsp := (cells?_get h2).2 0 (cd.1[0]'(by omega)) (List.getElem?_eq_getElem (by omega))
              have : a.spot = none := by
                have := hsp.2
                simpa [Addr.add] using this
              cases a
              simp_all)
            (by
              intro c hc
              obtain ⟨i, hi⟩ := List.getElem?_of_mem hc
              obtain ⟨cd, h1, rfl⟩ := hgetc i c hi
              obtain ⟨_, _, h4, _, h6⟩ := hcd' i cd h1
              rw [h4.len, h6])
            (by
              intro i c j y hi hj
              obtain ⟨v, h1, h2, h3, h4⟩ := hcell i c j y hi hj
              refine ⟨hg _ _ (World.block_lt_of_cell? w ⟨a.block, a.off + (i * P.cellsOf e + j), none⟩ h2), ?_, ?_⟩
              · rw [h1]; exact h2
              · rw [h1]; exact h3)
            (by
              intro i c j y hi hj
              obtain ⟨v, h1, h2, h3, h4⟩ := hcell i c j y hi hj
              rw [h1]; exact h4)
            (by rw [hlenc]; exact hc.2.1) (by intro hh; cases hh)
          rw [hlenc] at hR
          exact hR
      · cases h
    case h_9 cs0 _ _ fs hu =>
      split at h
      · rename_i hlen
        rw [hu] at hk
        simp only [List.all_eq_true, List.contains_iff_mem] at hk
        simp only [Option.map_eq_some_iff] at h
        obtain ⟨xs, hx, rfl⟩ := h
        obtain ⟨hxl, hxat⟩ := mapM_get hx
        obtain ⟨k1, k2, k3⟩ := kid_struct hl (hlt t ht) hu
        simp only [DataW.weights, hu] at hw
        have hel : ∀ j ∈ List.range fs.toList.length, ∃ d : D, ∀ f, fs.toList[j]? = some f → Opened P B w g f.type ((cs0.drop f.offset).take (P.cellsOf f.type)) d := by
          intro j hj
          have hj' : j < fs.toList.length := by simpa using hj
          obtain ⟨y, hy⟩ : ∃ y, xs[j]? = some y := ⟨xs[j]'(by omega), List.getElem?_eq_getElem (by omega)⟩
          have hf := List.getElem?_eq_getElem hj'
          have := hxat j _ y hf hy
          obtain ⟨d, hd⟩ := ih _ _ y (hk _ (List.mem_of_getElem? hf)) (List.all_eq_true.2 fun n hn => List.all_eq_true.1 hw n (DataW.weights_mem_each (j := j) (t := (fs.toList[j]).type) (d := y.1) (by rw [List.getElem?_map, hf]; rfl) (by rw [List.getElem?_map, hy]; rfl) n hn)) this
          refine ⟨d, fun f hf' => ?_⟩
          rw [hf] at hf'
          injection hf' with hf'
          subst hf'
          exact hd
        obtain ⟨ds, hdl, hd⟩ := choose_list _ hel
        simp only [List.length_range] at hdl
        have hd' : ∀ (j : Nat) (f : Field) (d : D), fs.toList[j]? = some f → ds[j]? = some d → Opened P B w g f.type ((cs0.drop f.offset).take (P.cellsOf f.type)) d := by
          intro j f d hf hds
          exact hd j j d (List.getElem?_range (List.getElem?_eq_some_iff.1 hf).1) hds f hf
        have hcs := take_sum_flat (fun f : Field => P.cellsOf f.type) fs.toList cs0 (hlen.trans k2)
        refine ⟨.a ds, .a t fs ds hu hdl (fun j f d hf hds => (hd' j f d hf hds).1), ?_, ?_, hlen⟩
        · show RL B w g (D.cellsL ds) cs0
          rw [hcs, D.cellsL_flat, List.flatMap]
          refine RL.flat (by simp [hdl]) fun i x v hx hv => ?_
          rw [List.getElem?_map] at hx hv
          obtain ⟨d, h1, rfl⟩ := Option.map_eq_some_iff.1 hx
          obtain ⟨j, h2, rfl⟩ := Option.map_eq_some_iff.1 hv
          have hi : i < fs.toList.length := by rw [← hdl]; exact (List.getElem?_eq_some_iff.1 h1).1
          rw [List.getElem?_range hi] at h2
          injection h2 with h2
          subst h2
          have hf := List.getElem?_eq_getElem hi
          have := (hd' i _ d hf h1).2.1
          rw [k3 i _ hf] at this
          simpa [hf] using this
        · intro v hv
          rw [hcs] at hv
          obtain ⟨l, hl1, hl2⟩ := List.mem_flatten.1 hv
          obtain ⟨i, h2, rfl⟩ := List.mem_map.1 hl1
          have hi : i < fs.toList.length := by simpa using h2
          have hf := List.getElem?_eq_getElem hi
          obtain ⟨d, h1⟩ : ∃ d, ds[i]? = some d := ⟨ds[i]'(by omega), List.getElem?_eq_getElem (by omega)⟩
          have := (hd' i _ d hf h1).2.2.1
          rw [k3 i _ hf] at this
          exact this v (by simpa [hf] using hl2)
      · cases h
    case h_10 cs0 _ _ m e hu =>
      split at h
      · rename_i hlen
        rw [hu] at hk
        simp only [List.contains_iff_mem] at hk
        simp only [Option.map_eq_some_iff] at h
        obtain ⟨xs, hx, rfl⟩ := h
        obtain ⟨hxl, hxat⟩ := mapM_get hx
        simp only [List.length_range] at hxl
        obtain ⟨k1, k2⟩ := kid_array hl (hlt t ht) hu
        simp only [DataW.weights, hu] at hw
        have hel : ∀ j ∈ List.range m, ∃ d : D, Opened P B w g e ((cs0.drop (j * P.cellsOf e)).take (P.cellsOf e)) d := by
          intro j hj
          have hj' : j < m := by simpa using hj
          obtain ⟨y, hy⟩ : ∃ y, xs[j]? = some y := ⟨xs[j]'(by omega), List.getElem?_eq_getElem (by omega)⟩
          have := hxat j j y (by simp [hj']) hy
          exact ih _ _ y hk (List.all_eq_true.2 fun n hn => List.all_eq_true.1 hw n (weightsAll_mem (List.mem_map.2 ⟨y, List.mem_of_getElem? hy, rfl⟩) n hn)) this
        obtain ⟨ds, hdl, hd⟩ := choose_list _ hel
        simp only [List.length_range] at hdl
        have hd' : ∀ (j : Nat) (d : D), ds[j]? = some d → Opened P B w g e ((cs0.drop (j * P.cellsOf e)).take (P.cellsOf e)) d := by
          intro j d hds
          have hq := (List.getElem?_eq_some_iff.1 hds).1
          exact hd j j d (List.getElem?_range (by omega)) hds
        have hsum : ∀ q, ((List.replicate q ()).map fun _ => P.cellsOf e).sum = q * P.cellsOf e := by
          intro q
          induction q with
          | zero => simp
          | succ q ih => rw [List.replicate_succ, List.map_cons, List.sum_cons, ih, Nat.succ_mul, Nat.add_comm]
        have hcs := take_sum_flat (fun _ : Unit => P.cellsOf e) (List.replicate m ()) cs0 (by rw [hsum]; omega)
        have hpart : ∀ i, i < m → (cs0.drop (((List.replicate m ()).take i).map fun _ => P.cellsOf e).sum).take ((((List.replicate m ())[i]?).map fun _ => P.cellsOf e).getD 0) = (cs0.drop (i * P.cellsOf e)).take (P.cellsOf e) := by
          intro i hi
          rw [List.take_replicate, Nat.min_eq_left (by omega), hsum, List.getElem?_replicate, if_pos hi]
          rfl
        refine ⟨.a ds, .r t e m ds hu hdl (fun d hds => ?_), ?_, ?_, hlen⟩
        · obtain ⟨j, hj⟩ := List.getElem?_of_mem hds
          exact (hd' j d hj).1
        · show RL B w g (D.cellsL ds) cs0
          rw [hcs, D.cellsL_flat, List.flatMap]
          refine RL.flat (by simp [hdl]) fun i x v hx hv => ?_
          rw [List.getElem?_map] at hx hv
          obtain ⟨d, h1, rfl⟩ := Option.map_eq_some_iff.1 hx
          obtain ⟨j, h2, rfl⟩ := Option.map_eq_some_iff.1 hv
          have hi : i < m := by rw [← hdl]; exact (List.getElem?_eq_some_iff.1 h1).1
          rw [List.getElem?_range (by simpa using hi)] at h2
          injection h2 with h2
          subst h2
          rw [hpart i hi]
          exact (hd' i d h1).2.1
        · intro v hv
          rw [hcs] at hv
          obtain ⟨l, hl1, hl2⟩ := List.mem_flatten.1 hv
          obtain ⟨i, h2, rfl⟩ := List.mem_map.1 hl1
          have hi : i < m := by simpa using h2
          obtain ⟨d, h1⟩ : ∃ d, ds[i]? = some d := ⟨ds[i]'(by omega), List.getElem?_eq_getElem (by omega)⟩
          rw [hpart i hi] at hl2
          exact (hd' i d h1).2.2.1 v hl2
      · cases h
    all_goals (rename_i hu; first | (rw [hu] at hk; cases hk; done) | (cases h; done) | skip)

theorem val_cell {d : D} (h : ∀ fs, d ≠ .a fs) : d.cells = [d.val] := by
  cases d <;> first | rfl | exact absurd rfl (h _)

theorem trodAll_open {r : Reach} {base : Nat} (hl : laidOutB P = true) (hlt : ∀ t ∈ ts, t < P.types.size) (hp : plainTys P ts = true) (hg : ∀ k o, k < w.heap.size → g.pr k o)
    (hone : ∀ t ∈ ts, (match P.underlying t with | some .bool | some (.int _) | some .string | some (.slice _) => P.cellsOf t == 1 | _ => true) = true) :
    ∀ (us : List TypeId) (vs : List Value) (ds : List (DataW H)) (ps : List MemPlace), (∀ t ∈ us, t ∈ ts) → (∀ (j : Nat) t v, us[j]? = some t → vs[j]? = some v → Value.okWide P w r base t v) →
      (DataW.weightsEach P us ds).all (· ≤ reachBytes) = true → DataW.TrodAll enc P w 0 (fun _ => true) true us vs ds ps →
      ∃ Ds : List D, Ds.length = us.length ∧ (∀ (j : Nat) t d, us[j]? = some t → Ds[j]? = some d → HasTy P t d) ∧ RL B w g (Ds.map D.val) vs
  | [], [], [], _, _, _, _, _ => ⟨[], rfl, fun j t d h => by simp at h, RL.nil⟩
  | t :: us, v :: vs, d :: ds, _, hin, hok, hw, ⟨p, q, ⟨n, h1⟩, h2, _⟩ => by
    simp only [DataW.weightsEach, List.all_append, Bool.and_eq_true] at hw
    obtain ⟨Ds, e1, e2, e3⟩ := trodAll_open hl hlt hp hg hone us vs ds q (fun t ht => hin t (by simp [ht])) (fun j t v ht hv => hok (j + 1) t v (by simpa using ht) (by simpa using hv)) hw.2 h2
    obtain ⟨x, hty, hr, hc, hlen⟩ := trod_open (g := g) (B := B) hl hlt hp hg hone n t v.cells.toList (d, p) (hin t (by simp)) hw.1 h1
    have hv := hok 0 t v rfl rfl
    refine ⟨x :: Ds, by simp [e1], fun j t' d' ht hd => ?_, ?_⟩
    · cases j with
      | zero => simp at ht hd; subst ht; subst hd; exact hty
      | succ j => simp at ht hd; exact e2 j t' d' ht hd
    · refine RL.cons ?_ e3
      have scal : (∀ fs, x ≠ .a fs) → (∀ cs, v ≠ .agg cs) → R B w g x.val v := by
        intro hx hv
        rw [val_cell hx] at hr
        have hvc : v.cells.toList = [v] := by
          cases v <;> first | rfl | exact absurd rfl (hv _)
        rw [hvc] at hr
        exact hr.at_ 0 _ _ rfl rfl
      unfold Value.okWide at hv
      cases hty with
      | b _ y hu => rw [hu] at hv; exact scal (fun _ => nofun) (fun cs hh => by subst hh; simp [Cell.okWide, Cell.ok, hu] at hv)
      | i _ k m hu hwf => rw [hu] at hv; exact scal (fun _ => nofun) (fun cs hh => by subst hh; simp [Cell.okWide, Cell.ok, hu] at hv)
      | s _ y hu _ => rw [hu] at hv; exact scal (fun _ => nofun) (fun cs hh => by subst hh; simp [Cell.okWide, Cell.ok, hu] at hv)
      | l _ e es hu _ _ => rw [hu] at hv; exact scal (fun _ => nofun) (fun cs hh => by subst hh; simp [Cell.okWide, Cell.ok, hu] at hv)
      | a _ fs es hu _ _ =>
        rw [hu] at hv
        obtain ⟨cs, rfl, _, _⟩ := hv
        have := R.agg (B := B) (w := w) (g := g) (D.cellsL es) cs.toList hr.len hr.at_ hc
        show R B w g (.agg (D.cellsL es)) (.agg cs)
        simpa using this
      | r _ e m es hu _ _ =>
        rw [hu] at hv
        obtain ⟨cs, rfl, _, _⟩ := hv
        have := R.agg (B := B) (w := w) (g := g) (D.cellsL es) cs.toList hr.len hr.at_ hc
        show R B w g (.agg (D.cellsL es)) (.agg cs)
        simpa using this

/-- The world as it is entered. -/
def g0 (w : World) : Gh := ⟨[], [], fun k _ => k < w.heap.size⟩
theorem HR.start (w : World) : HR w.heap.size ⟨[], []⟩ (g0 w) w :=
  ⟨rfl, rfl, fun b x k h => by simp at h, fun a A G h => by simp at h, List.nodup_nil, fun k h => by simp [g0] at h, fun k h => by simp [g0] at h, fun k o h => h, Nat.le_refl _⟩
end
end Go.Ab
