/- slices.Clone, and functions of the library that have no body: contracts by hand. -/
import Derived.Test.YtjeffeobdpganaaGreatDoorAbFun
import Derived.Laws.Externs
set_option linter.unusedSimpArgs false
set_option linter.unusedVariables false
namespace Go.Ab
open Go.RowKit (Below)
section
variable {P : Program} {B : Nat} {w : World} {g : Gh} {h : Hp}

/-- The text of slices.Clone over elements of one type. -/
def cloneChk (P : Program) (fn : Func) (T E esz bytes : Nat) : Bool :=
  fn.ntmps == 8 && chkR P fn.results.toList [.tmp 2] && fn.name != "runtime.NumGoroutine" &&
  (match P.underlying T with
    | some (.slice e) => e == E && (match P.info? E with
      | some i => i.size == esz
      | none => false)
    | _ => false) &&
  (match fn.body with
    | some (.seq (.region _ r0 false) (.seq (.seq (.region _ r1 false) (.cond (.tmp c) (.seq (.region _ r2 false) .ret) .skip)) (.seq (.region _ r3 false) .ret))) =>
      c == 4 && chkIs P 8 r0 r0.toList [⟨some 2, none, .mov (.c (.vs true []))⟩] && chkIs P 8 r2 r2.toList [⟨some 2, none, .mov (.c (.vs true []))⟩] &&
      (match r1.toList with
        | [o1, o2] => chkI P 8 r1 o1 ⟨some 3, none, .mov (.t 0)⟩ && o2.dst == some 4 && o2.guard.isNone && (match o2.op with
          | .binOp .eql t (.tmp x) (.const (.slice none 0 0)) _ => t == T && x == 3
          | _ => false)
        | _ => false) &&
      (match r3.toList with
        | o1 :: os => o1.dst == some 5 && o1.guard.isNone && (match o1.op with
          | .buildSlice t 0 ps => t == T && ps.isEmpty
          | _ => false) && chkIs P 8 r3 os [⟨some 6, none, .mov (.t 0)⟩, ⟨some 7, none, .app E esz bytes (.t 5) (.t 6)⟩, ⟨some 2, none, .mov (.t 7)⟩]
        | [] => false)
    | _ => false)

/-- What it does. -/
def clonePrim (E esz bytes : Nat) : List AV → Hp → Option (AEnd × Hp)
  | [x], h => (els h x).bind fun es => if es.isEmpty then some (.ret (.vs false []), h)
      else (appE (h.pa ⟨E, esz, bytes, 0, [], false⟩) E esz bytes (.rs h.na 0 0 0) es).map fun r => (.ret r.1, r.2)
  | _, _ => none

theorem elsv (H : HR B h g w) {x : AV} {v : Value} (hx : R B w g x v) {es : List (List AV)} (he : els h x = some es) : ∃ ad n cap, v = .slice ad n cap ∧ (es ≠ [] → ad.isSome = true) ∧ n = es.length := by
  cases hx with
  | vs full es' ad cap k p esz f had hsz hc hr hcap hfull =>
    simp only [els] at he
    injection he with he
    subst he
    exact ⟨_, _, _, rfl, fun hne => by rw [had hne]; rfl, rfl⟩
  | rs a ver lo n G ad cap hg hv had =>
    simp only [els] at he
    split at he
    · rename_i A hA
      obtain ⟨⟨hver, hle⟩, he⟩ := ite_opt he
      injection he with he
      obtain ⟨e1, _⟩ := H.arr a A G hA hg
      obtain ⟨a1, _⟩ := had (by omega)
      subst a1
      refine ⟨_, _, _, rfl, fun _ => rfl, ?_⟩
      rw [← he]; simp; omega
    · cases he
  | _ => simp [els] at he

/-- A region whose operations are listed, one ahead of the others. -/
theorem wp_first {ops : Array Oper} {o : Oper} {os : List Oper} {Q : Exit → Act → World → Prop} {a : Act} (hg : o.guard = none) {val : Value} {w' : World} (hrun : (execOp a.eval o).run P w = .ok (.value val) w')
    (hk : wpList P ops Q os (a.put o.dst val) w') : wpList P ops Q (o :: os) a w := by
  unfold wpList
  have : Region.wanted o (yielded ops a.tmps) = true := by unfold Region.wanted; rw [hg]
  rw [if_pos this]
  refine .inl ?_
  unfold Oper.wp
  rw [hrun, Oper.upon_value]
  exact hk

theorem op_wp1 {call : CallO} (hok : CallOk P call) {nt : Nat} {ops : Array Oper} {o : Oper} {i : MI} {os : List Oper} {Q : Exit → Act → World → Prop} {e : Nat → AV} {a : Act} (hci : chkI P nt ops o i = true) (hgi : i.g = none) (H : HR B h g w) (he : ER B w g e a) (hn : a.tmps.size = nt)
    {v : AV} {h' : Hp} (hev : opv call (Opd.ev e) h i.op = some (.ret v, h')) (hK : ∀ a' w' g', HR B h' g' w' → Step B w g w' g' → ER B w' g' (puts e i.d v) a' → a'.tmps.size = nt → a'.defers = a.defers → (∀ d, i.d ≠ some d → a'.tmps.getD d undef = a.tmps.getD d undef) → wpList P ops Q os a' w') : wpList P ops Q (o :: os) a w := by
  obtain ⟨hdst, hlt, hg, hm⟩ := chkI_parts hci
  unfold wpList
  rw [wanted_grd hg he hn, hgi, if_pos (show grd none e = true from rfl)]
  refine .inl (opv_wp hok hm H he hev (fun v' val w' g' hr hR hH hS => ?_) (fun v' val w' g' hr => by cases hr))
  injection hr with hr
  subst hr
  rw [hdst]
  rw [hdst] at hlt
  obtain ⟨p1, p2, p3⟩ := (he.step hS).put hn hlt hR
  exact hK _ _ _ hH hS p1 p2 p3 fun d hd => put_other_tmp hd

theorem empty_arr (H : HR B h g w) {E esz bytes : Nat} : HR B (h.pa ⟨E, esz, bytes, 0, [], false⟩) (g.na ⟨w.heap.size, 0, 0, esz⟩) (w.alloc (.cells #[] E)) ∧ Step B w g (w.alloc (.cells #[] E)) (g.na ⟨w.heap.size, 0, 0, esz⟩) ∧
    R B (w.alloc (.cells #[] E)) (g.na ⟨w.heap.size, 0, 0, esz⟩) (.rs h.na 0 0 0) (.slice (some ⟨w.heap.size, 0, none⟩) 0 0) := by
  have hs := step_na (w := w) H (.cells #[] E) ⟨w.heap.size, 0, 0, esz⟩ rfl
  refine ⟨H.new_arr _ rfl ⟨rfl, rfl, by simp, by simp [maxLen], by simp, [], (0, 0), heap_alloc_new w _, fun _ => rfl, by simp, by simp⟩, hs, ?_⟩
  refine .rs _ _ _ _ ⟨w.heap.size, 0, 0, esz⟩ _ _ ?_ (Nat.le_refl _) (fun _ => ⟨by simp, by simp, Nat.le_refl _⟩)
  simp only [Gh.na, Hp.na]
  rw [List.getElem?_append_right (by rw [H.la]; exact Nat.le_refl _)]
  simp [H.la]

theorem eqIn_slice' (D : Nat) {t e : TypeId} (hu : P.underlying t = some (.slice e)) (a : Option Addr) (n c : Nat) : (Op.equalIn (D + 1) t (.slice a n c) (.slice none 0 0)).run P w = .ok a.isNone w := by
  cases a <;> simp [Op.equalIn, run_underlying hu]
theorem eqIn_slice {t e : TypeId} (hu : P.underlying t = some (.slice e)) (a : Option Addr) (n c : Nat) : (Op.equal t (.slice a n c) (.slice none 0 0)).run P w = .ok a.isNone w := eqIn_slice' 9999 hu a n c
theorem slnil {t e : TypeId} (hu : P.underlying t = some (.slice e)) (a : Option Addr) (n c : Nat) (xo yo : Operand) :
    (do eqGuard .eql t xo yo (.slice a n c) (.slice none 0 0); binOp .eql t (.slice a n c) (.slice none 0 0) : Sem Value).run P w = .ok (.bool a.isNone) w := by
  have hguard : (eqGuard .eql t xo yo (.slice a n c) (.slice none 0 0)).run P w = .ok () w := by simp [eqGuard]
  have hbin : binOp .eql t (.slice a n c) (.slice none 0 0) = (do pure (.bool (← Op.equal t (.slice a n c) (.slice none 0 0)))) := rfl
  rw [Sem.run_bind, hguard, Result.andThen_ok, hbin]
  simp [eqIn_slice hu]
theorem els_pa {h : Hp} {x : AV} {es : List (List AV)} (he : els h x = some es) (A : Arr) : els (h.pa A) x = some es := by
  cases x <;> simp only [els] at he ⊢ <;> try exact he
  rename_i a ver lo n
  split at he
  · rename_i A' hA
    have : (h.pa A).ar[a]? = some A' := by
      simp only [Hp.pa]
      rw [List.getElem?_append_left (List.getElem?_eq_some_iff.1 hA).1]
      exact hA
    rw [this]
    exact he
  · cases he

theorem empty_run {t e : TypeId} {n : Nat} (hu : P.underlying t = some (.slice e)) (hsz : szT P e = some n) (w : World) : (Instr.buildSlice t 0 #[]).run P w = .ok (.slice (some ⟨w.heap.size, 0, none⟩) 0 0) (w.alloc (.cells #[] e)) := by
  have h0 : ¬ (0 : Nat) > 2 ^ 24 := by omega
  simp only [Instr.buildSlice, Sem.run_bind, run_underlying hu, Result.andThen_ok, szT_run hsz, Nat.zero_mul, h0, if_false, if_true, Sem.run_pure]
  have hr0 : Array.range 0 = #[] := by simp
  rw [hr0, Array.map_empty]
  rfl
theorem clone_ok {f : FuncId} {fn : Func} (hfn : P.funcs[f]? = some fn) {T E esz bytes : Nat} (hc : cloneChk P fn T E esz bytes = true) {args : List AV} {r : AEnd} {h' : Hp} (hp : clonePrim E esz bytes args h = some (r, h'))
    {vals : List Value} (hr : RL B w g args vals) (H : HR B h g w) : Does P f vals w (Post B w g r h') := by
  simp only [cloneChk, Bool.and_eq_true, beq_iff_eq, bne_iff_ne, ne_eq] at hc
  obtain ⟨⟨⟨⟨hnt, hres⟩, hnm⟩, hT⟩, hbody⟩ := hc
  split at hT
  case h_2 => cases hT
  rename_i e' hu
  simp only [Bool.and_eq_true, beq_iff_eq] at hT
  obtain ⟨rfl, hT⟩ := hT
  split at hT
  case h_2 => cases hT
  rename_i i hi
  have hsz : szT P e' = some esz := by
    simp at hT
    unfold szT
    rw [hi]
    simp [hT]
  split at hbody
  case h_2 => cases hbody
  rename_i i0 r0 i1 r1 c i2 r2 i3 r3 hcb
  simp only [Bool.and_eq_true, beq_iff_eq] at hbody
  obtain ⟨⟨⟨⟨rfl, h0⟩, h2⟩, h1⟩, h3⟩ := hbody
  split at h1
  case h_2 => cases h1
  rename_i o1 o2 hr1
  simp only [Bool.and_eq_true, beq_iff_eq, Option.isNone_iff_eq_none] at h1
  obtain ⟨⟨⟨h11, h12⟩, h13⟩, h14⟩ := h1
  split at h14
  case h_2 => cases h14
  rename_i t x ty hop2
  simp only [Bool.and_eq_true, beq_iff_eq] at h14
  obtain ⟨rfl, rfl⟩ := h14
  split at h3
  case h_2 => cases h3
  rename_i o3 os3 hr3
  simp only [Bool.and_eq_true, beq_iff_eq, Option.isNone_iff_eq_none] at h3
  obtain ⟨⟨⟨h31, h32⟩, h33⟩, h34⟩ := h3
  split at h33
  case h_2 => cases h33
  rename_i t ps hop3
  simp only [Bool.and_eq_true, beq_iff_eq, Array.isEmpty_iff] at h33
  obtain ⟨rfl, rfl⟩ := h33
  -- the arguments
  obtain ⟨x, rfl⟩ : ∃ x, args = [x] := by
    unfold clonePrim at hp
    split at hp
    · exact ⟨_, rfl⟩
    · cases hp
  simp only [clonePrim] at hp
  obtain ⟨es, hes, hp⟩ := Option.bind_eq_some_iff.1 hp
  obtain ⟨v, rfl⟩ : ∃ v, vals = [v] := by
    have := hr.len
    exact List.length_eq_one_iff.1 (by simpa using this.symm)
  have hxv : R B w g x v := hr.at_ 0 _ _ rfl rfl
  obtain ⟨ad, n, cap, rfl, hsome, hn⟩ := elsv H hxv hes
  have hok : CallOk P (fun _ _ _ => none) := fun _ _ _ _ _ h => by cases h
  refine .inl ⟨fn, hfn, hnm, by rw [hcb]; rfl, calls_of_wp hfn hcb ?_⟩
  -- the end
  have hE0 := env0_ER (B := B) (w := w) (g := g) hr (fn.ntmps - 1)
  have hsz0 : (([Value.slice ad n cap] : List Value).toArray ++ Array.replicate (fn.ntmps - 1) undef).size = 8 := by simp [hnt]
  refine wp_seq (wp_region_list (ops_wp (K := fun _ => false) (dd := []) hok _ _ _ _ _ _ _ .norm (upd (env0 [x]) 2 (.vs true [])) h h0 rfl (fun _ _ _ _ => rfl) H hE0 hsz0 rfl fun ex a1 w1 hp1 => ?_))
  obtain ⟨g1, H1, S1, D1, p4⟩ := hp1
  cases ex <;> simp only at p4
  obtain ⟨E1, N1⟩ := p4
  refine wp_seq (wp_seq (wp_region_list ?_))
  rw [hr1]
  refine op_wp1 hok h11 rfl H1 E1 N1 (v := x) (h' := h) rfl fun a2 w2 g2 H2 S2 E2 N2 D2 T2 => ?_
  obtain ⟨ad, n, cap, hv3, hsome, hn⟩ := elsv H2 (E2 3 : R B w2 g2 x (a2.tmps.getD 3 undef)) hes
  have hv3' : a2.eval (.tmp 3) = .slice ad n cap := hv3
  have hrun : (execOp a2.eval o2).run P w2 = .ok (.value (.bool ad.isNone)) w2 := by
    unfold execOp
    rw [hop2]
    have := slnil (P := P) (w := w2) hu ad n cap (.tmp 3) (.const (.slice none 0 0))
    dsimp only
    rw [Sem.run_bind, show a2.eval (.const (.slice none 0 0)) = .slice none 0 0 from rfl, hv3', this]
    rfl
  obtain ⟨E3, N3, D3⟩ := E2.put (d := some 4) N2 (fun t ht => by injection ht with ht; omega) (.bool ad.isNone)
  refine wp_first h13 hrun (wpList_nil ?_)
  rw [h12]
  have S12 := S1.trans S2
  refine wp_cond_split (t := ad.isNone) (put_same_tmp (by omega)) (fun hnil => ?_) (fun hnn => ?_)
  · have hes0 : es = [] := by
      by_cases he : es = []
      · exact he
      · have := hsome he
        cases ad <;> simp_all
    subst hes0
    simp only [List.isEmpty_nil, if_true] at hp
    injection hp with hp
    injection hp with hp1 hp2
    refine wp_seq (wp_region_list (ops_wp (K := fun _ => false) (dd := []) hok _ _ _ _ _ _ _ .norm _ h h2 rfl (fun _ _ _ _ => rfl) H2 E3 N3 (D3.trans (D2.trans D1)) fun ex a4 w4 hp4 => ?_))
    obtain ⟨g4, H4, S4, D4, q4⟩ := hp4
    cases ex <;> simp only at q4
    refine wp_ret ?_
    obtain ⟨val, hrun, hR⟩ := results_run (e := upd (env0 [x]) 2 (.vs false [])) (xs := [.vs false []]) H4 (fun t ht => by
      simp [rreads] at ht
      subst ht
      have := q4.1 2
      simp only [upd, puts, if_true] at this ⊢
      generalize a4.tmps.getD 2 undef = vv at this
      cases this with
      | vs full es' ad cap k p esz f had hsz hc hr hcap hfull => exact .vs false [] ad cap k p esz f had hsz hc hr hcap (by simp)) hres (by simp [resV, upd])
    exact ⟨D4, val, hrun, .vs false [], g4, hp1.symm, hR, hp2 ▸ H4, S12.trans S4⟩
  · refine wp_skip ?_
    refine wp_seq (wp_region_list ?_)
    rw [hr3]
    have hrun3 : ∀ a : Act, (execOp a.eval o3).run P w2 = .ok (.value (.slice (some ⟨w2.heap.size, 0, none⟩) 0 0)) (w2.alloc (.cells #[] e')) := by
      intro a
      unfold execOp
      rw [hop3]
      simp only [Array.map_empty, Sem.run_bind, empty_run hu hsz, Result.andThen_ok, Sem.run_pure]
    refine wp_first h32 (hrun3 _) ?_
    rw [h31]
    have hG := Grew.alloc w2 (.cells #[] e')
    by_cases he : es = []
    · subst he
      simp only [List.isEmpty_nil, if_true] at hp
      injection hp with hp
      injection hp with hp1 hp2
      have S3 := hG.step H2.sz g2
      obtain ⟨E4, N4, D4⟩ := (E3.step S3).put (d := some 5) N3 (fun t ht => by injection ht with ht; omega) (v := .vs false []) (val := .slice (some ⟨w2.heap.size, 0, none⟩) 0 0)
        (.vs false [] _ 0 0 0 0 (fun _ _ => default) (by simp) (by simp) (by simp) (by simp) (by simp) (by simp))
      refine ops_wp (K := fun _ => false) (dd := []) hok _ _ _ _ _ _ _ .norm (upd (upd (upd (puts (puts (puts (upd (env0 [x]) 2 (.vs true [])) (some 3) x) (some 4) (.bool ad.isNone)) (some 5) (.vs false [])) 6 x) 7 (.vs false [])) 2 (.vs false [])) h h34 ?_ (fun _ _ _ _ => rfl) (H2.grew hG) E4 N4 (D4.trans (D3.trans (D2.trans D1))) fun ex a5 w5 hp5 => ?_
      · simp [evops, stp, grd, opv, evop, Opd.ev, back, puts, upd, hes, appE, env0]
      · obtain ⟨g5, H5, S5, D5, q5⟩ := hp5
        cases ex <;> simp only at q5
        refine wp_ret ?_
        obtain ⟨val, hrun, hR⟩ := results_run (xs := [.vs false []]) H5 (fun t _ => q5.1 t) hres (by simp [resV, upd])
        exact ⟨D5, val, hrun, .vs false [], g5, hp1.symm, hR, hp2 ▸ H5, (S12.trans S3).trans S5⟩
    · rw [if_neg (by simpa using he)] at hp
      obtain ⟨⟨r1, h1⟩, happ, hp⟩ := Option.map_eq_some_iff.1 hp
      injection hp with hp1 hp2
      obtain ⟨H3, S3, R3⟩ := empty_arr (B := B) H2 (E := e') (esz := esz) (bytes := bytes)
      obtain ⟨E4, N4, D4⟩ := (E3.step S3).put (d := some 5) N3 (fun t ht => by injection ht with ht; omega) R3
      refine ops_wp (K := fun _ => false) (dd := []) hok _ _ _ _ _ _ _ .norm (upd (upd (upd (puts (puts (puts (upd (env0 [x]) 2 (.vs true [])) (some 3) x) (some 4) (.bool ad.isNone)) (some 5) (.rs h.na 0 0 0)) 6 x) 7 r1) 2 r1) h1 h34 ?_ (fun _ _ _ _ => rfl) H3 E4 N4 (D4.trans (D3.trans (D2.trans D1))) fun ex a5 w5 hp5 => ?_
      · simp [evops, stp, grd, opv, evop, Opd.ev, back, puts, upd, els_pa hes, happ, env0]
      · obtain ⟨g5, H5, S5, D5, q5⟩ := hp5
        cases ex <;> simp only at q5
        refine wp_ret ?_
        obtain ⟨val, hrun, hR⟩ := results_run (xs := [r1]) H5 (fun t _ => q5.1 t) hres (by simp [resV, upd])
        exact ⟨D5, val, hrun, r1, g5, hp1.symm, hR, hp2 ▸ H5, (S12.trans S3).trans S5⟩
/-- internal/abi.NoEscape: what it is given. -/
def samePrim : List AV → Hp → Option (AEnd × Hp)
  | [x], h => some (.ret x, h)
  | _, _ => none
theorem same_ok {f : FuncId} {fn : Func} (hf : P.funcs[f]? = some fn) (hname : (fn.name == "runtime.NumGoroutine") = false) (hb : fn.body.isNone = true) (hn : Extern.findNext fn = none) (he : Extern.find fn = some Extern.AbiNoEscape.same)
    {args : List AV} {r : AEnd} {h' : Hp} (hp : samePrim args h = some (r, h')) {vals : List Value} (hr : RL B w g args vals) (H : HR B h g w) : Does P f vals w (Post B w g r h') := by
  unfold samePrim at hp
  split at hp
  · injection hp with hp
    injection hp with hp1 hp2
    subst hp1
    subst hp2
    obtain ⟨v, rfl⟩ : ∃ v, vals = [v] := by
      have := hr.len
      exact List.length_eq_one_iff.1 (by simpa using this.symm)
    refine .inr ⟨v, w, ?_, _, g, rfl, hr.at_ 0 _ _ rfl rfl, H, Step.refl _ _ _⟩
    rw [run_callFunc_extern hf hname hb hn he]
    rfl
  · cases hp

/-- The first place of a byte from place k on; none: -1. -/
def firstIx (c : UInt8) : List UInt8 → Nat → Int
  | [], _ => -1
  | b :: l, k => if b == c then k else firstIx c l (k + 1)
theorem firstIx_find (c : UInt8) : ∀ (l pre : List UInt8), firstIx c l pre.length = match (List.range' pre.length l.length).find? (fun i => (⟨(pre ++ l).toArray⟩ : ByteArray)[i]! == c) with
    | some i => (i : Int)
    | none => -1
  | [], pre => by simp [firstIx]
  | b :: l, pre => by
    have hb : (⟨(pre ++ b :: l).toArray⟩ : ByteArray)[pre.length]! = b := by
      have hlt : pre.length < (⟨(pre ++ b :: l).toArray⟩ : ByteArray).size := by simp [ByteArray.size]
      rw [show (⟨(pre ++ b :: l).toArray⟩ : ByteArray)[pre.length]! = (⟨(pre ++ b :: l).toArray⟩ : ByteArray)[pre.length] from getElem!_pos (⟨(pre ++ b :: l).toArray⟩ : ByteArray) pre.length hlt]
      show (pre ++ b :: l).toArray[pre.length]'(by simp) = b
      simp
    have ih := firstIx_find c l (pre ++ [b])
    simp only [List.length_append, List.length_cons, List.length_nil, List.append_assoc, List.singleton_append] at ih
    simp only [firstIx, List.length_cons, List.range'_succ, List.find?_cons, hb]
    cases hbc : b == c with
    | true => simp
    | false => simpa using ih
theorem firstIdx_eq (s : List UInt8) (c : UInt8) : firstIdx ⟨s.toArray⟩ c = firstIx c s 0 := by
  have := firstIx_find c s []
  simp only [List.length_nil, List.nil_append] at this
  rw [this]
  unfold firstIdx
  have hs : (⟨s.toArray⟩ : ByteArray).size = s.length := by simp [ByteArray.size]
  rw [hs, List.range_eq_range']
  generalize List.find? (fun i => (⟨s.toArray⟩ : ByteArray)[i]! == c) (List.range' 0 s.length) = o
  cases o <;> rfl
/-- internal/bytealg.IndexByteString. -/
def idxPrim : List AV → Hp → Option (AEnd × Hp)
  | [.str s, .int .u8 c], h => some (.ret (.int .i64 (firstIx c.toNat.toUInt8 s 0)), h)
  | _, _ => none
theorem idx_ok {f : FuncId} {fn : Func} (hf : P.funcs[f]? = some fn) (hname : (fn.name == "runtime.NumGoroutine") = false) (hb : fn.body.isNone = true) (hn : Extern.findNext fn = none) (he : Extern.find fn = some Extern.BytealgIndexByte.indexByte)
    {args : List AV} {r : AEnd} {h' : Hp} (hp : idxPrim args h = some (r, h')) {vals : List Value} (hr : RL B w g args vals) (H : HR B h g w) : Does P f vals w (Post B w g r h') := by
  unfold idxPrim at hp
  split at hp
  · injection hp with hp
    injection hp with hp1 hp2
    subst hp1
    subst hp2
    rename_i s c
    obtain ⟨v, u, rfl⟩ : ∃ v u, vals = [v, u] := by
      have h2 : vals.length = 2 := hr.len.symm
      match vals, h2 with
      | [v, u], _ => exact ⟨v, u, rfl⟩
    have r1 := hr.at_ 0 _ _ rfl rfl
    have r2 := hr.at_ 1 _ _ rfl rfl
    cases r1
    cases r2
    refine .inr ⟨_, w, ?_, _, g, rfl, .int .i64 _, H, Step.refl _ _ _⟩
    rw [run_callFunc_extern hf hname hb hn he, run_indexByte_string, firstIdx_eq]
    rfl
  · cases hp
end
end Go.Ab
