/- Slice expressions; maps; strings gone through. -/
import Derived.Test.YtjeffeobdpganaaGreatDoorAbOne
set_option linter.unusedSimpArgs false
set_option linter.unusedVariables false
namespace Go.Ab
open Go.RowKit (Below)
section
variable {P : Program} {B : Nat} {w : World} {g : Gh} {h : Hp}

theorem ssl_good (H : HR B h g w) {t e esz : Nat} (hu : P.underlying t = some (.slice e)) (hsz : szT P e = some esz) {E : Nat → AV} {A : Act} (he : ER B w g E A) {lo hi : Option Operand} {lo' hi' : Option Opd} (h1 : chkOO lo lo' = true) (h2 : chkOO hi hi' = true)
    {x : Opd} {xv : Value} (hx : R B w g (x.ev E) xv) {v : AV} {h' : Hp} (hev : evop (Opd.ev E) h (.ssl esz x lo' hi') = some (v, h')) :
    h' = h ∧ ∃ val, (Instr.sliceAt t xv (lo.map A.eval) (hi.map A.eval) none).run P w = .ok val w ∧ R B w g v val := by
  have hrun : ∀ (ad : Option Addr) (len cap p q : Nat), optIx len (hi'.map (Opd.ev E)) = some q → optIx 0 (lo'.map (Opd.ev E)) = some p → p ≤ q → q ≤ cap →
      (Instr.sliceAt t (.slice ad len cap) (lo.map A.eval) (hi.map A.eval) none).run P w = .ok (.slice (if cap = p then ad else ad.map (·.add (p * esz))) (q - p) (cap - p)) w := by
    intro ad len cap p q hq hp hpq hqc
    have hb := bounds_ok (P := P) he h1 h2 true (len := len) (cap := cap) hq hp hpq hqc
    simp only [Instr.sliceAt, Instr.slice, Sem.run_bind, run_underlying hu, Result.andThen_ok, hb, szT_run hsz, Sem.run_pure]
  simp only [evop] at hev
  generalize x.ev E = ex at hev hx
  split at hev
  · rename_i f es
    obtain ⟨q, hq, hev⟩ := Option.bind_eq_some_iff.1 hev
    obtain ⟨p, hp, hev⟩ := Option.bind_eq_some_iff.1 hev
    split at hev
    · rename_i hc
      obtain ⟨hpq, hql, hall⟩ := hc
      injection hev with hev
      injection hev with e1 e2
      subst e1
      refine ⟨e2.symm, ?_⟩
      cases hx with
      | vs full es ad cap kk pp es0 ff had hsz' hc hr hcap hfull =>
        refine ⟨_, hrun _ _ _ _ _ hq hp hpq (by omega), ?_⟩
        have hlen : ((es.drop p).take (q - p)).length = q - p := by simp; omega
        have hes0 : p = 0 ∨ es = [] ∨ es0 = esz := by
          rcases hall with h0 | hall
          · exact .inl h0
          · by_cases hne : es = []
            · exact .inr (.inl hne)
            · obtain ⟨c, es', rfl⟩ := List.exists_cons_of_ne_nil hne
              refine .inr (.inr ?_)
              rw [← hsz' c (by simp), chkb_all hall c (by simp)]
        have hgen : R B w g (.vs (f && hi'.isNone && decide (p < q)) ((es.drop p).take (q - p))) (.slice (if cap = p then ad else ad.map (·.add (p * esz))) ((es.drop p).take (q - p)).length (cap - p)) := by
          refine .vs _ _ _ _ kk (pp + p * es0) es0 (fun i j => ff (p + i) j) (fun hne => ?_) (fun c hc => hsz' c (List.mem_of_mem_drop (List.mem_of_mem_take hc))) (fun i c j x hi hx => ?_) (fun i c j x hi hx => ?_) (by rw [hlen]; omega) (fun hf => ?_)
          · have hlt : p < q := by
              rcases Nat.lt_or_ge p q with hlt | hge
              · exact hlt
              · exfalso; apply hne; apply List.eq_nil_of_length_eq_zero; rw [hlen]; omega
            have hesne : es ≠ [] := by intro e; subst e; simp at hql; omega
            rw [had hesne, if_neg (by omega)]
            simp only [Option.map_some, Addr.add_mid]
            rcases hes0 with h0 | h0 | h0
            · subst h0; simp
            · exact absurd h0 hesne
            · rw [h0]
          · rw [List.getElem?_take] at hi
            split at hi
            · rw [List.getElem?_drop] at hi
              obtain ⟨a, b, d⟩ := hc _ _ _ _ hi hx
              rw [show pp + p * es0 + (i * es0 + j) = pp + ((p + i) * es0 + j) from by rw [Nat.add_mul]; omega]
              exact ⟨a, b, d⟩
            · cases hi
          · rw [List.getElem?_take] at hi
            split at hi
            · rw [List.getElem?_drop] at hi
              exact hr _ _ _ _ hi hx
            · cases hi
          · simp only [Bool.and_eq_true, Option.isNone_iff_eq_none, decide_eq_true_eq] at hf
            obtain ⟨⟨hf, hnone⟩, hlt⟩ := hf
            subst hf
            subst hnone
            simp [optIx] at hq
            subst hq
            obtain ⟨hc1, hc2, _⟩ := hfull rfl
            refine ⟨by rw [hlen]; omega, fun _ => hc2 (by intro e; subst e; simp at hlt), fun e => ?_⟩
            rw [e] at hlen
            simp at hlen
            omega
        rw [hlen] at hgen
        exact hgen
    · cases hev
  · rename_i r v0 l n
    obtain ⟨q, hq, hev⟩ := Option.bind_eq_some_iff.1 hev
    obtain ⟨p, hp, hev⟩ := Option.bind_eq_some_iff.1 hev
    split at hev
    · rename_i Ar hA
      split at hev
      · rename_i hc
        obtain ⟨hver, hesz, hpq, hqn, hor⟩ := hc
        injection hev with hev
        injection hev with e1 e2
        subst e1
        refine ⟨e2.symm, ?_⟩
        cases hx with
        | rs _ _ _ _ G ad cap hg hv had =>
          obtain ⟨e1, e2, _⟩ := H.arr r Ar G hA hg
          obtain ⟨a1, a2, a3⟩ := had (by omega)
          subst a1
          refine ⟨_, hrun _ _ _ _ _ hq hp hpq (by omega), .rs r v0 (l + p) (q - p) G _ _ hg hv fun _ => ⟨?_, by omega, by omega⟩⟩
          rcases hor with h0 | hlt
          · subst h0
            split
            · simp
            · simp [Addr.add_mid]
          · rw [if_neg (by omega)]
            simp only [Option.map_some, Addr.add_mid]
            rw [e2, hesz, Nat.add_mul]
      · cases hev
    · cases hev
  · cases hev

theorem isKey_int {st : Bool} {k : AV} (hk : isKey st k = true) : (st = false ∧ ∃ a b, k = .int a b) ∨ (st = true ∧ ∃ s, k = .str s) := by
  unfold isKey at hk
  split at hk
  · exact .inl ⟨rfl, _, _, rfl⟩
  · exact .inr ⟨rfl, _, rfl⟩
  · cases hk
/-- The kind of a map's keys. -/
def kindOf (P : Program) (kt : TypeId) (st : Bool) : Prop := if st then P.underlying kt = some .string else ∃ k, P.underlying kt = some (.int k)
theorem keyEq_some {st : Bool} {k k' : AV} {r : Bool} (hk : keyEq st k k' = some r) {kt : TypeId} (hkt : kindOf P kt st) {kv kv' : Value} (h1 : R B w g k kv) (h2 : R B w g k' kv') :
    ∃ D, P.underlying kt = some D ∧ Instr.sameNow D kv kv' = some r := by
  unfold keyEq at hk
  split at hk
  · split at hk
    · rename_i hkk
      subst hkk
      injection hk with hk
      subst hk
      cases h1
      cases h2
      obtain ⟨kk, hkk⟩ : ∃ k, P.underlying kt = some (.int k) := by simpa [kindOf] using hkt
      exact ⟨_, hkk, by simp [Instr.sameNow]⟩
    · cases hk
  · injection hk with hk
    subst hk
    cases h1
    cases h2
    have hkk : P.underlying kt = some .string := by simpa [kindOf] using hkt
    refine ⟨_, hkk, ?_⟩
    simp only [Instr.sameNow]
    congr 1
    rw [beq_toListBytes, bytes_toList, bytes_toList]
  · cases hk
theorem mfind_ok {st : Bool} {k : AV} {kv : Value} {kt : TypeId} (hkt : kindOf P kt st) (hk : R B w g k kv) : ∀ {es : List (AV × AV)} {ents : List MapEntry} {r : Option (Nat × AV)},
    RL B w g (es.map (·.1)) (ents.map (·.key)) → RL B w g (es.map (·.2)) (ents.map (·.val)) → mfind st k es = some r → ∀ n, ∃ D, P.underlying kt = some D ∧
      (match r with
        | none => Instr.findNow D kv ents n = some none
        | some (i, v) => ∃ e, Instr.findNow D kv ents n = some (some (n + i, e.val)) ∧ ents[i]? = some e ∧ R B w g v e.val ∧ ∃ k0, Instr.sameNow D kv e.key = some true ∧ R B w g k0 e.key)
  | [], ents, r, h1, h2, hf, n => by
    simp only [mfind] at hf
    split at hf
    · injection hf with hf
      subst hf
      have : ents = [] := List.eq_nil_of_length_eq_zero (by have := h1.len; simpa using this.symm)
      subst this
      unfold kindOf at hkt
      split at hkt
      · exact ⟨_, hkt, rfl⟩
      · obtain ⟨kk, hkt⟩ := hkt; exact ⟨_, hkt, rfl⟩
    · cases hf
  | (k', v) :: es, [], r, h1, h2, hf, n => by have := h1.len; simp at this
  | (k', v) :: es, e :: ents, r, h1, h2, hf, n => by
    have r1 : R B w g k' e.key := h1.at_ 0 _ _ rfl rfl
    have r2 : R B w g v e.val := h2.at_ 0 _ _ rfl rfl
    simp only [mfind] at hf
    split at hf
    · rename_i hq
      injection hf with hf
      subst hf
      obtain ⟨D, hD, hs⟩ := keyEq_some hq hkt hk r1
      exact ⟨D, hD, e, by simp [Instr.findNow, hs], rfl, r2, k', hs, r1⟩
    · rename_i hq
      obtain ⟨r', hr', rfl⟩ := Option.map_eq_some_iff.1 hf
      obtain ⟨D, hD, hs⟩ := keyEq_some hq hkt hk r1
      have t1 : RL B w g (es.map (·.1)) (ents.map (·.key)) := ⟨by have := h1.len; simpa using this, fun i x v hx hv => h1.at_ (i + 1) x v (by simpa using hx) (by simpa using hv)⟩
      have t2 : RL B w g (es.map (·.2)) (ents.map (·.val)) := ⟨by have := h2.len; simpa using this, fun i x v hx hv => h2.at_ (i + 1) x v (by simpa using hx) (by simpa using hv)⟩
      obtain ⟨D', hD', ih⟩ := mfind_ok hkt hk t1 t2 hr' (n + 1)
      rw [hD] at hD'
      injection hD' with hD'
      subst hD'
      refine ⟨D, hD, ?_⟩
      cases r' with
      | none => simpa [Instr.findNow, hs] using ih
      | some p =>
        obtain ⟨i, v'⟩ := p
        obtain ⟨e', f1, f2, f3, f4⟩ := ih
        refine ⟨e', ?_, by simpa using f2, f3, f4⟩
        simp only [Instr.findNow, hs]
        rw [f1]
        congr 3
        omega
    · cases hf
theorem checkKey_run' {kt : TypeId} {st : Bool} (hkt : kindOf P kt st) {k : AV} {kv : Value} (hk : isKey st k = true) (hr : R B w g k kv) (em : Bool) (w' : World) (D : Nat) : (Instr.checkKey em (D + 1) kt kv).run P w' = .ok () w' := by
  rcases isKey_int hk with ⟨rfl, a, b, rfl⟩ | ⟨rfl, s, rfl⟩
  · obtain ⟨kk, hkk⟩ : ∃ k, P.underlying kt = some (.int k) := by simpa [kindOf] using hkt
    rw [hr.int_inv]
    simp [Instr.checkKey, run_underlying hkk]
  · have hkk : P.underlying kt = some .string := by simpa [kindOf] using hkt
    rw [hr.str_inv]
    simp [Instr.checkKey, run_underlying hkk]
theorem checkKey_run {kt : TypeId} {st : Bool} (hkt : kindOf P kt st) {k : AV} {kv : Value} (hk : isKey st k = true) (hr : R B w g k kv) (em : Bool) (w' : World) : (Instr.checkKey em 10000 kt kv).run P w' = .ok () w' :=
  checkKey_run' hkt hk hr em w' 9999
theorem mfind_key {st : Bool} {k : AV} : ∀ {es : List (AV × AV)} {r : Option (Nat × AV)}, mfind st k es = some r → isKey st k = true
  | [], r, hf => by
    simp only [mfind] at hf
    split at hf
    · assumption
    · cases hf
  | (k', v) :: es, r, hf => by
    simp only [mfind] at hf
    split at hf
    all_goals first
      | (rename_i hq
         unfold keyEq at hq
         split at hq
         · rfl
         · rfl
         · cases hq)
      | cases hf
theorem findKey_run {kt : TypeId} {D : TypeDesc} (hD : P.underlying kt = some D) {kv : Value} {ents : List MapEntry} {r : Option (Nat × Value)} (hf : Instr.findNow D kv ents 0 = some r) (w' : World) :
    (Instr.findKey kt kv ents).run P w' = .ok r w' := by
  simp only [Instr.findKey, Sem.run_bind, run_underlying hD, Result.andThen_ok, hf, Sem.run_pure]

theorem kind_eq {st : Bool} {k k' : AV} {b : Bool} (h : keyEq st k k' = some b) : kindA k = kindA k' ∧ (b = true ↔ k = k') := by
  unfold keyEq at h
  split at h
  · split at h
    · rename_i hk
      injection h with h
      subst hk
      subst h
      simp [kindA]
    · cases h
  · injection h with h
    subst h
    simp [kindA]
  · cases h
theorem keyEq_of_kind {st : Bool} {k k' : AV} (hk : isKey st k = true) (h : kindA k' = kindA k) : ∃ b, keyEq st k k' = some b := by
  rcases isKey_int hk with ⟨rfl, a, b, rfl⟩ | ⟨rfl, s, rfl⟩ <;> cases k' <;> simp [kindA] at h
  · subst h; simp [keyEq]
  · simp [keyEq]
/-- Sought in whatever order, the same is found. -/
theorem mfind_any {st : Bool} {k : AV} (hk : isKey st k = true) : ∀ {es : List (AV × AV)}, (∀ p ∈ es, kindA p.1 = kindA k) → ∃ r, mfind st k es = some r ∧ (match r with
    | none => ∀ p ∈ es, p.1 ≠ k
    | some (i, v) => es[i]? = some (k, v))
  | [], _ => ⟨none, by simp [mfind, hk], by simp⟩
  | (k', v) :: es, h => by
    obtain ⟨b, hb⟩ := keyEq_of_kind hk (h (k', v) (by simp))
    obtain ⟨_, hiff⟩ := kind_eq hb
    cases b with
    | true =>
      have := hiff.1 rfl
      subst this
      exact ⟨some (0, v), by simp [mfind, hb], rfl⟩
    | false =>
      obtain ⟨r, hr, hm⟩ := mfind_any (es := es) hk (fun p hp => h p (by simp [hp]))
      refine ⟨r.map fun (i, v) => (i + 1, v), by simp [mfind, hb, hr], ?_⟩
      cases r with
      | none =>
        simp only [Option.map_none]
        intro p hp
        rcases List.mem_cons.1 hp with rfl | hp
        · intro e
          have := hiff.2 e.symm
          cases this
        · exact hm p hp
      | some q =>
        obtain ⟨i, u⟩ := q
        simpa using hm
theorem mfind_kinds {st : Bool} {k : AV} {es : List (AV × AV)} {r : Option (Nat × AV)} (hf : mfind st k es = some r) (ho : MapOK es) : ∀ p ∈ es, kindA p.1 = kindA k := by
  obtain ⟨_, c, hc⟩ := ho
  cases es with
  | nil => simp
  | cons e es =>
    obtain ⟨k', v⟩ := e
    have h0 : kindA k' = kindA k := by
      simp only [mfind] at hf
      split at hf
      · rename_i hq; exact (kind_eq hq).1.symm
      · rename_i hq; exact (kind_eq hq).1.symm
      · cases hf
    intro p hp
    rw [hc p hp, ← hc (k', v) (by simp)]
    exact h0
theorem nodup_val {es : List (AV × AV)} (hn : (es.map (·.1)).Nodup) {k v v' : AV} (h : (k, v) ∈ es) (h' : (k, v') ∈ es) : v = v' := by
  induction es with
  | nil => simp at h
  | cons e es ih =>
    simp only [List.map_cons, List.nodup_cons] at hn
    rcases List.mem_cons.1 h with h1 | h1 <;> rcases List.mem_cons.1 h' with h2 | h2
    · rw [← h1] at h2; injection h2 with _ h2; exact h2.symm
    · exact absurd (List.mem_map.2 ⟨_, h2, rfl⟩) (by rw [← h1] at hn; exact hn.1)
    · exact absurd (List.mem_map.2 ⟨_, h1, rfl⟩) (by rw [← h2] at hn; exact hn.1)
    · exact ih hn.2 h1 h2
theorem mfind_perm {st : Bool} {k : AV} {es es' : List (AV × AV)} {r : Option (Nat × AV)} (hf : mfind st k es = some r) (ho : MapOK es) (hp : es'.Perm es) :
    ∃ r', mfind st k es' = some r' ∧ (match r, r' with
      | none, none => True
      | some (i, v), some (i', v') => v' = v ∧ es'[i']? = some (k, v) ∧ es[i]? = some (k, v)
      | _, _ => False) := by
  have hik := mfind_key hf
  have hk := mfind_kinds hf ho
  obtain ⟨r0, hr0, h0⟩ := mfind_any hik hk
  rw [hf] at hr0
  injection hr0 with hr0
  subst hr0
  obtain ⟨r', hr', h1⟩ := mfind_any (es := es') hik (fun p hp' => hk p (hp.mem_iff.1 hp'))
  refine ⟨r', hr', ?_⟩
  cases r with
  | none =>
    cases r' with
    | none => trivial
    | some q =>
      obtain ⟨i, v⟩ := q
      exact absurd rfl (h0 (k, v) (hp.mem_iff.1 (List.mem_of_getElem? h1)))
  | some q =>
    obtain ⟨i, v⟩ := q
    cases r' with
    | none => exact absurd rfl (h1 (k, v) (hp.mem_iff.2 (List.mem_of_getElem? h0)))
    | some q' =>
      obtain ⟨i', v'⟩ := q'
      have := nodup_val ho.1 (List.mem_of_getElem? h0) (hp.mem_iff.1 (List.mem_of_getElem? h1))
      subst this
      exact ⟨rfl, h1, h0⟩
theorem perm_set {α : Type} {a b : α} : ∀ {l : List α} {i : Nat}, l[i]? = some a → (b :: l).Perm (a :: l.set i b)
  | [], i, h => by simp at h
  | x :: l, 0, h => by simp at h; subst h; exact .swap _ _ _
  | x :: l, i + 1, h => by
    have h' : l[i]? = some a := by simpa using h
    have := perm_set (b := b) h'
    refine (List.Perm.swap x b l).trans ((List.Perm.cons x this).trans ?_)
    exact List.Perm.swap _ _ _
theorem MapOK.set {es : List (AV × AV)} (ho : MapOK es) {i : Nat} {k v x : AV} (h : es[i]? = some (k, v)) : MapOK (es.set i (k, x)) := by
  obtain ⟨h1, c, h2⟩ := ho
  refine ⟨?_, c, fun p hp => ?_⟩
  · rw [List.map_set]
    have : (es.map (·.1)).set i k = es.map (·.1) := by
      apply List.ext_getElem?
      intro j
      rw [List.getElem?_set]
      split
      · rename_i e
        subst e
        have hi := (List.getElem?_eq_some_iff.1 h).1
        have he := (List.getElem?_eq_some_iff.1 h).2
        simp [hi, he]
      · rfl
    simpa [this] using h1
  · rcases List.mem_or_eq_of_mem_set hp with hp | rfl
    · exact h2 p hp
    · exact h2 (k, v) (List.mem_of_getElem? h)
theorem MapOK.push {st : Bool} {es : List (AV × AV)} (ho : MapOK es) {k x : AV} (hf : mfind st k es = some none) : MapOK (es ++ [(k, x)]) := by
  have hik := mfind_key hf
  have hk := mfind_kinds hf ho
  obtain ⟨r0, hr0, h0⟩ := mfind_any hik hk
  rw [hf] at hr0
  injection hr0 with hr0
  subst hr0
  refine ⟨?_, ?_⟩
  · rw [List.map_append]
    refine List.nodup_append.2 ⟨ho.1, by simp, fun a ha b hb => ?_⟩
    simp at hb
    subst hb
    obtain ⟨p, hp, rfl⟩ := List.mem_map.1 ha
    exact h0 p hp
  · obtain ⟨c, hc⟩ : ∃ c, kindA k = some c := by
      rcases isKey_int hik with ⟨_, a, b, rfl⟩ | ⟨_, s, rfl⟩ <;> exact ⟨_, rfl⟩
    refine ⟨c, fun p hp => ?_⟩
    rcases List.mem_append.1 hp with hp | hp
    · rw [hk p hp]; exact hc
    · simp at hp; subst hp; exact hc

theorem mget_good (H : HR B h g w) {t kt et : TypeId} {st ok : Bool} {z : AV} {zv : Value} (hu : P.underlying t = some (.map kt et)) (hkt : kindOf P kt st) (hz : zrT P et = some zv) (hzr : R B w g z zv)
    {m k : AV} {mv kv : Value} (hm : R B w g m mv) (hk : R B w g k kv) {r : AV × Bool} (hl : mlook st z h m k = some r) :
    ∃ val, (Instr.lookup t mv kv ok).run P w = .ok val w ∧ R B w g (if ok then .tup [r.1, .bool r.2] else r.1) val := by
  have hfin : ∀ (u : Value) (b : Bool), R B w g r.1 u → r.2 = b → R B w g (if ok then .tup [r.1, .bool r.2] else r.1) (if ok then .tuple #[u, .bool b] else u) := by
    intro u b h1 h2
    subst h2
    cases ok
    · exact h1
    · exact .tup [r.1, .bool r.2] [u, .bool r.2] rfl (RL.cons h1 (.cons (.bool _) .nil)).at_
  unfold mlook at hl
  cases hm with
  | nilm =>
    simp only at hl
    split at hl
    · rename_i hik
      injection hl with hl
      subst hl
      obtain ⟨D, hD, hf⟩ := mfind_ok (P := P) (r := none) hkt hk (es := []) (ents := []) .nil .nil (by simp [mfind, hik]) 0
      refine ⟨_, ?_, hfin zv false hzr rfl⟩
      simp only [Instr.lookup, Sem.run_bind, run_underlying hu, Result.andThen_ok, Sem.run_pure, checkKey_run hkt hik hk, findKey_run hD hf, zrT_run hz w]
    · cases hl
  | mp b kk hb =>
    simp only at hl
    split at hl
    · rename_i es hbx
      obtain ⟨r', hr', rfl⟩ := Option.map_eq_some_iff.1 hl
      obtain ⟨es', ents, clock, f1, f2, f3, hpm, hok⟩ := H.box b _ kk hbx hb
      obtain ⟨r2, hr2, hrr⟩ := mfind_perm hr' hok hpm
      have hik := mfind_key hr'
      obtain ⟨D, hD, hf⟩ := mfind_ok (P := P) hkt hk f2 f3 hr2 0
      have hget : (getObj kk).run P w = .ok (.map ents.toArray clock) w := by simp [getObj, Sem.run, f1]
      have hrv : r2.map (·.2) = r'.map (·.2) := by
        cases r' with
        | none => cases r2 with
          | none => rfl
          | some q => exact hrr.elim
        | some p => cases r2 with
          | none => exact hrr.elim
          | some q => obtain ⟨i, v⟩ := p; obtain ⟨i', v'⟩ := q; simp [hrr.1]
      have hfin' : ∀ (u : Value) (b : Bool), R B w g (match r2 with | some (_, v) => (v, true) | none => (z, false)).1 u → (match r2 with | some (_, v) => (v, true) | none => (z, false)).2 = b →
          R B w g (if ok then .tup [(match r' with | some (_, v) => (v, true) | none => (z, false)).1, .bool (match r' with | some (_, v) => (v, true) | none => (z, false)).2] else (match r' with | some (_, v) => (v, true) | none => (z, false)).1) (if ok then .tuple #[u, .bool b] else u) := by
        intro u b h1 h2
        refine hfin u b ?_ ?_
        · cases r' <;> cases r2 <;> simp at hrv <;> simp_all
        · cases r' <;> cases r2 <;> simp at hrv <;> simp_all
      cases r2 with
      | none =>
        refine ⟨_, ?_, hfin' zv false hzr rfl⟩
        simp only [Instr.lookup, Sem.run_bind, run_underlying hu, Result.andThen_ok, Sem.run_pure, hget, checkKey_run hkt hik hk, findKey_run hD hf, zrT_run hz w]
      | some p =>
        obtain ⟨i, v⟩ := p
        obtain ⟨e, q1, q2, q3, _⟩ := hf
        refine ⟨_, ?_, hfin' e.val true q3 rfl⟩
        simp only [Instr.lookup, Sem.run_bind, run_underlying hu, Result.andThen_ok, Sem.run_pure, hget, checkKey_run hkt hik hk, findKey_run hD q1]
    · cases hl
  | _ => simp at hl

/-- A box's block of another kind than cells is set. -/
def World.put (w : World) (k : Nat) (o : Obj) : World := { w with heap := w.heap.setIfInBounds k o }
theorem put_heap {k : Nat} (hk : k < w.heap.size) (o : Obj) : (World.put w k o).heap[k]? = some o := by simp [World.put, hk]
theorem put_other {k i : Nat} (hi : i ≠ k) (o : Obj) : (World.put w k o).heap[i]? = w.heap[i]? := by simp [World.put, Ne.symm hi]
theorem step_put (H : HR B h g w) {k : Nat} (hk : k ∈ g.bb ++ g.ab.map (·.k)) (o : Obj) : Step B w g (World.put w k o) g := by
  refine ⟨⟨rfl, rfl, rfl, by simp [World.put], fun i hi => put_other (fun e => by have := H.low k hk; omega) o⟩, fun _ _ h => h, fun _ G h => ⟨G, h, Nat.le_refl _, fun _ => rfl⟩, fun _ h => .inl h, fun G h => .inl ⟨G, h, rfl⟩, fun _ _ h => h, fun k' o' v hp hc => ?_, fun i _ hb ha _ => put_other (fun e => by
      rcases List.mem_append.1 hk with h1 | h1
      · exact hb (e ▸ h1)
      · obtain ⟨G, hG, h2⟩ := List.mem_map.1 h1
        exact ha G hG (h2.trans e.symm)) o, fun _ _ h => .inl h⟩
  exact (World.cell?_of_block (put_other (w := w) (k := k) (i := k') (fun e => H.npr k hk o' (by rw [← e]; exact hp)) o)).trans hc
theorem setObj_run {k : Nat} {o o' : Obj} (hk : w.heap[k]? = some o) (hn : ∀ a b c, o ≠ .cells a b c) : (setObj k o').run P w = .ok () (World.put w k o') := by
  cases o <;> first | (simp [setObj, Sem.run, hk, World.put]; done) | exact absurd rfl (hn _ _ _)
theorem sameBits_key {st : Bool} {k k0 : AV} {kv ov : Value} {D : TypeDesc} (hik : isKey st k = true) (h1 : R B w g k kv) (h2 : R B w g k0 ov) (hs : Instr.sameNow D kv ov = some true) (n : Nat) : Instr.sameBits n ov kv = true := by
  rcases isKey_int hik with ⟨rfl, a, b, rfl⟩ | ⟨rfl, s, rfl⟩
  · rw [h1.int_inv] at hs ⊢
    cases ov <;> cases D <;> simp [Instr.sameNow] at hs
    obtain ⟨rfl, rfl⟩ := hs
    simp [Instr.sameBits]
  · rw [h1.str_inv] at hs ⊢
    cases ov <;> cases D <;> simp [Instr.sameNow] at hs
    simp only [Instr.sameBits]
    rw [beq_toListBytes] at hs ⊢
    simp at hs
    simp [hs]

theorem mset_good (H : HR B h g w) {t kt et : TypeId} {st : Bool} (hu : P.underlying t = some (.map kt et)) (hkt : kindOf P kt st) {m k x : AV} {mv kv xv : Value} (hm : R B w g m mv) (hk : R B w g k kv) (hx : R B w g x xv) {b : Nat} (hmb : m = .mp b)
    {es : List (AV × AV)} (hbx : h.bx[b]? = some (.map es)) {r : Option (Nat × AV)} (hf : mfind st k es = some r) :
    ∃ w' g', (Instr.mapUpdate t mv kv xv).run P w = .ok () w' ∧ HR B (h.sb b (.map (match r with
      | some (i, _) => es.set i (k, x)
      | none => es ++ [(k, x)]))) g' w' ∧ Step B w g w' g' := by
  subst hmb
  cases hm with
  | mp _ kk hb =>
  obtain ⟨es', ents, clock, f1, f2, f3, hpm, hok⟩ := H.box b _ kk hbx hb
  have hik := mfind_key hf
  obtain ⟨r2, hr2, hrr⟩ := mfind_perm hf hok hpm
  obtain ⟨D, hD, hfn⟩ := mfind_ok (P := P) hkt hk f2 f3 hr2 0
  have hget : (getObj kk).run P w = .ok (.map ents.toArray clock) w := by simp [getObj, Sem.run, f1]
  have hlt : kk < w.heap.size := (Array.getElem?_eq_some_iff.1 f1).1
  have hsetrun : ∀ o', (setObj kk o').run P w = .ok () (World.put w kk o') := fun o' => setObj_run f1 (by simp)
  have hlen : es'.length = ents.length := by have := f2.len; simpa using this
  cases r with
  | none =>
    cases r2 with
    | some q => exact hrr.elim
    | none =>
    have hs := step_put H (live_bb hb) (.map (ents.toArray.push { key := kv, val := xv, born := clock }) (clock + 1))
    refine ⟨_, g, ?_, H.set_box hb hs rfl rfl rfl ⟨es' ++ [(k, x)], ents ++ [{ key := kv, val := xv, born := clock }], clock + 1, ?_, ?_, ?_, hpm.append_right _, hok.push hf⟩ (fun i hi => put_other hi _), hs⟩
    · simp only [Instr.mapUpdate, Sem.run_bind, run_underlying hu, Result.andThen_ok, hget, checkKey_run hkt hik hk, findKey_run hD hfn, hsetrun]
    · rw [put_heap hlt]; simp
    · simpa using (f2.append (.cons hk .nil)).step hs
    · simpa using (f3.append (.cons hx .nil)).step hs
  | some p =>
    obtain ⟨i0, v⟩ := p
    cases r2 with
    | none => exact hrr.elim
    | some p2 =>
    obtain ⟨i, v2⟩ := p2
    obtain ⟨rfl, hg1, hg2⟩ := hrr
    obtain ⟨e, q1, q2, q3, k0, q4, q5⟩ := hfn
    have hbits := sameBits_key hik hk q5 q4 10000
    rw [Nat.zero_add] at q1
    have hi : i < ents.length := (List.getElem?_eq_some_iff.1 q2).1
    have hs := step_put H (live_bb hb) (.map (ents.toArray.modify i fun e => { e with key := kv, val := xv }) clock)
    have hmod : ents.toArray.modify i (fun e => { e with key := kv, val := xv }) = (ents.set i { e with key := kv, val := xv }).toArray := by
      apply Array.ext_getElem?
      intro j
      rw [Array.getElem?_modify]
      by_cases hj : i = j
      · subst hj
        have hei : ents[i] = e := (List.getElem?_eq_some_iff.1 q2).2
        simp [hi, hei]
      · simp [hj]
    refine ⟨_, g, ?_, H.set_box hb hs rfl rfl rfl ⟨es'.set i (k, x), ents.set i { e with key := kv, val := xv }, clock, ?_, ?_, ?_, ?_, hok.set hg2⟩ (fun i hi => put_other hi _), hs⟩
    · have hkey : (Instr.keyThatStays ((((ents.toArray)[i]?).map (·.key)).getD kv) kv).run P w = .ok kv w := by
        simp [q2, Instr.keyThatStays, hbits]
      simp only [Instr.mapUpdate, Sem.run_bind, run_underlying hu, Result.andThen_ok, hget, checkKey_run hkt hik hk, findKey_run hD q1, hkey, hsetrun]
    · rw [put_heap hlt, hmod]
    · refine ⟨by simp [hlen], fun j y u hj hu' => ?_⟩
      simp only [List.map_set, List.getElem?_set] at hj hu'
      split at hj
      · rename_i e'
        subst e'
        simp [hlen, hi] at hj hu'
        subst hj
        subst hu'
        exact hk.step hs
      · rename_i hne
        rw [if_neg hne] at hu'
        exact (f2.at_ j y u hj hu').step hs
    · refine ⟨by simp [hlen], fun j y u hj hu' => ?_⟩
      simp only [List.map_set, List.getElem?_set] at hj hu'
      split at hj
      · rename_i e'
        subst e'
        simp [hlen, hi] at hj hu'
        subst hj
        subst hu'
        exact hx.step hs
      · rename_i hne
        rw [if_neg hne] at hu'
        exact (f3.at_ j y u hj hu').step hs
    · have p1 := perm_set (b := (k, x)) hg1
      have p2 := perm_set (b := (k, x)) hg2
      exact (List.perm_cons _).1 (p1.symm.trans ((List.Perm.cons _ hpm).trans p2))
end
end Go.Ab
