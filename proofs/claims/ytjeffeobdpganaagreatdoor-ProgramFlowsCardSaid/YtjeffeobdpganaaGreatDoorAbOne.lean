/- Every operation that is no call: the abstract machine and the model go along. -/
import Derived.Test.YtjeffeobdpganaaGreatDoorAbStep
import Derived.Laws.BytesArg
set_option linter.unusedSimpArgs false
set_option linter.unusedVariables false
namespace Go.Ab
open Go.RowKit (Below)
section
variable {P : Program} {B : Nat} {w : World} {g : Gh} {h : Hp}

theorem ER.opt {e : Nat → AV} {a : Act} (he : ER B w g e a) {x : Option Operand} {y : Option Opd} (hc : chkOO x y = true) :
    (x = none ∧ y = none) ∨ ∃ u v, x = some u ∧ y = some v ∧ R B w g (v.ev e) (a.eval u) := by
  cases x <;> cases y <;> simp only [chkOO] at hc <;> try cases hc
  · exact .inl ⟨rfl, rfl⟩
  · exact .inr ⟨_, _, rfl, rfl, he.opd hc⟩
theorem optIx_ok {e : Nat → AV} {a : Act} (he : ER B w g e a) {x : Option Operand} {y : Option Opd} (hc : chkOO x y = true) {d n : Nat} (hi : optIx d (y.map (Opd.ev e)) = some n) :
    (x = none ∧ n = d) ∨ ∃ u k, x = some u ∧ a.eval u = .int k n := by
  rcases he.opt hc with ⟨rfl, rfl⟩ | ⟨u, v, rfl, rfl, hr⟩
  · simp [optIx] at hi; exact .inl ⟨rfl, hi.symm⟩
  · simp only [Option.map_some, optIx] at hi
    split at hi
    · rename_i heq; cases heq
    · rename_i k i heq
      injection heq with heq
      rw [heq] at hr
      split at hi
      · rename_i h0
        injection hi with hi
        exact .inr ⟨u, k, rfl, by rw [hr.int_inv]; congr 1; omega⟩
      · cases hi
    · cases hi
/-- The bounds of a slice expression. -/
theorem bounds_ok {e : Nat → AV} {a : Act} (he : ER B w g e a) {lo hi : Option Operand} {lo' hi' : Option Opd} (h1 : chkOO lo lo' = true) (h2 : chkOO hi hi' = true) (isS : Bool) {len cap p q : Nat}
    (hq : optIx len (hi'.map (Opd.ev e)) = some q) (hp : optIx 0 (lo'.map (Opd.ev e)) = some p) (hpq : p ≤ q) (hqc : q ≤ cap) :
    (Instr.sliceBounds isS len cap (lo.map a.eval) (hi.map a.eval) none).run P w = .ok (p, q, cap) w := by
  rcases optIx_ok he h2 hq with ⟨rfl, rfl⟩ | ⟨u, k, rfl, hu⟩ <;> rcases optIx_ok he h1 hp with ⟨rfl, rfl⟩ | ⟨u', k', rfl, hu'⟩
  · simp [Instr.sliceBounds]
  · simp [Instr.sliceBounds, Instr.sliceBound, hu', asIntOf, hpq]
  · simp [Instr.sliceBounds, Instr.sliceBound, hu, asIntOf, hqc]
  · simp [Instr.sliceBounds, Instr.sliceBound, hu, hu', asIntOf, hqc, hpq]

theorem bytesA_ok : ∀ {es : List (List AV)} {s : List UInt8}, bytesA es = some s → ∃ ns : List Int, es = ns.map (fun n => [.int .u8 n]) ∧ s = ns.map fun n => UInt8.ofNat n.toNat
  | [], s, hs => by simp [bytesA] at hs; subst hs; exact ⟨[], rfl, rfl⟩
  | c :: es, s, hs => by
    unfold bytesA at hs
    split at hs
    · rename_i heq; cases heq
    · rename_i n l heq
      injection heq with h1 h2
      subst h1
      subst h2
      obtain ⟨r, hr, rfl⟩ := Option.map_eq_some_iff.1 hs
      obtain ⟨ns, rfl, rfl⟩ := bytesA_ok hr
      exact ⟨n :: ns, rfl, rfl⟩
    · cases hs
theorem bstr_good (H : HR B h g w) {x : AV} {xv : Value} {es : List (List AV)} {s : List UInt8} {src e dst : TypeId} (hs : P.underlying src = some (.slice e)) (he : P.underlying e = some (.int .u8)) (hd : P.underlying dst = some .string)
    (hx : R B w g x xv) (hes : els h x = some es) (hb : bytesA es = some s) : (convert src dst xv).run P w = .ok (.string ⟨s.toArray⟩) w := by
  obtain ⟨ad, cap, rfl, hr⟩ := els_ok H hx hes
  obtain ⟨ns, rfl, rfl⟩ := bytesA_ok hb
  by_cases hne : ns = []
  · subst hne
    cases ad with
    | none => exact run_convert_bytes_nil w src e hs he _ _ dst hd
    | some a =>
      rw [run_convert_bytes_string w src dst e _ _ _ hs he hd]
      simp [Conv.bytesToString, loadCells, loadCellsFrom]
      rfl
  · obtain ⟨k, p, esz, rfl, vs, hl, hg, hc, h1⟩ := hr (by simpa using hne)
    have hesz : esz = 1 := by
      obtain ⟨n, ns', rfl⟩ := List.exists_cons_of_ne_nil hne
      exact (hg.sz [.int .u8 n] (by simp)).symm
    subst hesz
    have := run_convert_bytes_arg w src e hs he k p ns.length cap ns rfl (fun i hi => by
      obtain ⟨v, a, b, _⟩ := hg.at_ i [.int .u8 ns[i]] 0 (.int .u8 ns[i]) (by simp [hi]) rfl
      rw [b.int_inv] at a
      have := hc i _ (by simpa using a)
      rw [this]
      simp [List.getD, hi]) dst hd
    simpa [strOfNums] using this

theorem ia_good (H : HR B h g w) {t e : TypeId} {esz : Nat} (hu : P.underlying t = some (.slice e)) (hsz : szT P e = some esz) {x : AV} {xv : Value} {k : IntKind} {i : Int} (hx : R B w g x xv) {v : AV} (h0 : 0 ≤ i)
    (hev : elp h esz x i.toNat = some v) : ∃ val, (Instr.indexAt t xv (.int k i)).run P w = .ok val w ∧ R B w g v val := by
  have hrun : ∀ (ad : Addr) (n cap : Nat), i.toNat < n → (Instr.indexAt t (.slice (some ad) n cap) (.int k i)).run P w = .ok (.pointer (some (ad.add (i.toNat * esz)))) w := by
    intro ad n cap hn
    have h1 : (0 ≤ i ∧ i < (n : Int)) := ⟨h0, by omega⟩
    simp only [Instr.indexAt, asIntOf, Sem.run_bind, Sem.run_pure, Result.andThen_ok, run_underlying hu]
    simp only [h1, and_self, if_true, Sem.run_bind, szT_run hsz, Result.andThen_ok, Sem.run_pure]
  unfold elp at hev
  cases hx with
  | vs full es ad cap kk p es0 f had hsz' hc hr hcap hfull =>
    simp only at hev
    obtain ⟨c, hci, hev⟩ := Option.bind_eq_some_iff.1 hev
    split at hev
    · rename_i hcl
      injection hev with hev
      subst hev
      have hlt := (List.getElem?_eq_some_iff.1 hci).1
      have hes0 : es0 = esz := by rw [← hsz' c (List.mem_of_getElem? hci), hcl]
      subst hes0
      have had' := had (by intro e; subst e; simp at hlt)
      subst had'
      refine ⟨_, hrun _ _ _ hlt, ?_⟩
      rw [Addr.add_mid]
      refine .vptr c 0 kk (p + i.toNat * es0) (fun j => f i.toNat j) (fun j x hj => ?_) (fun j x hj => hr _ _ _ _ hci hj)
      obtain ⟨a, b, d⟩ := hc _ _ _ _ hci hj
      rw [Nat.add_assoc]
      exact ⟨a, b, d⟩
    · cases hev
  | rs a ver lo n G ad cap hg hv had =>
    simp only at hev
    split at hev
    · rename_i A hA
      split at hev
      · rename_i hcond
        obtain ⟨hver, hesz, hin⟩ := hcond
        injection hev with hev
        subst hev
        obtain ⟨e1, e2, _⟩ := H.arr a A G hA hg
        have had' := (had (by omega)).1
        subst had'
        refine ⟨_, hrun _ _ _ hin, .aptr a ver (lo + i.toNat) 0 G _ hg hv fun _ => ?_⟩
        rw [Addr.add_mid, e2, hesz]
        congr 1
        rw [Nat.add_mul, Nat.add_zero]
      · cases hev
    · cases hev
  | _ => simp at hev
end
end Go.Ab
