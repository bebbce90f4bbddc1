/- A law's row out of the abstract machine: if on plain data it answers true, the row's contract stands. -/
import Derived.Test.YtjeffeobdpganaaGreatDoorAbOpen
import Derived.ProofKit
import Derived.OpenShut
import Derived.LaidMore
import Derived.Lay
import Derived.Stop.Joined
set_option linter.unusedSimpArgs false
set_option linter.unusedVariables false
namespace Go.Ab
open Go.ChangeShapes Go.WideShapes Go.RowKit

section
variable {H : Type} {enc : TypeId × Value → H} {P : Program}

theorem TrodAll.len {w : World} {base : Nat} {sp : Nat → Bool} {held : Bool} : ∀ {ts : List TypeId} {vs : List Value} {ds : List (DataW H)} {ps : List MemPlace}, DataW.TrodAll enc P w base sp held ts vs ds ps → ds.length = ts.length
  | [], [], [], _, _ => rfl
  | _ :: _, _ :: _, _ :: _, _, ⟨_, _, _, h2, _⟩ => by simp [TrodAll.len h2]

theorem TrodAll.carry {w w' : World} {base : Nat} {sp : Nat → Bool} {held : Bool} : ∀ {ts : List TypeId} {vs : List Value} {ds : List (DataW H)} {ps : List MemPlace}, DataW.TrodAll enc P w base sp held ts vs ds ps →
    (∀ p ∈ ps, w.sameAt w' p) → DataW.TrodAll enc P w' base sp held ts vs ds ps
  | [], [], [], _, h, _ => h
  | _ :: _, _ :: _, _ :: _, _, ⟨p, q, ⟨n, h1⟩, h2, e⟩, hs =>
    ⟨p, q, ⟨n, DataW.trod_carry n _ _ _ h1 fun x hx => hs x (by rw [e]; exact List.mem_append_left _ hx)⟩, TrodAll.carry h2 (fun x hx => hs x (by rw [e]; exact List.mem_append_right _ hx)), e⟩

/-- What the closed facts of a law's row are asked for. -/
structure LawFacts (P : Program) (fn : Func) (ts : List TypeId) (tb : TypeId) : Prop where
  laid : laidOutB P = true
  maps : mapsRowed P = true
  low : (ts.all fun t => decide (t < P.types.size)) = true
  plain : plainTys P ts = true
  one : (ts.all fun t => match P.underlying t with | some .bool | some (.int _) | some .string | some (.slice _) => P.cellsOf t == 1 | _ => true) = true
  full : ((List.range P.types.size).all fun t => match P.underlying t with | some (.slice e) => decide (0 < P.cellsOf e) | _ => true) = true
  params : (fn.params.toList.all ts.contains) = true
  res : fn.resultTypes = #[tb]
  bool : P.underlying tb = some .bool
  name : fn.name ≠ "runtime.NumGoroutine"
  body : fn.body.isSome = true

theorem law_contract {S : Sys} (F : Fits P S) {f : FuncId} {fn : Func} (hfn : P.funcs[f]? = some fn) {ts : List TypeId} {tb : TypeId} (L : LawFacts P fn ts tb) {s : ChangeSpec} (hvars : s.vars = [])
    (hs : ∀ ds : List (DataW H), ds.length = fn.params.toList.length → s.fn H ds = { results := [.lit (.bool true)], args := ds, vars := [] })
    (hev : ∀ Ds : List D, Ds.length = fn.params.toList.length → (∀ (j : Nat) t d, fn.params.toList[j]? = some t → Ds[j]? = some d → HasTy P t d) → ∃ h', EF S f (Ds.map D.val) ⟨[], []⟩ = some (.ret (.bool true), h'))
    {apart fresh handsOn again : Bool} {W : World} {base : Nat} {args : Array Value} {ds gs : List (DataW H)} {before : List MemPlace}
    (hok : ∀ (j : Nat) t v, fn.params[j]? = some t → args[j]? = some v → Value.okWide P W .any base t v)
    (hW : DataW.Whole enc P fn.params.toList s.vars apart W args.toList ds gs before)
    (hw : (DataW.weightsEach P (fn.params.toList ++ s.plain.varTypes P) (ds ++ gs)).all (· ≤ reachBytes) = true) :
    Calls P f args W fun e W' => ∃ v, e = .returned v ∧ s.post enc P fn apart fresh handsOn again W args v W' := by
  have hW' := hW
  obtain ⟨p, q, hA, hV, hpq, hfz, hnd⟩ := hW
  rw [hvars] at hV
  obtain ⟨rfl, rfl⟩ := trodVars_none hV
  have hvt : s.plain.varTypes P = [] := by
    show ({ name := s.name, vars := s.vars, fn := fun _ => [] } : DataSpec).varTypes P = []
    rw [hvars]
    rfl
  rw [hvt, List.append_nil, List.append_nil] at hw
  have hin : ∀ t ∈ fn.params.toList, t ∈ ts := fun t ht => by simpa using List.all_eq_true.1 L.params t ht
  have hlow : ∀ t ∈ ts, t < P.types.size := fun t ht => by simpa using List.all_eq_true.1 L.low t ht
  obtain ⟨Ds, d1, d2, d3⟩ := trodAll_open (g := g0 W) (B := W.heap.size) (r := .any) (base := base) L.laid hlow L.plain (fun k o h => h) (List.all_eq_true.1 L.one) fn.params.toList args.toList ds p hin
    (fun j t v ht hv => hok j t v (by simpa using ht) (by simpa using hv)) hw hA
  obtain ⟨h', hev'⟩ := hev Ds d1 d2
  have hl := TrodAll.len hA
  rcases EF_ok F _ _ _ _ _ hev' _ _ _ _ d3 (HR.start W) with ⟨fn', _, _, _, hc⟩ | ⟨val, w', hrun, _⟩
  · rw [Array.toArray_toList] at hc
    refine hc.mono fun e W' hp => ?_
    cases e with
    | returned val =>
      obtain ⟨v, g', hv, hR, _, hS⟩ := hp
      injection hv with hv
      subst hv
      cases hR
      refine ⟨_, rfl, ?_⟩
      have hB : Below W.heap.size W W' := hS.below
      have hlt : ∀ x ∈ before, x.block < W.heap.size := hW'.lt
      have hsame : ∀ x ∈ before, W.sameAt W' x := fun x hx => hB.same (hlt x hx)
      rw [List.append_nil] at hpq
      subst hpq
      have hsf : s.fn H (ds ++ []) = { results := [.lit (.bool true)], args := ds, vars := [] } := by rw [List.append_nil]; exact hs ds hl
      have hres : ∀ (b : Nat) (sp : Nat → Bool) (hd : Bool), DataW.TrodAll enc P W' b sp hd fn.resultTypes.toList ((Value.bool true).resultList fn.resultTypes.size) (s.fn H (ds ++ [])).results [] := by
        intro b sp hd
        rw [hsf, L.res]
        exact trodAll_mk1 (shut_bool L.bool _)
      have hargs : ∀ sp : Nat → Bool, (∀ p ∈ before, sp p.block = true) → DataW.TrodAll enc P W' 0 sp true fn.params.toList args.toList (s.fn H (ds ++ [])).args before := by
        intro sp hsp
        rw [hsf]
        exact TrodAll.carry (DataW.TrodAll.respare (kids_rows L.laid L.maps) (fun t e ht hu => slices_full_of P L.full t e ht hu) (fun t ht => hlow t (hin t ht)) hA hsp) hsame
      have hvs : ∀ sp : Nat → Bool, DataW.TrodVars enc P W' sp s.vars (s.fn H (ds ++ [])).vars [] := by
        intro sp
        rw [hsf, hvars]
        rfl
      refine ⟨ds, [], before, [], before, [], hW', hres _ _ _, hargs _ (fun x hx => by simpa using hlt x hx), hvs _, hB.frame _, fun _ => ⟨ok_one L.res rfl (okWide_bool_mk L.bool _), _, _, ([] ++ before) ++ [], ⟨[] ++ before, [], trodAll_append (hargs _ (fun _ _ => rfl)) (hres _ _ _), hvs _, rfl, ?_, ?_⟩, ?_⟩⟩
      · intro b off hp
        have hp' : MemPlace.cell b off ∈ before := by simpa using hp
        rw [hB.frozen (p := ⟨b, off, none⟩) (hlt _ hp')]
        exact hfz b off hp'
      · intro ha
        simpa using hnd ha
      · intro p hp _
        simpa using hp
    | panicked chain =>
      obtain ⟨v, val, g', hv, _⟩ := hp
      cases hv
    | outgrown => exact hp.elim
  · exfalso
    have hb' : fn.body ≠ none := fun e => by have := L.body; rw [e] at this; cases this
    have hcf : (callFunc f args.toList.toArray).run P W = .ok (.enter f args.toList.toArray) W := by
      simp [callFunc, hfn, L.name, hb']
    rw [hcf] at hrun
    cases hrun
end
end Go.Ab
