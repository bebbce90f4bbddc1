/-
  ProgramFlows holds: of every program and every number of a step, program.Flow answers the list that the document's Flow answers, and both packages' small example (lives) is answered as the document says; the input reads behind the call as it did.
  Conditions: those of the row alone (the package variables that it lists are laid as the program's text lays them; the card ties them). Nothing is assumed beyond.
-/
import Derived.Test.YtjeffeobdpganaaGreatDoorPi
import Derived.Test.YtjeffeobdpganaaGreatDoorTie
import Derived.Test.YtjeffeobdpganaaGreatDoorCards
import Derived.SevenTiedAt
set_option linter.unusedSimpArgs false
set_option linter.unusedVariables false
namespace Go.Ab.YtjeffeobdpganaaGreatDoor
set_option maxRecDepth 1000000
theorem lives_ok : EF sys 4 [] ⟨[], []⟩ = some (.ret (.bool true), ⟨[], []⟩) :=
  (k_ok sys (tab_ok (l := [kn0, kn4, kn18]) (by intro k hk; simp only [List.mem_cons, List.mem_nil_iff, or_false] at hk; rcases hk with rfl | rfl | rfl <;> first | exact kt0 | exact kt4 | exact kt18)) 300).1 _ _ _ _ (by kernel_rfl)
theorem fits2 : Fits Go.Proofs.Tryz.prog sys2 := by
  have np : ∀ f, sys2.prim f = none → tp.get f = none := by
    intro f h
    simp only [sys2] at h
    cases hb : Nat.beq f 4 with
    | true => rw [hb] at h; cases h
    | false => rw [hb] at h; exact h
  refine ⟨fun f d _ h => Tr.get_all hd h, fun f m _ _ h => Tr.get_all hf h, fun f p h => ?_⟩
  simp only [sys2] at h
  cases hb : Nat.beq f 4 with
  | false => rw [hb] at h; exact Tr.get_all hp h
  | true =>
    rw [hb] at h
    injection h with h
    subst h
    have := Nat.eq_of_beq_eq_true hb
    subst this
    refine closed_ok fits lives_ok fun args h r h' hk => ?_
    unfold livesP at hk
    split at hk
    · injection hk with hk
      injection hk with h1 h2
      exact ⟨rfl, h1.symm, h2.symm⟩
    · cases hk
end Go.Ab.YtjeffeobdpganaaGreatDoor
namespace Go.Proofs.YtjeffeobdpganaaGreatDoor
open Go.ChangeShapes Go.WideShapes Go.ChangeAt Go.RowKit Go.Ab
theorem own : ownKnob Tryz.prog.godebug = none := by kernel_rfl
theorem lawFacts : LawFacts Tryz.prog Tryz.f3 [3, 4, 5, 9, 22, 23, 25, 41, 42, 43, 45, 46, 48, 50, 52, 53, 55, 57, 59, 159, 161] 4 :=
  ⟨by kernel_rfl, by kernel_rfl, by kernel_rfl, by kernel_rfl, by kernel_rfl, by kernel_rfl, by kernel_rfl, by kernel_rfl, by kernel_rfl, bne_iff_ne.1 (show (Tryz.f3.name != "runtime.NumGoroutine") = true by kernel_rfl), by kernel_rfl⟩
set_option maxRecDepth 100000 in
theorem lifted (os : Os) (started : os.Started) (H : Type) (enc : TypeId × Value → H) :
    ReturnsInHanded {} Tryz.checked os 3 .any (fun w args => (Rows.programFlowsSpec.pre enc Tryz.prog Tryz.f3 Rows.programFlowsRow.domain false w args ∧ laidMetH Tryz.prog Rows.programFlowsRow.laid w) ∧ sizedMet enc Tryz.prog Tryz.f3 (OpenSpec.ofChange Rows.programFlowsSpec) false w args)
      (Rows.programFlowsSpec.post enc Tryz.prog Tryz.f3 false true false false) := by
  refine returnsInHanded_of_change_and (C := Tryz.checked) (X := fun w _ => laidMetH Tryz.prog Rows.programFlowsRow.laid w) (fun _ _ _ hh h => h.of_heap hh) own started (by kernel_rfl) Tryz.func3
    (ChangeSpec.witness_shaped (enc := enc) (C := Tryz.checked) (os := os) (X := fun w _ => laidMetH Tryz.prog Rows.programFlowsRow.laid w) false (World.laidAll Tryz.prog os Rows.programFlowsRow.laid) #[.agg #[.slice none 0 0, .bool false, .slice none 0 0], .int .i64 0] 8 (World.laidAll_os _ _ _)
      (World.shaped_of_ZipB (by kernel_rfl) (by kernel_rfl)) (by kernel_rfl) (by kernel_rfl) (by kernel_rfl)
      (by rw [MakeChecks.laidMetH_plain _ _ _ (by kernel_rfl)]; exact laidMet_laidAll _ (by kernel_rfl) (by kernel_rfl))) ?_
  intro W base args ds gs before hval hW _ hwt _ _
  have hpar : Tryz.f3.params.toList = [25, 3] := by rw [Tryz.params3]
  refine law_contract Go.Ab.YtjeffeobdpganaaGreatDoor.fits2 Tryz.func3 lawFacts rfl (fun ds hl => ?_) (fun Ds hl hty => ?_) hval hW hwt
  · rw [hpar] at hl
    match ds, hl with
    | [d1, d2], _ => rfl
  · rw [hpar] at hl hty
    match Ds, hl, hty with
    | [p, d], _, hty => exact ⟨_, Go.Ab.YtjeffeobdpganaaGreatDoor.law_ok p d (hty 0 _ _ rfl rfl) (hty 1 _ _ rfl rfl)⟩
theorem row_holds : Rows.ProgramFlowsSaid :=
  OpenClaim.holds_of_wide 3 Tryz.f3 rfl rfl rfl rfl rfl rfl rfl ⟨rfl, rfl, rfl, rfl, rfl⟩ rfl rfl rfl rfl rfl (by kernel_rfl) Tryz.func3 (by kernel_rfl)
    (of_decide_eq_true (by kernel_rfl)) (by unfold Func.isWrapper; first | (rw [if_pos (by decide +kernel)]; kernel_rfl) | (rw [if_neg (by decide +kernel)]; exact ⟨rfl, rfl⟩))
    (fun os started H enc _ => lifted os started H enc)
theorem programFlows_holds : Rows.ProgramFlowsCardSaid :=
  Claim7.holds_tied_plain_at .later [] [.data, .data, .data, .data, .pinned] true (true, "545fab4860cbabbbb3f0fe22185d6a6ef12a297cd48fd9028f6bf25ef7fe4d71") true row_holds (fun _ h => by cases h) (by kernel_rfl) (fun _ h => by cases h) programFlows_row_tie rfl ⟨rfl, rfl⟩ (by kernel_rfl) rfl
    (fun f fn hf hfn => by
      obtain rfl : f = 3 := Option.some.inj ((show Tryz.prog.funcNamed "paddock/paddocklaw15.ProgramFlows" = some 3 by kernel_rfl).symm.trans hf) |>.symm
      obtain rfl : fn = Tryz.f3 := (Option.some.inj (Tryz.func3.symm.trans hfn)).symm
      exact ⟨by kernel_rfl, fun j t ht => by
        rw [Tryz.params3] at ht
        have hm : t ∈ [25, 3] := by simpa using Array.mem_of_getElem? ht
        have hall : ([25, 3].all fun u => !Tryz.prog.wantsStandIn u) = true := by kernel_rfl
        exact (show Tryz.prog.wantsStandIn t = false by simpa using List.all_eq_true.1 hall t hm)⟩)
    (by kernel_rfl)
#print axioms programFlows_holds
end Go.Proofs.YtjeffeobdpganaaGreatDoor
