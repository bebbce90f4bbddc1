/- ProgramFlows: the two Flows, way by way (printed by a program). -/
import Derived.Test.YtjeffeobdpganaaGreatDoorPg
set_option linter.unusedSimpArgs false
set_option linter.unusedVariables false
namespace Go.Ab
namespace YtjeffeobdpganaaGreatDoor
set_option maxHeartbeats 16000000
set_option maxRecDepth 100000
/-- A program's cells, and the step that is asked of. -/
structure At (pc : List AV) (es : List (List AV)) (cs cc : List AV) (i to k nm : Int) (nt : Bool) : Prop where
  p0 : sub pc 0 1 = some [.vs false es]
  pl : pc.length = 3
  pok : ∀ nb na, AV.okL nb na pc = true
  i0 : 0 ≤ i
  il : i < es.length
  small : (es.length : Int) < 9223372036854775806
  e : es[i.toNat]? = some cs
  cl : cs.length = 55
  call : sub cs 0 55 = some cs
  c0 : sub cs 0 54 = some cc
  ccl : cc.length = 54
  csok : ∀ nb na, AV.okL nb na cs = true
  ccok : ∀ nb na, AV.okL nb na cc = true
  cto : sub cs 54 1 = some [.int .i64 to]
  ck : sub cc 1 1 = some [.int .u8 k]
  cnt : sub cc 31 1 = some [.bool nt]
  cnm : sub cc 32 1 = some [.int .u8 nm]
/-- Both Flows answer the same list. -/
def Both (pc : List AV) (i : Int) : Prop := ∃ (f g : Bool) (L : List (List AV)), (∀ h, EF sys2 5 [.vs f L, .vs g L] h = some (.ret (.bool true), h)) ∧
  EF sys2 6 [.agg pc, .int .i64 i] ⟨[.cells 25 pc], []⟩ = some (.ret (.vs f L), ⟨[.cells 25 pc], []⟩) ∧ EF sys2 7 [.agg pc, .int .i64 i] ⟨[.cells 25 pc], []⟩ = some (.ret (.vs g L), ⟨[.cells 25 pc], []⟩)
end YtjeffeobdpganaaGreatDoor
end Go.Ab
