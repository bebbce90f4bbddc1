/- ProgramFlows: the document's Flow, and how the lists are held against one another. -/
import Derived.Test.YtjeffeobdpganaaGreatDoorPf
set_option linter.unusedSimpArgs false
set_option linter.unusedVariables false
namespace Go.Ab
namespace YtjeffeobdpganaaGreatDoor
set_option maxHeartbeats 8000000
set_option maxRecDepth 100000
theorem led0 (f : Bool) (x : Int) (bx : List Box) (ar : List Arr) (hw : Hp.okb ⟨bx, ar⟩ bx.length ar.length = true) : EF sys2 14 [.vs f [], .int .i64 x] ⟨bx, ar⟩ = some (.ret (.vs false [[.int .i64 x]]), ⟨bx, ar⟩) := by
  rw [ef_led rfl]
  have hw' := hw
  simp only [Hp.okb] at hw'
  simp [m14, EC_seq, EC_reg, EC_dreg, EC_block, EC_loop, EC_cond', EC_skip, EC_exit, EC_ret, EK, blk, evops, evd, sames, same, stp, grd, opv, evop, Opd.ev, back, puts, upd, env0, intOp, els, elp, ldc, stc, sub, splice, mkv, asIntA, optIx, appE, fillE, AV.cells, AV.isTup, AV.beq, fin, resV, one1, Hp.sb, Hp.pb, Hp.sa, Hp.pa, Hp.nb, Hp.na, IntKind.wrap, IntKind.bits, IntKind.signed, gc, AEnd.map, frz, frz1, els, AV.nrmLL, AV.nrmL, AV.nrm, AEnd.ok, AV.ok, AV.okLL, AV.okL, Hp.okb, Hp.tr, Box.ok, hw']
theorem led1lt (f : Bool) (a x : Int) (hx : x < a) (bx : List Box) (ar : List Arr) (hw : Hp.okb ⟨bx, ar⟩ bx.length ar.length = true) : EF sys2 14 [.vs f [[.int .i64 a]], .int .i64 x] ⟨bx, ar⟩ = some (.ret (.vs false [[.int .i64 x], [.int .i64 a]]), ⟨bx, ar⟩) := by
  rw [ef_led rfl]
  have hw' := hw
  simp only [Hp.okb] at hw'
  have h1 : x ≤ a := by omega
  have h2 : ¬ x = a := by omega
  simp [m14, EC_seq, EC_reg, EC_dreg, EC_block, EC_loop, EC_cond', EC_skip, EC_exit, EC_ret, EK, blk, evops, evd, sames, same, stp, grd, opv, evop, Opd.ev, back, puts, upd, env0, intOp, els, elp, ldc, stc, sub, splice, mkv, asIntA, optIx, appE, fillE, AV.cells, AV.isTup, AV.beq, fin, resV, one1, Hp.sb, Hp.pb, Hp.sa, Hp.pa, Hp.nb, Hp.na, IntKind.wrap, IntKind.bits, IntKind.signed, gc, AEnd.map, frz, frz1, els, AV.nrmLL, AV.nrmL, AV.nrm, AEnd.ok, AV.ok, AV.okLL, AV.okL, Hp.okb, Hp.tr, Box.ok, hw', h1, h2]
theorem led1eq (f : Bool) (a : Int) (bx : List Box) (ar : List Arr) (hw : Hp.okb ⟨bx, ar⟩ bx.length ar.length = true) : EF sys2 14 [.vs f [[.int .i64 a]], .int .i64 a] ⟨bx, ar⟩ = some (.ret (.vs false [[.int .i64 a]]), ⟨bx, ar⟩) := by
  rw [ef_led rfl]
  have hw' := hw
  simp only [Hp.okb] at hw'
  simp [m14, EC_seq, EC_reg, EC_dreg, EC_block, EC_loop, EC_cond', EC_skip, EC_exit, EC_ret, EK, blk, evops, evd, sames, same, stp, grd, opv, evop, Opd.ev, back, puts, upd, env0, intOp, els, elp, ldc, stc, sub, splice, mkv, asIntA, optIx, appE, fillE, AV.cells, AV.isTup, AV.beq, fin, resV, one1, Hp.sb, Hp.pb, Hp.sa, Hp.pa, Hp.nb, Hp.na, IntKind.wrap, IntKind.bits, IntKind.signed, gc, AEnd.map, frz, frz1, els, AV.nrmLL, AV.nrmL, AV.nrm, AEnd.ok, AV.ok, AV.okLL, AV.okL, Hp.okb, Hp.tr, Box.ok, hw']
theorem led1gt (f : Bool) (a x : Int) (hx : a < x) (bx : List Box) (ar : List Arr) (hw : Hp.okb ⟨bx, ar⟩ bx.length ar.length = true) : EF sys2 14 [.vs f [[.int .i64 a]], .int .i64 x] ⟨bx, ar⟩ = some (.ret (.vs false [[.int .i64 a], [.int .i64 x]]), ⟨bx, ar⟩) := by
  rw [ef_led rfl]
  have hw' := hw
  simp only [Hp.okb] at hw'
  have h1 : ¬ x ≤ a := by omega
  have h2 : ¬ x = a := by omega
  simp [m14, EC_seq, EC_reg, EC_dreg, EC_block, EC_loop, EC_cond', EC_skip, EC_exit, EC_ret, EK, blk, evops, evd, sames, same, stp, grd, opv, evop, Opd.ev, back, puts, upd, env0, intOp, els, elp, ldc, stc, sub, splice, mkv, asIntA, optIx, appE, fillE, AV.cells, AV.isTup, AV.beq, fin, resV, one1, Hp.sb, Hp.pb, Hp.sa, Hp.pa, Hp.nb, Hp.na, IntKind.wrap, IntKind.bits, IntKind.signed, gc, AEnd.map, frz, frz1, els, AV.nrmLL, AV.nrmL, AV.nrm, AEnd.ok, AV.ok, AV.okLL, AV.okL, Hp.okb, Hp.tr, Box.ok, hw', h1, h2]
theorem led2a (f : Bool) (a b : Int) (hx : a < b) (bx : List Box) (ar : List Arr) (hw : Hp.okb ⟨bx, ar⟩ bx.length ar.length = true) : EF sys2 14 [.vs f [[.int .i64 a], [.int .i64 b]], .int .i64 a] ⟨bx, ar⟩ = some (.ret (.vs false [[.int .i64 a], [.int .i64 b]]), ⟨bx, ar⟩) := by
  rw [ef_led rfl]
  have hw' := hw
  simp only [Hp.okb] at hw'
  have h1 : a ≤ b := by omega
  have h2 : ¬ a = b := by omega
  simp [m14, EC_seq, EC_reg, EC_dreg, EC_block, EC_loop, EC_cond', EC_skip, EC_exit, EC_ret, EK, blk, evops, evd, sames, same, stp, grd, opv, evop, Opd.ev, back, puts, upd, env0, intOp, els, elp, ldc, stc, sub, splice, mkv, asIntA, optIx, appE, fillE, AV.cells, AV.isTup, AV.beq, fin, resV, one1, Hp.sb, Hp.pb, Hp.sa, Hp.pa, Hp.nb, Hp.na, IntKind.wrap, IntKind.bits, IntKind.signed, gc, AEnd.map, frz, frz1, els, AV.nrmLL, AV.nrmL, AV.nrm, AEnd.ok, AV.ok, AV.okLL, AV.okL, Hp.okb, Hp.tr, Box.ok, hw', h1, h2]
theorem led2b (f : Bool) (a b : Int) (hx : a < b) (bx : List Box) (ar : List Arr) (hw : Hp.okb ⟨bx, ar⟩ bx.length ar.length = true) : EF sys2 14 [.vs f [[.int .i64 a], [.int .i64 b]], .int .i64 b] ⟨bx, ar⟩ = some (.ret (.vs false [[.int .i64 a], [.int .i64 b]]), ⟨bx, ar⟩) := by
  rw [ef_led rfl]
  have hw' := hw
  simp only [Hp.okb] at hw'
  have h1 : ¬ b ≤ a := by omega
  have h2 : ¬ b = a := by omega
  simp [m14, EC_seq, EC_reg, EC_dreg, EC_block, EC_loop, EC_cond', EC_skip, EC_exit, EC_ret, EK, blk, evops, evd, sames, same, stp, grd, opv, evop, Opd.ev, back, puts, upd, env0, intOp, els, elp, ldc, stc, sub, splice, mkv, asIntA, optIx, appE, fillE, AV.cells, AV.isTup, AV.beq, fin, resV, one1, Hp.sb, Hp.pb, Hp.sa, Hp.pa, Hp.nb, Hp.na, IntKind.wrap, IntKind.bits, IntKind.signed, gc, AEnd.map, frz, frz1, els, AV.nrmLL, AV.nrmL, AV.nrm, AEnd.ok, AV.ok, AV.okLL, AV.okL, Hp.okb, Hp.tr, Box.ok, hw', h1, h2]
theorem ints0 (f g : Bool) (h : Hp) : EF sys2 5 [.vs f [], .vs g []] h = some (.ret (.bool true), h) := by
  rw [ef_ints rfl]
  simp [m5, EC_seq, EC_reg, EC_dreg, EC_block, EC_loop, EC_cond', EC_skip, EC_exit, EC_ret, EK, blk, evops, evd, sames, same, stp, grd, opv, evop, Opd.ev, back, puts, upd, env0, intOp, els, elp, ldc, stc, sub, splice, mkv, asIntA, optIx, appE, fillE, AV.cells, AV.isTup, AV.beq, fin, resV, one1, Hp.sb, Hp.pb, Hp.sa, Hp.pa, Hp.nb, Hp.na, IntKind.wrap, IntKind.bits, IntKind.signed, gc]
theorem ints1 (f g : Bool) (x : Int) (h : Hp) : EF sys2 5 [.vs f [[.int .i64 x]], .vs g [[.int .i64 x]]] h = some (.ret (.bool true), h) := by
  rw [ef_ints rfl]
  simp [m5, EC_seq, EC_reg, EC_dreg, EC_block, EC_loop, EC_cond', EC_skip, EC_exit, EC_ret, EK, blk, evops, evd, sames, same, stp, grd, opv, evop, Opd.ev, back, puts, upd, env0, intOp, els, elp, ldc, stc, sub, splice, mkv, asIntA, optIx, appE, fillE, AV.cells, AV.isTup, AV.beq, fin, resV, one1, Hp.sb, Hp.pb, Hp.sa, Hp.pa, Hp.nb, Hp.na, IntKind.wrap, IntKind.bits, IntKind.signed, gc]
theorem ints2 (f g : Bool) (x y : Int) (h : Hp) : EF sys2 5 [.vs f [[.int .i64 x], [.int .i64 y]], .vs g [[.int .i64 x], [.int .i64 y]]] h = some (.ret (.bool true), h) := by
  rw [ef_ints rfl]
  simp [m5, EC_seq, EC_reg, EC_dreg, EC_block, EC_loop, EC_cond', EC_skip, EC_exit, EC_ret, EK, blk, evops, evd, sames, same, stp, grd, opv, evop, Opd.ev, back, puts, upd, env0, intOp, els, elp, ldc, stc, sub, splice, mkv, asIntA, optIx, appE, fillE, AV.cells, AV.isTup, AV.beq, fin, resV, one1, Hp.sb, Hp.pb, Hp.sa, Hp.pa, Hp.nb, Hp.na, IntKind.wrap, IntKind.bits, IntKind.signed, gc]
end YtjeffeobdpganaaGreatDoor
end Go.Ab
