/- ProgramFlows: the two Flows, way by way (printed by a program). -/
import Derived.Test.YtjeffeobdpganaaGreatDoorPh
set_option linter.unusedSimpArgs false
set_option linter.unusedVariables false
namespace Go.Ab
namespace YtjeffeobdpganaaGreatDoor
set_option maxHeartbeats 16000000
set_option maxRecDepth 100000
theorem leaf_both_123_lt {pc : List AV} {es : List (List AV)} {cs cc : List AV} {i to k nm : Int} {nt : Bool} (A : At pc es cs cc i to k 123 nt) (hk : ¬ k = 0) (ho : to < i + 1) : Both pc i := by
  have hi : ¬ i < 0 := by have := A.i0; omega
  have hl : ¬ (es.length : Int) ≤ i := by have := A.il; omega
  have hn : ¬ i + 1 < i + 1 := by omega
  have hb : i < 9223372036854775806 := by have := A.il; have := A.small; omega
  have hi0 := A.i0
  have hw : IntKind.wrap .i64 (i + 1) = i + 1 := by rw [IntKind.wrap_i64]; omega
  have hkb : (k != 0) = true := by simpa using hk
  have e1 : ¬ to = i + 1 := by omega
  have e2 : ¬ i + 1 = to := by omega
  have e3 : ¬ i + 1 < to := by omega
  refine ⟨false, false, [[.int .i64 to], [.int .i64 (i + 1)]], fun h => ints2 _ _ _ _ h, ?_, ?_⟩
  · rw [ef_flow rfl]
    simp [m6, EC_seq, EC_reg, EC_dreg, EC_block, EC_loop, EC_cond', EC_skip, EC_exit, EC_ret, EK, blk, evops, evd, sames, same, stp, grd, opv, evop, Opd.ev, back, puts, upd, env0, intOp, els, elp, ldc, stc, splice, mkv, asIntA, optIx, appE, fillE, AV.cells, AV.isTup, AV.beq, AV.beqL, AV.beqLL, fin, resV, one1, Hp.sb, Hp.pb, Hp.sa, Hp.pa, Hp.nb, Hp.na, gc, AEnd.map, frz, frz1, els, AV.nrmLL, AV.nrmL, AV.nrm, AEnd.ok, AV.ok, AV.okLL, AV.okL, Hp.okb, Hp.tr, Box.ok, hi, hi0, hl, hn, hw, A.p0, A.pl, A.pok, A.e, A.cl, A.call, A.c0, A.ccl, A.cto, A.ck, A.cnt, A.cnm, next_ok i _ A.i0 hb, hk, hkb, A.csok, A.ccok, e1, e2, e3, ho, sort0, sort1, sort2, sort3, compact0, compact1, compact2, compact2e, compact3e, compact3a, compact3b]
  · rw [ef_ref rfl]
    simp [m7, EC_seq, EC_reg, EC_dreg, EC_block, EC_loop, EC_cond', EC_skip, EC_exit, EC_ret, EK, blk, evops, evd, sames, same, stp, grd, opv, evop, Opd.ev, back, puts, upd, env0, intOp, els, elp, ldc, stc, splice, mkv, asIntA, optIx, appE, fillE, AV.cells, AV.isTup, AV.beq, AV.beqL, AV.beqLL, fin, resV, one1, Hp.sb, Hp.pb, Hp.sa, Hp.pa, Hp.nb, Hp.na, gc, AEnd.map, frz, frz1, els, AV.nrmLL, AV.nrmL, AV.nrm, AEnd.ok, AV.ok, AV.okLL, AV.okL, Hp.okb, Hp.tr, Box.ok, hi, hi0, hl, hn, hw, A.p0, A.pl, A.pok, A.e, A.cl, A.call, A.c0, A.ccl, A.cto, A.ck, A.cnt, A.cnm, next_ok i _ A.i0 hb, hk, hkb, A.csok, A.ccok, e1, e2, e3, ho, led0, led1lt, led1eq, led1gt, led2a, led2b]
theorem leaf_both_98_eq {pc : List AV} {es : List (List AV)} {cs cc : List AV} {i to k nm : Int} {nt : Bool} (A : At pc es cs cc i (i + 1) k 98 nt) (hk : ¬ k = 0) : Both pc i := by
  have hi : ¬ i < 0 := by have := A.i0; omega
  have hl : ¬ (es.length : Int) ≤ i := by have := A.il; omega
  have hn : ¬ i + 1 < i + 1 := by omega
  have hb : i < 9223372036854775806 := by have := A.il; have := A.small; omega
  have hi0 := A.i0
  have hw : IntKind.wrap .i64 (i + 1) = i + 1 := by rw [IntKind.wrap_i64]; omega
  have hkb : (k != 0) = true := by simpa using hk
  refine ⟨false, false, [[.int .i64 (i + 1)]], fun h => ints1 _ _ _ h, ?_, ?_⟩
  · rw [ef_flow rfl]
    simp [m6, EC_seq, EC_reg, EC_dreg, EC_block, EC_loop, EC_cond', EC_skip, EC_exit, EC_ret, EK, blk, evops, evd, sames, same, stp, grd, opv, evop, Opd.ev, back, puts, upd, env0, intOp, els, elp, ldc, stc, splice, mkv, asIntA, optIx, appE, fillE, AV.cells, AV.isTup, AV.beq, AV.beqL, AV.beqLL, fin, resV, one1, Hp.sb, Hp.pb, Hp.sa, Hp.pa, Hp.nb, Hp.na, gc, AEnd.map, frz, frz1, els, AV.nrmLL, AV.nrmL, AV.nrm, AEnd.ok, AV.ok, AV.okLL, AV.okL, Hp.okb, Hp.tr, Box.ok, hi, hi0, hl, hn, hw, A.p0, A.pl, A.pok, A.e, A.cl, A.call, A.c0, A.ccl, A.cto, A.ck, A.cnt, A.cnm, next_ok i _ A.i0 hb, hk, hkb, A.csok, A.ccok, sort0, sort1, sort2, sort3, compact0, compact1, compact2, compact2e, compact3e, compact3a, compact3b]
  · rw [ef_ref rfl]
    simp [m7, EC_seq, EC_reg, EC_dreg, EC_block, EC_loop, EC_cond', EC_skip, EC_exit, EC_ret, EK, blk, evops, evd, sames, same, stp, grd, opv, evop, Opd.ev, back, puts, upd, env0, intOp, els, elp, ldc, stc, splice, mkv, asIntA, optIx, appE, fillE, AV.cells, AV.isTup, AV.beq, AV.beqL, AV.beqLL, fin, resV, one1, Hp.sb, Hp.pb, Hp.sa, Hp.pa, Hp.nb, Hp.na, gc, AEnd.map, frz, frz1, els, AV.nrmLL, AV.nrmL, AV.nrm, AEnd.ok, AV.ok, AV.okLL, AV.okL, Hp.okb, Hp.tr, Box.ok, hi, hi0, hl, hn, hw, A.p0, A.pl, A.pok, A.e, A.cl, A.call, A.c0, A.ccl, A.cto, A.ck, A.cnt, A.cnm, next_ok i _ A.i0 hb, hk, hkb, A.csok, A.ccok, led0, led1lt, led1eq, led1gt, led2a, led2b]
theorem leaf_both_116_gt {pc : List AV} {es : List (List AV)} {cs cc : List AV} {i to k nm : Int} {nt : Bool} (A : At pc es cs cc i to k 116 nt) (hk : ¬ k = 0) (ho : i + 1 < to) : Both pc i := by
  have hi : ¬ i < 0 := by have := A.i0; omega
  have hl : ¬ (es.length : Int) ≤ i := by have := A.il; omega
  have hn : ¬ i + 1 < i + 1 := by omega
  have hb : i < 9223372036854775806 := by have := A.il; have := A.small; omega
  have hi0 := A.i0
  have hw : IntKind.wrap .i64 (i + 1) = i + 1 := by rw [IntKind.wrap_i64]; omega
  have hkb : (k != 0) = true := by simpa using hk
  have e1 : ¬ to = i + 1 := by omega
  have e2 : ¬ i + 1 = to := by omega
  have e3 : ¬ to < i + 1 := by omega
  refine ⟨false, false, [[.int .i64 (i + 1)], [.int .i64 to]], fun h => ints2 _ _ _ _ h, ?_, ?_⟩
  · rw [ef_flow rfl]
    simp [m6, EC_seq, EC_reg, EC_dreg, EC_block, EC_loop, EC_cond', EC_skip, EC_exit, EC_ret, EK, blk, evops, evd, sames, same, stp, grd, opv, evop, Opd.ev, back, puts, upd, env0, intOp, els, elp, ldc, stc, splice, mkv, asIntA, optIx, appE, fillE, AV.cells, AV.isTup, AV.beq, AV.beqL, AV.beqLL, fin, resV, one1, Hp.sb, Hp.pb, Hp.sa, Hp.pa, Hp.nb, Hp.na, gc, AEnd.map, frz, frz1, els, AV.nrmLL, AV.nrmL, AV.nrm, AEnd.ok, AV.ok, AV.okLL, AV.okL, Hp.okb, Hp.tr, Box.ok, hi, hi0, hl, hn, hw, A.p0, A.pl, A.pok, A.e, A.cl, A.call, A.c0, A.ccl, A.cto, A.ck, A.cnt, A.cnm, next_ok i _ A.i0 hb, hk, hkb, A.csok, A.ccok, e1, e2, e3, ho, sort0, sort1, sort2, sort3, compact0, compact1, compact2, compact2e, compact3e, compact3a, compact3b]
  · rw [ef_ref rfl]
    simp [m7, EC_seq, EC_reg, EC_dreg, EC_block, EC_loop, EC_cond', EC_skip, EC_exit, EC_ret, EK, blk, evops, evd, sames, same, stp, grd, opv, evop, Opd.ev, back, puts, upd, env0, intOp, els, elp, ldc, stc, splice, mkv, asIntA, optIx, appE, fillE, AV.cells, AV.isTup, AV.beq, AV.beqL, AV.beqLL, fin, resV, one1, Hp.sb, Hp.pb, Hp.sa, Hp.pa, Hp.nb, Hp.na, gc, AEnd.map, frz, frz1, els, AV.nrmLL, AV.nrmL, AV.nrm, AEnd.ok, AV.ok, AV.okLL, AV.okL, Hp.okb, Hp.tr, Box.ok, hi, hi0, hl, hn, hw, A.p0, A.pl, A.pok, A.e, A.cl, A.call, A.c0, A.ccl, A.cto, A.ck, A.cnt, A.cnm, next_ok i _ A.i0 hb, hk, hkb, A.csok, A.ccok, e1, e2, e3, ho, led0, led1lt, led1eq, led1gt, led2a, led2b]
theorem leaf_both_100_lt {pc : List AV} {es : List (List AV)} {cs cc : List AV} {i to k nm : Int} {nt : Bool} (A : At pc es cs cc i to k 100 nt) (hk : ¬ k = 0) (ho : i + 1 < es.length) : Both pc i := by
  have hi : ¬ i < 0 := by have := A.i0; omega
  have hl : ¬ (es.length : Int) ≤ i := by have := A.il; omega
  have hn : ¬ i + 1 < i + 1 := by omega
  have hb : i < 9223372036854775806 := by have := A.il; have := A.small; omega
  have hi0 := A.i0
  have hw : IntKind.wrap .i64 (i + 1) = i + 1 := by rw [IntKind.wrap_i64]; omega
  have hkb : (k != 0) = true := by simpa using hk
  have e1 : ¬ (es.length : Int) = i + 1 := by omega
  have e2 : ¬ i + 1 = (es.length : Int) := by omega
  have e3 : ¬ (es.length : Int) < i + 1 := by omega
  refine ⟨false, false, [[.int .i64 (i + 1)], [.int .i64 (es.length : Int)]], fun h => ints2 _ _ _ _ h, ?_, ?_⟩
  · rw [ef_flow rfl]
    simp [m6, EC_seq, EC_reg, EC_dreg, EC_block, EC_loop, EC_cond', EC_skip, EC_exit, EC_ret, EK, blk, evops, evd, sames, same, stp, grd, opv, evop, Opd.ev, back, puts, upd, env0, intOp, els, elp, ldc, stc, splice, mkv, asIntA, optIx, appE, fillE, AV.cells, AV.isTup, AV.beq, AV.beqL, AV.beqLL, fin, resV, one1, Hp.sb, Hp.pb, Hp.sa, Hp.pa, Hp.nb, Hp.na, gc, AEnd.map, frz, frz1, els, AV.nrmLL, AV.nrmL, AV.nrm, AEnd.ok, AV.ok, AV.okLL, AV.okL, Hp.okb, Hp.tr, Box.ok, hi, hi0, hl, hn, hw, A.p0, A.pl, A.pok, A.e, A.cl, A.call, A.c0, A.ccl, A.cto, A.ck, A.cnt, A.cnm, next_ok i _ A.i0 hb, hk, hkb, A.csok, A.ccok, e1, e2, e3, ho, sort0, sort1, sort2, sort3, compact0, compact1, compact2, compact2e, compact3e, compact3a, compact3b]
  · rw [ef_ref rfl]
    simp [m7, EC_seq, EC_reg, EC_dreg, EC_block, EC_loop, EC_cond', EC_skip, EC_exit, EC_ret, EK, blk, evops, evd, sames, same, stp, grd, opv, evop, Opd.ev, back, puts, upd, env0, intOp, els, elp, ldc, stc, splice, mkv, asIntA, optIx, appE, fillE, AV.cells, AV.isTup, AV.beq, AV.beqL, AV.beqLL, fin, resV, one1, Hp.sb, Hp.pb, Hp.sa, Hp.pa, Hp.nb, Hp.na, gc, AEnd.map, frz, frz1, els, AV.nrmLL, AV.nrmL, AV.nrm, AEnd.ok, AV.ok, AV.okLL, AV.okL, Hp.okb, Hp.tr, Box.ok, hi, hi0, hl, hn, hw, A.p0, A.pl, A.pok, A.e, A.cl, A.call, A.c0, A.ccl, A.cto, A.ck, A.cnt, A.cnm, next_ok i _ A.i0 hb, hk, hkb, A.csok, A.ccok, e1, e2, e3, ho, led0, led1lt, led1eq, led1gt, led2a, led2b]
theorem leaf_both_99_lt {pc : List AV} {es : List (List AV)} {cs cc : List AV} {i to k nm : Int} {nt : Bool} (A : At pc es cs cc i to k 99 nt) (hk : ¬ k = 0) (ho : i + 1 < es.length) : Both pc i := by
  have hi : ¬ i < 0 := by have := A.i0; omega
  have hl : ¬ (es.length : Int) ≤ i := by have := A.il; omega
  have hn : ¬ i + 1 < i + 1 := by omega
  have hb : i < 9223372036854775806 := by have := A.il; have := A.small; omega
  have hi0 := A.i0
  have hw : IntKind.wrap .i64 (i + 1) = i + 1 := by rw [IntKind.wrap_i64]; omega
  have hkb : (k != 0) = true := by simpa using hk
  have e1 : ¬ (es.length : Int) = i + 1 := by omega
  have e2 : ¬ i + 1 = (es.length : Int) := by omega
  have e3 : ¬ (es.length : Int) < i + 1 := by omega
  refine ⟨false, false, [[.int .i64 (i + 1)], [.int .i64 (es.length : Int)]], fun h => ints2 _ _ _ _ h, ?_, ?_⟩
  · rw [ef_flow rfl]
    simp [m6, EC_seq, EC_reg, EC_dreg, EC_block, EC_loop, EC_cond', EC_skip, EC_exit, EC_ret, EK, blk, evops, evd, sames, same, stp, grd, opv, evop, Opd.ev, back, puts, upd, env0, intOp, els, elp, ldc, stc, splice, mkv, asIntA, optIx, appE, fillE, AV.cells, AV.isTup, AV.beq, AV.beqL, AV.beqLL, fin, resV, one1, Hp.sb, Hp.pb, Hp.sa, Hp.pa, Hp.nb, Hp.na, gc, AEnd.map, frz, frz1, els, AV.nrmLL, AV.nrmL, AV.nrm, AEnd.ok, AV.ok, AV.okLL, AV.okL, Hp.okb, Hp.tr, Box.ok, hi, hi0, hl, hn, hw, A.p0, A.pl, A.pok, A.e, A.cl, A.call, A.c0, A.ccl, A.cto, A.ck, A.cnt, A.cnm, next_ok i _ A.i0 hb, hk, hkb, A.csok, A.ccok, e1, e2, e3, ho, sort0, sort1, sort2, sort3, compact0, compact1, compact2, compact2e, compact3e, compact3a, compact3b]
  · rw [ef_ref rfl]
    simp [m7, EC_seq, EC_reg, EC_dreg, EC_block, EC_loop, EC_cond', EC_skip, EC_exit, EC_ret, EK, blk, evops, evd, sames, same, stp, grd, opv, evop, Opd.ev, back, puts, upd, env0, intOp, els, elp, ldc, stc, splice, mkv, asIntA, optIx, appE, fillE, AV.cells, AV.isTup, AV.beq, AV.beqL, AV.beqLL, fin, resV, one1, Hp.sb, Hp.pb, Hp.sa, Hp.pa, Hp.nb, Hp.na, gc, AEnd.map, frz, frz1, els, AV.nrmLL, AV.nrmL, AV.nrm, AEnd.ok, AV.ok, AV.okLL, AV.okL, Hp.okb, Hp.tr, Box.ok, hi, hi0, hl, hn, hw, A.p0, A.pl, A.pok, A.e, A.cl, A.call, A.c0, A.ccl, A.cto, A.ck, A.cnt, A.cnm, next_ok i _ A.i0 hb, hk, hkb, A.csok, A.ccok, e1, e2, e3, ho, led0, led1lt, led1eq, led1gt, led2a, led2b]
theorem leaf_both_78_lt {pc : List AV} {es : List (List AV)} {cs cc : List AV} {i to k nm : Int} {nt : Bool} (A : At pc es cs cc i to k 78 nt) (hk : ¬ k = 0) (ho : i + 1 < es.length) : Both pc i := by
  have hi : ¬ i < 0 := by have := A.i0; omega
  have hl : ¬ (es.length : Int) ≤ i := by have := A.il; omega
  have hn : ¬ i + 1 < i + 1 := by omega
  have hb : i < 9223372036854775806 := by have := A.il; have := A.small; omega
  have hi0 := A.i0
  have hw : IntKind.wrap .i64 (i + 1) = i + 1 := by rw [IntKind.wrap_i64]; omega
  have hkb : (k != 0) = true := by simpa using hk
  have e1 : ¬ (es.length : Int) = i + 1 := by omega
  have e2 : ¬ i + 1 = (es.length : Int) := by omega
  have e3 : ¬ (es.length : Int) < i + 1 := by omega
  refine ⟨false, false, [[.int .i64 (i + 1)], [.int .i64 (es.length : Int)]], fun h => ints2 _ _ _ _ h, ?_, ?_⟩
  · rw [ef_flow rfl]
    simp [m6, EC_seq, EC_reg, EC_dreg, EC_block, EC_loop, EC_cond', EC_skip, EC_exit, EC_ret, EK, blk, evops, evd, sames, same, stp, grd, opv, evop, Opd.ev, back, puts, upd, env0, intOp, els, elp, ldc, stc, splice, mkv, asIntA, optIx, appE, fillE, AV.cells, AV.isTup, AV.beq, AV.beqL, AV.beqLL, fin, resV, one1, Hp.sb, Hp.pb, Hp.sa, Hp.pa, Hp.nb, Hp.na, gc, AEnd.map, frz, frz1, els, AV.nrmLL, AV.nrmL, AV.nrm, AEnd.ok, AV.ok, AV.okLL, AV.okL, Hp.okb, Hp.tr, Box.ok, hi, hi0, hl, hn, hw, A.p0, A.pl, A.pok, A.e, A.cl, A.call, A.c0, A.ccl, A.cto, A.ck, A.cnt, A.cnm, next_ok i _ A.i0 hb, hk, hkb, A.csok, A.ccok, e1, e2, e3, ho, sort0, sort1, sort2, sort3, compact0, compact1, compact2, compact2e, compact3e, compact3a, compact3b]
  · rw [ef_ref rfl]
    simp [m7, EC_seq, EC_reg, EC_dreg, EC_block, EC_loop, EC_cond', EC_skip, EC_exit, EC_ret, EK, blk, evops, evd, sames, same, stp, grd, opv, evop, Opd.ev, back, puts, upd, env0, intOp, els, elp, ldc, stc, splice, mkv, asIntA, optIx, appE, fillE, AV.cells, AV.isTup, AV.beq, AV.beqL, AV.beqLL, fin, resV, one1, Hp.sb, Hp.pb, Hp.sa, Hp.pa, Hp.nb, Hp.na, gc, AEnd.map, frz, frz1, els, AV.nrmLL, AV.nrmL, AV.nrm, AEnd.ok, AV.ok, AV.okLL, AV.okL, Hp.okb, Hp.tr, Box.ok, hi, hi0, hl, hn, hw, A.p0, A.pl, A.pok, A.e, A.cl, A.call, A.c0, A.ccl, A.cto, A.ck, A.cnt, A.cnm, next_ok i _ A.i0 hb, hk, hkb, A.csok, A.ccok, e1, e2, e3, ho, led0, led1lt, led1eq, led1gt, led2a, led2b]
theorem leaf_both_x_o {pc : List AV} {es : List (List AV)} {cs cc : List AV} {i to k nm : Int} {nt : Bool} (A : At pc es cs cc i to k nm nt) (hk : ¬ k = 0) (h123 : ¬ nm = 123) (h98 : ¬ nm = 98) (h116 : ¬ nm = 116) (h84 : ¬ nm = 84) (h100 : ¬ nm = 100) (h68 : ¬ nm = 68) (h99 : ¬ nm = 99) (h110 : ¬ nm = 110) (h78 : ¬ nm = 78) (h113 : ¬ nm = 113) (h81 : ¬ nm = 81) : Both pc i := by
  have hi : ¬ i < 0 := by have := A.i0; omega
  have hl : ¬ (es.length : Int) ≤ i := by have := A.il; omega
  have hn : ¬ i + 1 < i + 1 := by omega
  have hb : i < 9223372036854775806 := by have := A.il; have := A.small; omega
  have hi0 := A.i0
  have hw : IntKind.wrap .i64 (i + 1) = i + 1 := by rw [IntKind.wrap_i64]; omega
  have hkb : (k != 0) = true := by simpa using hk
  refine ⟨false, false, [[.int .i64 (i + 1)]], fun h => ints1 _ _ _ h, ?_, ?_⟩
  · rw [ef_flow rfl]
    simp [m6, EC_seq, EC_reg, EC_dreg, EC_block, EC_loop, EC_cond', EC_skip, EC_exit, EC_ret, EK, blk, evops, evd, sames, same, stp, grd, opv, evop, Opd.ev, back, puts, upd, env0, intOp, els, elp, ldc, stc, splice, mkv, asIntA, optIx, appE, fillE, AV.cells, AV.isTup, AV.beq, AV.beqL, AV.beqLL, fin, resV, one1, Hp.sb, Hp.pb, Hp.sa, Hp.pa, Hp.nb, Hp.na, gc, AEnd.map, frz, frz1, els, AV.nrmLL, AV.nrmL, AV.nrm, AEnd.ok, AV.ok, AV.okLL, AV.okL, Hp.okb, Hp.tr, Box.ok, hi, hi0, hl, hn, hw, A.p0, A.pl, A.pok, A.e, A.cl, A.call, A.c0, A.ccl, A.cto, A.ck, A.cnt, A.cnm, next_ok i _ A.i0 hb, hk, hkb, A.csok, A.ccok, h123, h98, h116, h84, h100, h68, h99, h110, h78, h113, h81, sort0, sort1, sort2, sort3, compact0, compact1, compact2, compact2e, compact3e, compact3a, compact3b]
  · rw [ef_ref rfl]
    simp [m7, EC_seq, EC_reg, EC_dreg, EC_block, EC_loop, EC_cond', EC_skip, EC_exit, EC_ret, EK, blk, evops, evd, sames, same, stp, grd, opv, evop, Opd.ev, back, puts, upd, env0, intOp, els, elp, ldc, stc, splice, mkv, asIntA, optIx, appE, fillE, AV.cells, AV.isTup, AV.beq, AV.beqL, AV.beqLL, fin, resV, one1, Hp.sb, Hp.pb, Hp.sa, Hp.pa, Hp.nb, Hp.na, gc, AEnd.map, frz, frz1, els, AV.nrmLL, AV.nrmL, AV.nrm, AEnd.ok, AV.ok, AV.okLL, AV.okL, Hp.okb, Hp.tr, Box.ok, hi, hi0, hl, hn, hw, A.p0, A.pl, A.pok, A.e, A.cl, A.call, A.c0, A.ccl, A.cto, A.ck, A.cnt, A.cnm, next_ok i _ A.i0 hb, hk, hkb, A.csok, A.ccok, h123, h98, h116, h84, h100, h68, h99, h110, h78, h113, h81, led0, led1lt, led1eq, led1gt, led2a, led2b]
theorem leaf_second_116_eq {pc : List AV} {es : List (List AV)} {cs cc : List AV} {i to k nm : Int} {nt : Bool} (A : At pc es cs cc i (i + 1) 0 116 false)  : Both pc i := by
  have hi : ¬ i < 0 := by have := A.i0; omega
  have hl : ¬ (es.length : Int) ≤ i := by have := A.il; omega
  have hn : ¬ i + 1 < i + 1 := by omega
  have hb : i < 9223372036854775806 := by have := A.il; have := A.small; omega
  have hi0 := A.i0
  have hw : IntKind.wrap .i64 (i + 1) = i + 1 := by rw [IntKind.wrap_i64]; omega
  refine ⟨false, false, [[.int .i64 (i + 1)]], fun h => ints1 _ _ _ h, ?_, ?_⟩
  · rw [ef_flow rfl]
    simp [m6, EC_seq, EC_reg, EC_dreg, EC_block, EC_loop, EC_cond', EC_skip, EC_exit, EC_ret, EK, blk, evops, evd, sames, same, stp, grd, opv, evop, Opd.ev, back, puts, upd, env0, intOp, els, elp, ldc, stc, splice, mkv, asIntA, optIx, appE, fillE, AV.cells, AV.isTup, AV.beq, AV.beqL, AV.beqLL, fin, resV, one1, Hp.sb, Hp.pb, Hp.sa, Hp.pa, Hp.nb, Hp.na, gc, AEnd.map, frz, frz1, els, AV.nrmLL, AV.nrmL, AV.nrm, AEnd.ok, AV.ok, AV.okLL, AV.okL, Hp.okb, Hp.tr, Box.ok, hi, hi0, hl, hn, hw, A.p0, A.pl, A.pok, A.e, A.cl, A.call, A.c0, A.ccl, A.cto, A.ck, A.cnt, A.cnm, next_ok i _ A.i0 hb, A.csok, A.ccok, sort0, sort1, sort2, sort3, compact0, compact1, compact2, compact2e, compact3e, compact3a, compact3b]
  · rw [ef_ref rfl]
    simp [m7, EC_seq, EC_reg, EC_dreg, EC_block, EC_loop, EC_cond', EC_skip, EC_exit, EC_ret, EK, blk, evops, evd, sames, same, stp, grd, opv, evop, Opd.ev, back, puts, upd, env0, intOp, els, elp, ldc, stc, splice, mkv, asIntA, optIx, appE, fillE, AV.cells, AV.isTup, AV.beq, AV.beqL, AV.beqLL, fin, resV, one1, Hp.sb, Hp.pb, Hp.sa, Hp.pa, Hp.nb, Hp.na, gc, AEnd.map, frz, frz1, els, AV.nrmLL, AV.nrmL, AV.nrm, AEnd.ok, AV.ok, AV.okLL, AV.okL, Hp.okb, Hp.tr, Box.ok, hi, hi0, hl, hn, hw, A.p0, A.pl, A.pok, A.e, A.cl, A.call, A.c0, A.ccl, A.cto, A.ck, A.cnt, A.cnm, next_ok i _ A.i0 hb, A.csok, A.ccok, led0, led1lt, led1eq, led1gt, led2a, led2b]
theorem leaf_second_84_gt {pc : List AV} {es : List (List AV)} {cs cc : List AV} {i to k nm : Int} {nt : Bool} (A : At pc es cs cc i to 0 84 false) (ho : i + 1 < to) : Both pc i := by
  have hi : ¬ i < 0 := by have := A.i0; omega
  have hl : ¬ (es.length : Int) ≤ i := by have := A.il; omega
  have hn : ¬ i + 1 < i + 1 := by omega
  have hb : i < 9223372036854775806 := by have := A.il; have := A.small; omega
  have hi0 := A.i0
  have hw : IntKind.wrap .i64 (i + 1) = i + 1 := by rw [IntKind.wrap_i64]; omega
  have e1 : ¬ to = i + 1 := by omega
  have e2 : ¬ i + 1 = to := by omega
  have e3 : ¬ to < i + 1 := by omega
  refine ⟨false, false, [[.int .i64 (i + 1)], [.int .i64 to]], fun h => ints2 _ _ _ _ h, ?_, ?_⟩
  · rw [ef_flow rfl]
    simp [m6, EC_seq, EC_reg, EC_dreg, EC_block, EC_loop, EC_cond', EC_skip, EC_exit, EC_ret, EK, blk, evops, evd, sames, same, stp, grd, opv, evop, Opd.ev, back, puts, upd, env0, intOp, els, elp, ldc, stc, splice, mkv, asIntA, optIx, appE, fillE, AV.cells, AV.isTup, AV.beq, AV.beqL, AV.beqLL, fin, resV, one1, Hp.sb, Hp.pb, Hp.sa, Hp.pa, Hp.nb, Hp.na, gc, AEnd.map, frz, frz1, els, AV.nrmLL, AV.nrmL, AV.nrm, AEnd.ok, AV.ok, AV.okLL, AV.okL, Hp.okb, Hp.tr, Box.ok, hi, hi0, hl, hn, hw, A.p0, A.pl, A.pok, A.e, A.cl, A.call, A.c0, A.ccl, A.cto, A.ck, A.cnt, A.cnm, next_ok i _ A.i0 hb, A.csok, A.ccok, e1, e2, e3, ho, sort0, sort1, sort2, sort3, compact0, compact1, compact2, compact2e, compact3e, compact3a, compact3b]
  · rw [ef_ref rfl]
    simp [m7, EC_seq, EC_reg, EC_dreg, EC_block, EC_loop, EC_cond', EC_skip, EC_exit, EC_ret, EK, blk, evops, evd, sames, same, stp, grd, opv, evop, Opd.ev, back, puts, upd, env0, intOp, els, elp, ldc, stc, splice, mkv, asIntA, optIx, appE, fillE, AV.cells, AV.isTup, AV.beq, AV.beqL, AV.beqLL, fin, resV, one1, Hp.sb, Hp.pb, Hp.sa, Hp.pa, Hp.nb, Hp.na, gc, AEnd.map, frz, frz1, els, AV.nrmLL, AV.nrmL, AV.nrm, AEnd.ok, AV.ok, AV.okLL, AV.okL, Hp.okb, Hp.tr, Box.ok, hi, hi0, hl, hn, hw, A.p0, A.pl, A.pok, A.e, A.cl, A.call, A.c0, A.ccl, A.cto, A.ck, A.cnt, A.cnm, next_ok i _ A.i0 hb, A.csok, A.ccok, e1, e2, e3, ho, led0, led1lt, led1eq, led1gt, led2a, led2b]
theorem leaf_second_110_lt {pc : List AV} {es : List (List AV)} {cs cc : List AV} {i to k nm : Int} {nt : Bool} (A : At pc es cs cc i to 0 110 false) (ho : i + 1 < es.length) : Both pc i := by
  have hi : ¬ i < 0 := by have := A.i0; omega
  have hl : ¬ (es.length : Int) ≤ i := by have := A.il; omega
  have hn : ¬ i + 1 < i + 1 := by omega
  have hb : i < 9223372036854775806 := by have := A.il; have := A.small; omega
  have hi0 := A.i0
  have hw : IntKind.wrap .i64 (i + 1) = i + 1 := by rw [IntKind.wrap_i64]; omega
  have e1 : ¬ (es.length : Int) = i + 1 := by omega
  have e2 : ¬ i + 1 = (es.length : Int) := by omega
  have e3 : ¬ (es.length : Int) < i + 1 := by omega
  refine ⟨false, false, [[.int .i64 (i + 1)], [.int .i64 (es.length : Int)]], fun h => ints2 _ _ _ _ h, ?_, ?_⟩
  · rw [ef_flow rfl]
    simp [m6, EC_seq, EC_reg, EC_dreg, EC_block, EC_loop, EC_cond', EC_skip, EC_exit, EC_ret, EK, blk, evops, evd, sames, same, stp, grd, opv, evop, Opd.ev, back, puts, upd, env0, intOp, els, elp, ldc, stc, splice, mkv, asIntA, optIx, appE, fillE, AV.cells, AV.isTup, AV.beq, AV.beqL, AV.beqLL, fin, resV, one1, Hp.sb, Hp.pb, Hp.sa, Hp.pa, Hp.nb, Hp.na, gc, AEnd.map, frz, frz1, els, AV.nrmLL, AV.nrmL, AV.nrm, AEnd.ok, AV.ok, AV.okLL, AV.okL, Hp.okb, Hp.tr, Box.ok, hi, hi0, hl, hn, hw, A.p0, A.pl, A.pok, A.e, A.cl, A.call, A.c0, A.ccl, A.cto, A.ck, A.cnt, A.cnm, next_ok i _ A.i0 hb, A.csok, A.ccok, e1, e2, e3, ho, sort0, sort1, sort2, sort3, compact0, compact1, compact2, compact2e, compact3e, compact3a, compact3b]
  · rw [ef_ref rfl]
    simp [m7, EC_seq, EC_reg, EC_dreg, EC_block, EC_loop, EC_cond', EC_skip, EC_exit, EC_ret, EK, blk, evops, evd, sames, same, stp, grd, opv, evop, Opd.ev, back, puts, upd, env0, intOp, els, elp, ldc, stc, splice, mkv, asIntA, optIx, appE, fillE, AV.cells, AV.isTup, AV.beq, AV.beqL, AV.beqLL, fin, resV, one1, Hp.sb, Hp.pb, Hp.sa, Hp.pa, Hp.nb, Hp.na, gc, AEnd.map, frz, frz1, els, AV.nrmLL, AV.nrmL, AV.nrm, AEnd.ok, AV.ok, AV.okLL, AV.okL, Hp.okb, Hp.tr, Box.ok, hi, hi0, hl, hn, hw, A.p0, A.pl, A.pok, A.e, A.cl, A.call, A.c0, A.ccl, A.cto, A.ck, A.cnt, A.cnm, next_ok i _ A.i0 hb, A.csok, A.ccok, e1, e2, e3, ho, led0, led1lt, led1eq, led1gt, led2a, led2b]
theorem leaf_second_113_o {pc : List AV} {es : List (List AV)} {cs cc : List AV} {i to k nm : Int} {nt : Bool} (A : At pc es cs cc i to 0 113 false)  : Both pc i := by
  have hi : ¬ i < 0 := by have := A.i0; omega
  have hl : ¬ (es.length : Int) ≤ i := by have := A.il; omega
  have hn : ¬ i + 1 < i + 1 := by omega
  have hb : i < 9223372036854775806 := by have := A.il; have := A.small; omega
  have hi0 := A.i0
  have hw : IntKind.wrap .i64 (i + 1) = i + 1 := by rw [IntKind.wrap_i64]; omega
  refine ⟨true, true, [], fun h => ints0 _ _ h, ?_, ?_⟩
  · rw [ef_flow rfl]
    simp [m6, EC_seq, EC_reg, EC_dreg, EC_block, EC_loop, EC_cond', EC_skip, EC_exit, EC_ret, EK, blk, evops, evd, sames, same, stp, grd, opv, evop, Opd.ev, back, puts, upd, env0, intOp, els, elp, ldc, stc, splice, mkv, asIntA, optIx, appE, fillE, AV.cells, AV.isTup, AV.beq, AV.beqL, AV.beqLL, fin, resV, one1, Hp.sb, Hp.pb, Hp.sa, Hp.pa, Hp.nb, Hp.na, gc, AEnd.map, frz, frz1, els, AV.nrmLL, AV.nrmL, AV.nrm, AEnd.ok, AV.ok, AV.okLL, AV.okL, Hp.okb, Hp.tr, Box.ok, hi, hi0, hl, hn, hw, A.p0, A.pl, A.pok, A.e, A.cl, A.call, A.c0, A.ccl, A.cto, A.ck, A.cnt, A.cnm, next_ok i _ A.i0 hb, A.csok, A.ccok, sort0, sort1, sort2, sort3, compact0, compact1, compact2, compact2e, compact3e, compact3a, compact3b]
  · rw [ef_ref rfl]
    simp [m7, EC_seq, EC_reg, EC_dreg, EC_block, EC_loop, EC_cond', EC_skip, EC_exit, EC_ret, EK, blk, evops, evd, sames, same, stp, grd, opv, evop, Opd.ev, back, puts, upd, env0, intOp, els, elp, ldc, stc, splice, mkv, asIntA, optIx, appE, fillE, AV.cells, AV.isTup, AV.beq, AV.beqL, AV.beqLL, fin, resV, one1, Hp.sb, Hp.pb, Hp.sa, Hp.pa, Hp.nb, Hp.na, gc, AEnd.map, frz, frz1, els, AV.nrmLL, AV.nrmL, AV.nrm, AEnd.ok, AV.ok, AV.okLL, AV.okL, Hp.okb, Hp.tr, Box.ok, hi, hi0, hl, hn, hw, A.p0, A.pl, A.pok, A.e, A.cl, A.call, A.c0, A.ccl, A.cto, A.ck, A.cnt, A.cnm, next_ok i _ A.i0 hb, A.csok, A.ccok, led0, led1lt, led1eq, led1gt, led2a, led2b]
theorem leaf_first_x_o {pc : List AV} {es : List (List AV)} {cs cc : List AV} {i to k nm : Int} {nt : Bool} (A : At pc es cs cc i to 0 nm true) (h123 : ¬ nm = 123) : Both pc i := by
  have hi : ¬ i < 0 := by have := A.i0; omega
  have hl : ¬ (es.length : Int) ≤ i := by have := A.il; omega
  have hn : ¬ i + 1 < i + 1 := by omega
  have hb : i < 9223372036854775806 := by have := A.il; have := A.small; omega
  have hi0 := A.i0
  have hw : IntKind.wrap .i64 (i + 1) = i + 1 := by rw [IntKind.wrap_i64]; omega
  refine ⟨false, false, [[.int .i64 (i + 1)]], fun h => ints1 _ _ _ h, ?_, ?_⟩
  · rw [ef_flow rfl]
    simp [m6, EC_seq, EC_reg, EC_dreg, EC_block, EC_loop, EC_cond', EC_skip, EC_exit, EC_ret, EK, blk, evops, evd, sames, same, stp, grd, opv, evop, Opd.ev, back, puts, upd, env0, intOp, els, elp, ldc, stc, splice, mkv, asIntA, optIx, appE, fillE, AV.cells, AV.isTup, AV.beq, AV.beqL, AV.beqLL, fin, resV, one1, Hp.sb, Hp.pb, Hp.sa, Hp.pa, Hp.nb, Hp.na, gc, AEnd.map, frz, frz1, els, AV.nrmLL, AV.nrmL, AV.nrm, AEnd.ok, AV.ok, AV.okLL, AV.okL, Hp.okb, Hp.tr, Box.ok, hi, hi0, hl, hn, hw, A.p0, A.pl, A.pok, A.e, A.cl, A.call, A.c0, A.ccl, A.cto, A.ck, A.cnt, A.cnm, next_ok i _ A.i0 hb, A.csok, A.ccok, h123, sort0, sort1, sort2, sort3, compact0, compact1, compact2, compact2e, compact3e, compact3a, compact3b]
  · rw [ef_ref rfl]
    simp [m7, EC_seq, EC_reg, EC_dreg, EC_block, EC_loop, EC_cond', EC_skip, EC_exit, EC_ret, EK, blk, evops, evd, sames, same, stp, grd, opv, evop, Opd.ev, back, puts, upd, env0, intOp, els, elp, ldc, stc, splice, mkv, asIntA, optIx, appE, fillE, AV.cells, AV.isTup, AV.beq, AV.beqL, AV.beqLL, fin, resV, one1, Hp.sb, Hp.pb, Hp.sa, Hp.pa, Hp.nb, Hp.na, gc, AEnd.map, frz, frz1, els, AV.nrmLL, AV.nrmL, AV.nrm, AEnd.ok, AV.ok, AV.okLL, AV.okL, Hp.okb, Hp.tr, Box.ok, hi, hi0, hl, hn, hw, A.p0, A.pl, A.pok, A.e, A.cl, A.call, A.c0, A.ccl, A.cto, A.ck, A.cnt, A.cnm, next_ok i _ A.i0 hb, A.csok, A.ccok, h123, led0, led1lt, led1eq, led1gt, led2a, led2b]
end YtjeffeobdpganaaGreatDoor
end Go.Ab
