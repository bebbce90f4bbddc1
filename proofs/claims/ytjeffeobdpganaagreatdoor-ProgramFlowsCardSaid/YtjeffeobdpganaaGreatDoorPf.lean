/- ProgramFlows: the two Flows of any program and step, gone through. -/
import Derived.Test.YtjeffeobdpganaaGreatDoorKn
import Derived.Laws.BitsLemmas
set_option linter.unusedSimpArgs false
set_option linter.unusedVariables false
namespace Go.Ab
namespace YtjeffeobdpganaaGreatDoor
set_option maxHeartbeats 8000000
set_option maxRecDepth 100000
/-- The texts, what lives answers being known. -/
def livesP : List AV → Hp → Option (AEnd × Hp)
  | [], h => some (.ret (.bool true), h)
  | _, _ => none
def sys2 : Sys := { fn := tf.get, dfn := td.get, prim := fun f => bif Nat.beq f 4 then some livesP else tp.get f }

theorem ef_law {args : List AV} {h : Hp} (hl : args.length = 2) : EF sys2 3 args h = (EC sys2 m3.body (env0 args) h).bind (fin m3 h) := EF_fn rfl rfl rfl hl
theorem ef_ints {args : List AV} {h : Hp} (hl : args.length = 2) : EF sys2 5 args h = (EC sys2 m5.body (env0 args) h).bind (fin m5 h) := EF_fn rfl rfl rfl hl
theorem ef_flow {args : List AV} {h : Hp} (hl : args.length = 2) : EF sys2 6 args h = (EC sys2 m6.body (env0 args) h).bind (fin m6 h) := EF_fn rfl rfl rfl hl
theorem ef_ref {args : List AV} {h : Hp} (hl : args.length = 2) : EF sys2 7 args h = (EC sys2 m7.body (env0 args) h).bind (fin m7 h) := EF_fn rfl rfl rfl hl
theorem ef_next {args : List AV} {h : Hp} (hl : args.length = 1) : EF sys2 11 args h = (EC sys2 m11.body (env0 args) h).bind (fin m11 h) := EF_fn rfl rfl rfl hl
theorem ef_sort {args : List AV} {h : Hp} (hl : args.length = 1) : EF sys2 12 args h = (EC sys2 m12.body (env0 args) h).bind (fin m12 h) := EF_fn rfl rfl rfl hl
theorem ef_compact {args : List AV} {h : Hp} (hl : args.length = 1) : EF sys2 13 args h = (EC sys2 m13.body (env0 args) h).bind (fin m13 h) := EF_fn rfl rfl rfl hl
theorem ef_led {args : List AV} {h : Hp} (hl : args.length = 2) : EF sys2 14 args h = (EC sys2 m14.body (env0 args) h).bind (fin m14 h) := EF_fn rfl rfl rfl hl
theorem ef_pdq {args : List AV} {h : Hp} (hl : args.length = 4) : EF sys2 32 args h = (EC sys2 m32.body (env0 args) h).bind (fin m32 h) := EF_fn rfl rfl rfl hl
theorem ef_blen {args : List AV} {h : Hp} (hl : args.length = 1) : EF sys2 33 args h = (EC sys2 m33.body (env0 args) h).bind (fin m33 h) := EF_fn rfl rfl rfl hl
theorem ef_len64 {args : List AV} {h : Hp} (hl : args.length = 1) : EF sys2 83 args h = (EC sys2 m83.body (env0 args) h).bind (fin m83 h) := EF_fn rfl rfl rfl hl
theorem ef_ins {args : List AV} {h : Hp} (hl : args.length = 3) : EF sys2 73 args h = (EC sys2 m73.body (env0 args) h).bind (fin m73 h) := EF_fn rfl rfl rfl hl
theorem ef_less {args : List AV} {h : Hp} (hl : args.length = 2) : EF sys2 79 args h = (EC sys2 m79.body (env0 args) h).bind (fin m79 h) := EF_fn rfl rfl rfl hl
theorem ef_nan {args : List AV} {h : Hp} (hl : args.length = 1) : EF sys2 117 args h = (EC sys2 m117.body (env0 args) h).bind (fin m117 h) := EF_fn rfl rfl rfl hl
theorem ef_lives {h : Hp} : EF sys2 4 [] h = some (.ret (.bool true), h) := EF_prim (p := livesP) rfl
theorem nan_ok (x : Int) (h : Hp) : EF sys2 117 [.int .i64 x] h = some (.ret (.bool false), h) := by
  rw [ef_nan rfl]
  simp [m117, EC_seq, EC_reg, EC_dreg, EC_block, EC_loop, EC_cond', EC_skip, EC_exit, EC_ret, EK, blk, evops, evd, sames, same, stp, grd, opv, evop, Opd.ev, back, puts, upd, env0, intOp, els, elp, ldc, stc, sub, splice, mkv, asIntA, optIx, appE, fillE, AV.cells, AV.isTup, AV.beq, fin, resV, one1, Hp.sb, Hp.pb, Hp.sa, Hp.pa, Hp.nb, Hp.na, gc]
theorem less_ok (x y : Int) (h : Hp) : EF sys2 79 [.int .i64 x, .int .i64 y] h = some (.ret (.bool (decide (x < y))), h) := by
  rw [ef_less rfl]
  simp [m79, EC_seq, EC_reg, EC_dreg, EC_block, EC_loop, EC_cond', EC_skip, EC_exit, EC_ret, EK, blk, evops, evd, sames, same, stp, grd, opv, evop, Opd.ev, back, puts, upd, env0, intOp, els, elp, ldc, stc, sub, splice, mkv, asIntA, optIx, appE, fillE, AV.cells, AV.isTup, AV.beq, fin, resV, one1, Hp.sb, Hp.pb, Hp.sa, Hp.pa, Hp.nb, Hp.na, gc, nan_ok]
theorem next_ok (x : Int) (h : Hp) (h0 : 0 ≤ x) (h1 : x < 9223372036854775806) : EF sys2 11 [.int .i64 x] h = some (.ret (.int .i64 (x + 1)), h) := by
  rw [ef_next rfl]
  have hw : IntKind.wrap .i64 (x + 1) = x + 1 := by rw [IntKind.wrap_i64]; omega
  have hm : ¬ (9223372036854775806 : Int) < x := by omega
  simp [m11, EC_seq, EC_reg, EC_dreg, EC_block, EC_loop, EC_cond', EC_skip, EC_exit, EC_ret, EK, blk, evops, evd, sames, same, stp, grd, opv, evop, Opd.ev, back, puts, upd, env0, intOp, els, elp, ldc, stc, sub, splice, mkv, asIntA, optIx, appE, fillE, AV.cells, AV.isTup, AV.beq, fin, resV, one1, Hp.sb, Hp.pb, Hp.sa, Hp.pa, Hp.nb, Hp.na, gc, hw, hm]
theorem blen1 (h : Hp) : EF sys2 33 [.int .u64 1] h = some (.ret (.int .i64 1), h) := by
  rw [ef_blen rfl]
  simp [m33, EC_seq, EC_reg, EC_dreg, EC_block, EC_loop, EC_cond', EC_skip, EC_exit, EC_ret, EK, blk, evops, evd, sames, same, stp, grd, opv, evop, Opd.ev, back, puts, upd, env0, intOp, els, elp, ldc, stc, sub, splice, mkv, asIntA, optIx, appE, fillE, AV.cells, AV.isTup, AV.beq, fin, resV, one1, Hp.sb, Hp.pb, Hp.sa, Hp.pa, Hp.nb, Hp.na, gc, ef_len64, m83, IntKind.wrap, IntKind.bits, IntKind.signed]
theorem blen2 (h : Hp) : EF sys2 33 [.int .u64 2] h = some (.ret (.int .i64 2), h) := by
  rw [ef_blen rfl]
  simp [m33, EC_seq, EC_reg, EC_dreg, EC_block, EC_loop, EC_cond', EC_skip, EC_exit, EC_ret, EK, blk, evops, evd, sames, same, stp, grd, opv, evop, Opd.ev, back, puts, upd, env0, intOp, els, elp, ldc, stc, sub, splice, mkv, asIntA, optIx, appE, fillE, AV.cells, AV.isTup, AV.beq, fin, resV, one1, Hp.sb, Hp.pb, Hp.sa, Hp.pa, Hp.nb, Hp.na, gc, ef_len64, m83, IntKind.wrap, IntKind.bits, IntKind.signed]
theorem blen3 (h : Hp) : EF sys2 33 [.int .u64 3] h = some (.ret (.int .i64 2), h) := by
  rw [ef_blen rfl]
  simp [m33, EC_seq, EC_reg, EC_dreg, EC_block, EC_loop, EC_cond', EC_skip, EC_exit, EC_ret, EK, blk, evops, evd, sames, same, stp, grd, opv, evop, Opd.ev, back, puts, upd, env0, intOp, els, elp, ldc, stc, sub, splice, mkv, asIntA, optIx, appE, fillE, AV.cells, AV.isTup, AV.beq, fin, resV, one1, Hp.sb, Hp.pb, Hp.sa, Hp.pa, Hp.nb, Hp.na, gc, ef_len64, m83, IntKind.wrap, IntKind.bits, IntKind.signed]
theorem blen0 (h : Hp) : EF sys2 33 [.int .u64 0] h = some (.ret (.int .i64 0), h) := by
  rw [ef_blen rfl]
  simp [m33, EC_seq, EC_reg, EC_dreg, EC_block, EC_loop, EC_cond', EC_skip, EC_exit, EC_ret, EK, blk, evops, evd, sames, same, stp, grd, opv, evop, Opd.ev, back, puts, upd, env0, intOp, els, elp, ldc, stc, sub, splice, mkv, asIntA, optIx, appE, fillE, AV.cells, AV.isTup, AV.beq, fin, resV, one1, Hp.sb, Hp.pb, Hp.sa, Hp.pa, Hp.nb, Hp.na, gc, ef_len64, m83, IntKind.wrap, IntKind.bits, IntKind.signed]
theorem ins2 (bx : List Box) (v : Nat) (x y : Int) : EF sys2 73 [.rs 0 v 0 2, .int .i64 0, .int .i64 2] ⟨bx, [⟨3, 1, 8, v, [[.int .i64 x], [.int .i64 y]], false⟩]⟩ =
    some (.ret (.tup []), ⟨bx, [⟨3, 1, 8, v, if y < x then [[.int .i64 y], [.int .i64 x]] else [[.int .i64 x], [.int .i64 y]], false⟩]⟩) := by
  rw [ef_ins rfl]
  by_cases hxy : y < x
  · simp [m73, EC_seq, EC_reg, EC_dreg, EC_block, EC_loop, EC_cond', EC_skip, EC_exit, EC_ret, EK, blk, evops, evd, sames, same, stp, grd, opv, evop, Opd.ev, back, puts, upd, env0, intOp, els, elp, ldc, stc, sub, splice, mkv, asIntA, optIx, appE, fillE, AV.cells, AV.isTup, AV.beq, fin, resV, one1, Hp.sb, Hp.pb, Hp.sa, Hp.pa, Hp.nb, Hp.na, gc, less_ok, hxy, IntKind.wrap, IntKind.bits, IntKind.signed]
  · simp [m73, EC_seq, EC_reg, EC_dreg, EC_block, EC_loop, EC_cond', EC_skip, EC_exit, EC_ret, EK, blk, evops, evd, sames, same, stp, grd, opv, evop, Opd.ev, back, puts, upd, env0, intOp, els, elp, ldc, stc, sub, splice, mkv, asIntA, optIx, appE, fillE, AV.cells, AV.isTup, AV.beq, fin, resV, one1, Hp.sb, Hp.pb, Hp.sa, Hp.pa, Hp.nb, Hp.na, gc, less_ok, hxy, IntKind.wrap, IntKind.bits, IntKind.signed]
theorem ins3 (bx : List Box) (v : Nat) (x z : Int) : EF sys2 73 [.rs 0 v 0 3, .int .i64 0, .int .i64 3] ⟨bx, [⟨3, 1, 8, v, [[.int .i64 x], [.int .i64 x], [.int .i64 z]], false⟩]⟩ =
    some (.ret (.tup []), ⟨bx, [⟨3, 1, 8, v, if z < x then [[.int .i64 z], [.int .i64 x], [.int .i64 x]] else [[.int .i64 x], [.int .i64 x], [.int .i64 z]], false⟩]⟩) := by
  rw [ef_ins rfl]
  by_cases hxy : z < x
  · simp [m73, EC_seq, EC_reg, EC_dreg, EC_block, EC_loop, EC_cond', EC_skip, EC_exit, EC_ret, EK, blk, evops, evd, sames, same, stp, grd, opv, evop, Opd.ev, back, puts, upd, env0, intOp, els, elp, ldc, stc, sub, splice, mkv, asIntA, optIx, appE, fillE, AV.cells, AV.isTup, AV.beq, fin, resV, one1, Hp.sb, Hp.pb, Hp.sa, Hp.pa, Hp.nb, Hp.na, gc, less_ok, hxy, IntKind.wrap, IntKind.bits, IntKind.signed]
  · simp [m73, EC_seq, EC_reg, EC_dreg, EC_block, EC_loop, EC_cond', EC_skip, EC_exit, EC_ret, EK, blk, evops, evd, sames, same, stp, grd, opv, evop, Opd.ev, back, puts, upd, env0, intOp, els, elp, ldc, stc, sub, splice, mkv, asIntA, optIx, appE, fillE, AV.cells, AV.isTup, AV.beq, fin, resV, one1, Hp.sb, Hp.pb, Hp.sa, Hp.pa, Hp.nb, Hp.na, gc, less_ok, hxy, IntKind.wrap, IntKind.bits, IntKind.signed]
theorem ins1 (bx : List Box) (v : Nat) (x : Int) : EF sys2 73 [.rs 0 v 0 1, .int .i64 0, .int .i64 1] ⟨bx, [⟨3, 1, 8, v, [[.int .i64 x]], false⟩]⟩ =
    some (.ret (.tup []), ⟨bx, [⟨3, 1, 8, v, [[.int .i64 x]], false⟩]⟩) := by
  rw [ef_ins rfl]
  simp [m73, EC_seq, EC_reg, EC_dreg, EC_block, EC_loop, EC_cond', EC_skip, EC_exit, EC_ret, EK, blk, evops, evd, sames, same, stp, grd, opv, evop, Opd.ev, back, puts, upd, env0, intOp, els, elp, ldc, stc, sub, splice, mkv, asIntA, optIx, appE, fillE, AV.cells, AV.isTup, AV.beq, fin, resV, one1, Hp.sb, Hp.pb, Hp.sa, Hp.pa, Hp.nb, Hp.na, gc, less_ok, IntKind.wrap, IntKind.bits, IntKind.signed]
theorem ins0 (h : Hp) (f : Bool) : EF sys2 73 [.vs f [], .int .i64 0, .int .i64 0] h = some (.ret (.tup []), h) := by
  rw [ef_ins rfl]
  simp [m73, EC_seq, EC_reg, EC_dreg, EC_block, EC_loop, EC_cond', EC_skip, EC_exit, EC_ret, EK, blk, evops, evd, sames, same, stp, grd, opv, evop, Opd.ev, back, puts, upd, env0, intOp, els, elp, ldc, stc, sub, splice, mkv, asIntA, optIx, appE, fillE, AV.cells, AV.isTup, AV.beq, fin, resV, one1, Hp.sb, Hp.pb, Hp.sa, Hp.pa, Hp.nb, Hp.na, gc, less_ok, IntKind.wrap, IntKind.bits, IntKind.signed]
theorem sort0 (h : Hp) (f : Bool) : EF sys2 12 [.vs f []] h = some (.ret (.tup []), h) := by
  rw [ef_sort rfl]
  simp [m12, EC_seq, EC_reg, EC_dreg, EC_block, EC_loop, EC_cond', EC_skip, EC_exit, EC_ret, EK, blk, evops, evd, sames, same, stp, grd, opv, evop, Opd.ev, back, puts, upd, env0, intOp, els, elp, ldc, stc, sub, splice, mkv, asIntA, optIx, appE, fillE, AV.cells, AV.isTup, AV.beq, fin, resV, one1, Hp.sb, Hp.pb, Hp.sa, Hp.pa, Hp.nb, Hp.na, gc, IntKind.wrap, IntKind.bits, IntKind.signed, blen0, ef_pdq, m32, ins0]
theorem sort1 (bx : List Box) (v : Nat) (x : Int) : EF sys2 12 [.rs 0 v 0 1] ⟨bx, [⟨3, 1, 8, v, [[.int .i64 x]], false⟩]⟩ = some (.ret (.tup []), ⟨bx, [⟨3, 1, 8, v, [[.int .i64 x]], false⟩]⟩) := by
  rw [ef_sort rfl]
  simp [m12, EC_seq, EC_reg, EC_dreg, EC_block, EC_loop, EC_cond', EC_skip, EC_exit, EC_ret, EK, blk, evops, evd, sames, same, stp, grd, opv, evop, Opd.ev, back, puts, upd, env0, intOp, els, elp, ldc, stc, sub, splice, mkv, asIntA, optIx, appE, fillE, AV.cells, AV.isTup, AV.beq, fin, resV, one1, Hp.sb, Hp.pb, Hp.sa, Hp.pa, Hp.nb, Hp.na, gc, IntKind.wrap, IntKind.bits, IntKind.signed, blen1, ef_pdq, m32, ins1]
theorem sort2 (bx : List Box) (v : Nat) (x y : Int) : EF sys2 12 [.rs 0 v 0 2] ⟨bx, [⟨3, 1, 8, v, [[.int .i64 x], [.int .i64 y]], false⟩]⟩ =
    some (.ret (.tup []), ⟨bx, [⟨3, 1, 8, v, if y < x then [[.int .i64 y], [.int .i64 x]] else [[.int .i64 x], [.int .i64 y]], false⟩]⟩) := by
  rw [ef_sort rfl]
  simp [m12, EC_seq, EC_reg, EC_dreg, EC_block, EC_loop, EC_cond', EC_skip, EC_exit, EC_ret, EK, blk, evops, evd, sames, same, stp, grd, opv, evop, Opd.ev, back, puts, upd, env0, intOp, els, elp, ldc, stc, sub, splice, mkv, asIntA, optIx, appE, fillE, AV.cells, AV.isTup, AV.beq, fin, resV, one1, Hp.sb, Hp.pb, Hp.sa, Hp.pa, Hp.nb, Hp.na, gc, IntKind.wrap, IntKind.bits, IntKind.signed, blen2, ef_pdq, m32, ins2]
theorem sort3 (bx : List Box) (v : Nat) (x z : Int) : EF sys2 12 [.rs 0 v 0 3] ⟨bx, [⟨3, 1, 8, v, [[.int .i64 x], [.int .i64 x], [.int .i64 z]], false⟩]⟩ =
    some (.ret (.tup []), ⟨bx, [⟨3, 1, 8, v, if z < x then [[.int .i64 z], [.int .i64 x], [.int .i64 x]] else [[.int .i64 x], [.int .i64 x], [.int .i64 z]], false⟩]⟩) := by
  rw [ef_sort rfl]
  simp [m12, EC_seq, EC_reg, EC_dreg, EC_block, EC_loop, EC_cond', EC_skip, EC_exit, EC_ret, EK, blk, evops, evd, sames, same, stp, grd, opv, evop, Opd.ev, back, puts, upd, env0, intOp, els, elp, ldc, stc, sub, splice, mkv, asIntA, optIx, appE, fillE, AV.cells, AV.isTup, AV.beq, fin, resV, one1, Hp.sb, Hp.pb, Hp.sa, Hp.pa, Hp.nb, Hp.na, gc, IntKind.wrap, IntKind.bits, IntKind.signed, blen3, ef_pdq, m32, ins3]
theorem compact0 (h : Hp) (f : Bool) : EF sys2 13 [.vs f []] h = some (.ret (.vs f []), h) := by
  rw [ef_compact rfl]
  simp [m13, EC_seq, EC_reg, EC_dreg, EC_block, EC_loop, EC_cond', EC_skip, EC_exit, EC_ret, EK, blk, evops, evd, sames, same, stp, grd, opv, evop, Opd.ev, back, puts, upd, env0, intOp, els, elp, ldc, stc, sub, splice, mkv, asIntA, optIx, appE, fillE, AV.cells, AV.isTup, AV.beq, fin, resV, one1, Hp.sb, Hp.pb, Hp.sa, Hp.pa, Hp.nb, Hp.na, gc, IntKind.wrap, IntKind.bits, IntKind.signed]
theorem compact1 (h : Hp) (v : Nat) : EF sys2 13 [.rs 0 v 0 1] h = some (.ret (.rs 0 v 0 1), h) := by
  rw [ef_compact rfl]
  simp [m13, EC_seq, EC_reg, EC_dreg, EC_block, EC_loop, EC_cond', EC_skip, EC_exit, EC_ret, EK, blk, evops, evd, sames, same, stp, grd, opv, evop, Opd.ev, back, puts, upd, env0, intOp, els, elp, ldc, stc, sub, splice, mkv, asIntA, optIx, appE, fillE, AV.cells, AV.isTup, AV.beq, fin, resV, one1, Hp.sb, Hp.pb, Hp.sa, Hp.pa, Hp.nb, Hp.na, gc, IntKind.wrap, IntKind.bits, IntKind.signed]
theorem compact2 (bx : List Box) (v : Nat) (x y : Int) (hxy : x ≠ y) : EF sys2 13 [.rs 0 v 0 2] ⟨bx, [⟨3, 1, 8, v, [[.int .i64 x], [.int .i64 y]], false⟩]⟩ =
    some (.ret (.rs 0 v 0 2), ⟨bx, [⟨3, 1, 8, v, [[.int .i64 x], [.int .i64 y]], false⟩]⟩) := by
  rw [ef_compact rfl]
  have hyx : ¬ y = x := fun e => hxy e.symm
  simp [m13, EC_seq, EC_reg, EC_dreg, EC_block, EC_loop, EC_cond', EC_skip, EC_exit, EC_ret, EK, blk, evops, evd, sames, same, stp, grd, opv, evop, Opd.ev, back, puts, upd, env0, intOp, els, elp, ldc, stc, sub, splice, mkv, asIntA, optIx, appE, fillE, AV.cells, AV.isTup, AV.beq, fin, resV, one1, Hp.sb, Hp.pb, Hp.sa, Hp.pa, Hp.nb, Hp.na, gc, IntKind.wrap, IntKind.bits, IntKind.signed, hxy, hyx]
theorem compact2e (bx : List Box) (v : Nat) (x : Int) : EF sys2 13 [.rs 0 v 0 2] ⟨bx, [⟨3, 1, 8, v, [[.int .i64 x], [.int .i64 x]], false⟩]⟩ =
    some (.ret (.rs 0 v 0 1), ⟨bx, [⟨3, 1, 8, v, [[.int .i64 x], [.int .i64 0]], false⟩]⟩) := by
  rw [ef_compact rfl]
  simp [m13, EC_seq, EC_reg, EC_dreg, EC_block, EC_loop, EC_cond', EC_skip, EC_exit, EC_ret, EK, blk, evops, evd, sames, same, stp, grd, opv, evop, Opd.ev, back, puts, upd, env0, intOp, els, elp, ldc, stc, sub, splice, mkv, asIntA, optIx, appE, fillE, AV.cells, AV.isTup, AV.beq, fin, resV, one1, Hp.sb, Hp.pb, Hp.sa, Hp.pa, Hp.nb, Hp.na, gc, IntKind.wrap, IntKind.bits, IntKind.signed, setE]
theorem compact3e (bx : List Box) (v : Nat) (x : Int) : EF sys2 13 [.rs 0 v 0 3] ⟨bx, [⟨3, 1, 8, v, [[.int .i64 x], [.int .i64 x], [.int .i64 x]], false⟩]⟩ =
    some (.ret (.rs 0 v 0 1), ⟨bx, [⟨3, 1, 8, v, [[.int .i64 x], [.int .i64 0], [.int .i64 0]], false⟩]⟩) := by
  rw [ef_compact rfl]
  simp [m13, EC_seq, EC_reg, EC_dreg, EC_block, EC_loop, EC_cond', EC_skip, EC_exit, EC_ret, EK, blk, evops, evd, sames, same, stp, grd, opv, evop, Opd.ev, back, puts, upd, env0, intOp, els, elp, ldc, stc, sub, splice, mkv, asIntA, optIx, appE, fillE, AV.cells, AV.isTup, AV.beq, fin, resV, one1, Hp.sb, Hp.pb, Hp.sa, Hp.pa, Hp.nb, Hp.na, gc, IntKind.wrap, IntKind.bits, IntKind.signed, setE]
theorem compact3a (bx : List Box) (v : Nat) (x z : Int) (hxz : x ≠ z) : EF sys2 13 [.rs 0 v 0 3] ⟨bx, [⟨3, 1, 8, v, [[.int .i64 x], [.int .i64 x], [.int .i64 z]], false⟩]⟩ =
    some (.ret (.rs 0 v 0 2), ⟨bx, [⟨3, 1, 8, v, [[.int .i64 x], [.int .i64 z], [.int .i64 0]], false⟩]⟩) := by
  rw [ef_compact rfl]
  have hzx : ¬ z = x := fun e => hxz e.symm
  simp [m13, EC_seq, EC_reg, EC_dreg, EC_block, EC_loop, EC_cond', EC_skip, EC_exit, EC_ret, EK, blk, evops, evd, sames, same, stp, grd, opv, evop, Opd.ev, back, puts, upd, env0, intOp, els, elp, ldc, stc, sub, splice, mkv, asIntA, optIx, appE, fillE, AV.cells, AV.isTup, AV.beq, fin, resV, one1, Hp.sb, Hp.pb, Hp.sa, Hp.pa, Hp.nb, Hp.na, gc, IntKind.wrap, IntKind.bits, IntKind.signed, setE, hxz, hzx]
theorem compact3b (bx : List Box) (v : Nat) (x z : Int) (hxz : x ≠ z) : EF sys2 13 [.rs 0 v 0 3] ⟨bx, [⟨3, 1, 8, v, [[.int .i64 z], [.int .i64 x], [.int .i64 x]], false⟩]⟩ =
    some (.ret (.rs 0 v 0 2), ⟨bx, [⟨3, 1, 8, v, [[.int .i64 z], [.int .i64 x], [.int .i64 0]], false⟩]⟩) := by
  rw [ef_compact rfl]
  have hzx : ¬ z = x := fun e => hxz e.symm
  simp [m13, EC_seq, EC_reg, EC_dreg, EC_block, EC_loop, EC_cond', EC_skip, EC_exit, EC_ret, EK, blk, evops, evd, sames, same, stp, grd, opv, evop, Opd.ev, back, puts, upd, env0, intOp, els, elp, ldc, stc, sub, splice, mkv, asIntA, optIx, appE, fillE, AV.cells, AV.isTup, AV.beq, fin, resV, one1, Hp.sb, Hp.pb, Hp.sa, Hp.pa, Hp.nb, Hp.na, gc, IntKind.wrap, IntKind.bits, IntKind.signed, setE, hxz, hzx]

end YtjeffeobdpganaaGreatDoor
end Go.Ab
