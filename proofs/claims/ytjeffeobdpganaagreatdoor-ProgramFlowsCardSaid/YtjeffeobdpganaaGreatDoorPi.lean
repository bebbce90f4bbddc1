/- ProgramFlows: at every program and number both Flows answer one list. -/
import Derived.Test.YtjeffeobdpganaaGreatDoorPh0
import Derived.Test.YtjeffeobdpganaaGreatDoorPh1
import Derived.Test.YtjeffeobdpganaaGreatDoorPh2
import Derived.Test.YtjeffeobdpganaaGreatDoorPh3
import Derived.Test.YtjeffeobdpganaaGreatDoorAbTy
import Derived.Test.YtjeffeobdpganaaGreatDoorAbFrame
set_option linter.unusedSimpArgs false
set_option linter.unusedVariables false
namespace Go.Ab
namespace YtjeffeobdpganaaGreatDoor
set_option maxHeartbeats 8000000
set_option maxRecDepth 100000
theorem both_in {pc : List AV} {es : List (List AV)} {cs cc : List AV} {i to k nm : Int} {nt : Bool} (A : At pc es cs cc i to k nm nt) : Both pc i := by
  by_cases hk : k = 0
  · subst hk
    cases nt
    · skip
      by_cases h123 : nm = 123
      · subst h123
        exact leaf_second_123_o A (k := 0) (nt := true) (nm := 0)
      by_cases h98 : nm = 98
      · subst h98
        exact leaf_second_98_o A (k := 0) (nt := true) (nm := 0)
      by_cases h116 : nm = 116
      · subst h116
        rcases Int.lt_trichotomy to (i + 1) with ho | ho | ho
        · exact leaf_second_116_lt A (k := 0) (nt := true) (nm := 0) ho
        · subst ho; exact leaf_second_116_eq (to := 0) A (k := 0) (nt := true) (nm := 0)
        · exact leaf_second_116_gt A (k := 0) (nt := true) (nm := 0) ho
      by_cases h84 : nm = 84
      · subst h84
        rcases Int.lt_trichotomy to (i + 1) with ho | ho | ho
        · exact leaf_second_84_lt A (k := 0) (nt := true) (nm := 0) ho
        · subst ho; exact leaf_second_84_eq (to := 0) A (k := 0) (nt := true) (nm := 0)
        · exact leaf_second_84_gt A (k := 0) (nt := true) (nm := 0) ho
      by_cases h100 : nm = 100
      · subst h100
        exact leaf_second_100_o A (k := 0) (nt := true) (nm := 0)
      by_cases h68 : nm = 68
      · subst h68
        exact leaf_second_68_o A (k := 0) (nt := true) (nm := 0)
      by_cases h99 : nm = 99
      · subst h99
        exact leaf_second_99_o A (k := 0) (nt := true) (nm := 0)
      by_cases h110 : nm = 110
      · subst h110
        rcases Int.lt_trichotomy (i + 1) es.length with ho | ho | ho
        · exact leaf_second_110_lt A (k := 0) (nt := true) (nm := 0) ho
        · exact leaf_second_110_eq A (k := 0) (nt := true) (nm := 0) ho.symm
        · exfalso; have := A.il; omega
      by_cases h78 : nm = 78
      · subst h78
        rcases Int.lt_trichotomy (i + 1) es.length with ho | ho | ho
        · exact leaf_second_78_lt A (k := 0) (nt := true) (nm := 0) ho
        · exact leaf_second_78_eq A (k := 0) (nt := true) (nm := 0) ho.symm
        · exfalso; have := A.il; omega
      by_cases h113 : nm = 113
      · subst h113
        exact leaf_second_113_o A (k := 0) (nt := true) (nm := 0)
      by_cases h81 : nm = 81
      · subst h81
        exact leaf_second_81_o A (k := 0) (nt := true) (nm := 0)
      exact leaf_second_x_o A h123 h98 h116 h84 h100 h68 h99 h110 h78 h113 h81 (k := 0) (nt := true)
    · skip
      by_cases h123 : nm = 123
      · subst h123
        exact leaf_first_123_o A (k := 0) (nt := true) (nm := 0)
      exact leaf_first_x_o A h123 (k := 0) (nt := true)
  by_cases h123 : nm = 123
  · subst h123
    rcases Int.lt_trichotomy to (i + 1) with ho | ho | ho
    · exact leaf_both_123_lt A hk (nm := 0) ho
    · subst ho; exact leaf_both_123_eq (to := 0) A hk (nm := 0)
    · exact leaf_both_123_gt A hk (nm := 0) ho
  by_cases h98 : nm = 98
  · subst h98
    rcases Int.lt_trichotomy to (i + 1) with ho | ho | ho
    · exact leaf_both_98_lt A hk (nm := 0) ho
    · subst ho; exact leaf_both_98_eq (to := 0) A hk (nm := 0)
    · exact leaf_both_98_gt A hk (nm := 0) ho
  by_cases h116 : nm = 116
  · subst h116
    rcases Int.lt_trichotomy to (i + 1) with ho | ho | ho
    · exact leaf_both_116_lt A hk (nm := 0) ho
    · subst ho; exact leaf_both_116_eq (to := 0) A hk (nm := 0)
    · exact leaf_both_116_gt A hk (nm := 0) ho
  by_cases h84 : nm = 84
  · subst h84
    rcases Int.lt_trichotomy to (i + 1) with ho | ho | ho
    · exact leaf_both_84_lt A hk (nm := 0) ho
    · subst ho; exact leaf_both_84_eq (to := 0) A hk (nm := 0)
    · exact leaf_both_84_gt A hk (nm := 0) ho
  by_cases h100 : nm = 100
  · subst h100
    rcases Int.lt_trichotomy (i + 1) es.length with ho | ho | ho
    · exact leaf_both_100_lt A hk (nm := 0) ho
    · exact leaf_both_100_eq A hk (nm := 0) ho.symm
    · exfalso; have := A.il; omega
  by_cases h68 : nm = 68
  · subst h68
    rcases Int.lt_trichotomy (i + 1) es.length with ho | ho | ho
    · exact leaf_both_68_lt A hk (nm := 0) ho
    · exact leaf_both_68_eq A hk (nm := 0) ho.symm
    · exfalso; have := A.il; omega
  by_cases h99 : nm = 99
  · subst h99
    rcases Int.lt_trichotomy (i + 1) es.length with ho | ho | ho
    · exact leaf_both_99_lt A hk (nm := 0) ho
    · exact leaf_both_99_eq A hk (nm := 0) ho.symm
    · exfalso; have := A.il; omega
  by_cases h110 : nm = 110
  · subst h110
    rcases Int.lt_trichotomy (i + 1) es.length with ho | ho | ho
    · exact leaf_both_110_lt A hk (nm := 0) ho
    · exact leaf_both_110_eq A hk (nm := 0) ho.symm
    · exfalso; have := A.il; omega
  by_cases h78 : nm = 78
  · subst h78
    rcases Int.lt_trichotomy (i + 1) es.length with ho | ho | ho
    · exact leaf_both_78_lt A hk (nm := 0) ho
    · exact leaf_both_78_eq A hk (nm := 0) ho.symm
    · exfalso; have := A.il; omega
  by_cases h113 : nm = 113
  · subst h113
    exact leaf_both_113_o A hk (nm := 0)
  by_cases h81 : nm = 81
  · subst h81
    exact leaf_both_81_o A hk (nm := 0)
  exact leaf_both_x_o A hk h123 h98 h116 h84 h100 h68 h99 h110 h78 h113 h81
theorem both_out {pc : List AV} {es : List (List AV)} {i : Int} (p0 : sub pc 0 1 = some [.vs false es]) (pl : pc.length = 3) (pok : ∀ nb na, AV.okL nb na pc = true) (h : i < 0 ∨ (es.length : Int) ≤ i) : Both pc i := by
  refine ⟨true, true, [], fun h => ints0 _ _ h, ?_, ?_⟩
  · rw [ef_flow rfl]
    by_cases h0 : i < 0
    · simp [m6, EC_seq, EC_reg, EC_dreg, EC_block, EC_loop, EC_cond', EC_skip, EC_exit, EC_ret, EK, blk, evops, evd, sames, same, stp, grd, opv, evop, Opd.ev, back, puts, upd, env0, intOp, els, elp, ldc, stc, splice, mkv, asIntA, optIx, appE, fillE, AV.cells, AV.isTup, AV.beq, AV.beqL, AV.beqLL, fin, resV, one1, Hp.sb, Hp.pb, Hp.sa, Hp.pa, Hp.nb, Hp.na, gc, AEnd.map, frz, frz1, els, AV.nrmLL, AV.nrmL, AV.nrm, AEnd.ok, AV.ok, AV.okLL, AV.okL, Hp.okb, Hp.tr, Box.ok, p0, pl, pok, h0]
    · have h1 : (es.length : Int) ≤ i := h.resolve_left h0
      have h2 : 0 ≤ i := by omega
      simp [m6, EC_seq, EC_reg, EC_dreg, EC_block, EC_loop, EC_cond', EC_skip, EC_exit, EC_ret, EK, blk, evops, evd, sames, same, stp, grd, opv, evop, Opd.ev, back, puts, upd, env0, intOp, els, elp, ldc, stc, splice, mkv, asIntA, optIx, appE, fillE, AV.cells, AV.isTup, AV.beq, AV.beqL, AV.beqLL, fin, resV, one1, Hp.sb, Hp.pb, Hp.sa, Hp.pa, Hp.nb, Hp.na, gc, AEnd.map, frz, frz1, els, AV.nrmLL, AV.nrmL, AV.nrm, AEnd.ok, AV.ok, AV.okLL, AV.okL, Hp.okb, Hp.tr, Box.ok, p0, pl, pok, h0, h1, h2]
  · rw [ef_ref rfl]
    by_cases h0 : i < 0
    · simp [m7, EC_seq, EC_reg, EC_dreg, EC_block, EC_loop, EC_cond', EC_skip, EC_exit, EC_ret, EK, blk, evops, evd, sames, same, stp, grd, opv, evop, Opd.ev, back, puts, upd, env0, intOp, els, elp, ldc, stc, splice, mkv, asIntA, optIx, appE, fillE, AV.cells, AV.isTup, AV.beq, AV.beqL, AV.beqLL, fin, resV, one1, Hp.sb, Hp.pb, Hp.sa, Hp.pa, Hp.nb, Hp.na, gc, AEnd.map, frz, frz1, els, AV.nrmLL, AV.nrmL, AV.nrm, AEnd.ok, AV.ok, AV.okLL, AV.okL, Hp.okb, Hp.tr, Box.ok, p0, pl, pok, h0]
    · have h1 : (es.length : Int) ≤ i := h.resolve_left h0
      have h2 : 0 ≤ i := by omega
      simp [m7, EC_seq, EC_reg, EC_dreg, EC_block, EC_loop, EC_cond', EC_skip, EC_exit, EC_ret, EK, blk, evops, evd, sames, same, stp, grd, opv, evop, Opd.ev, back, puts, upd, env0, intOp, els, elp, ldc, stc, splice, mkv, asIntA, optIx, appE, fillE, AV.cells, AV.isTup, AV.beq, AV.beqL, AV.beqLL, fin, resV, one1, Hp.sb, Hp.pb, Hp.sa, Hp.pa, Hp.nb, Hp.na, gc, AEnd.map, frz, frz1, els, AV.nrmLL, AV.nrmL, AV.nrm, AEnd.ok, AV.ok, AV.okLL, AV.okL, Hp.okb, Hp.tr, Box.ok, p0, pl, pok, h0, h1, h2]
theorem law_of {pc : List AV} {i : Int} (pl : pc.length = 3) (hb : Both pc i) : EF sys2 3 [.agg pc, .int .i64 i] ⟨[], []⟩ = some (.ret (.bool true), ⟨[], []⟩) := by
  obtain ⟨f, g, L, h1, h2, h3⟩ := hb
  have hs : sub pc 0 3 = some pc := sub_all pl
  rw [ef_law rfl]
  simp [m3, EC_seq, EC_reg, EC_dreg, EC_block, EC_loop, EC_cond', EC_skip, EC_exit, EC_ret, EK, blk, evops, evd, sames, same, stp, grd, opv, evop, Opd.ev, back, puts, upd, env0, intOp, els, elp, ldc, stc, splice, mkv, asIntA, optIx, appE, fillE, AV.cells, AV.isTup, AV.beq, AV.beqL, AV.beqLL, fin, resV, one1, Hp.sb, Hp.pb, Hp.sa, Hp.pa, Hp.nb, Hp.na, gc, AEnd.map, frz, frz1, els, AV.nrmLL, AV.nrmL, AV.nrm, AEnd.ok, AV.ok, AV.okLL, AV.okL, Hp.okb, Hp.tr, Box.ok, ef_lives, h1, h2, h3, pl, hs, AV.beqL_refl pc]
theorem tys : Tys Go.Proofs.Tryz.prog [3, 4, 5, 9, 22, 23, 25, 41, 42, 43, 45, 46, 48, 50, 52, 53, 55, 57, 59, 159, 161] := ⟨by kernel_rfl, by kernel_rfl, by kernel_rfl, by kernel_rfl⟩
theorem law_ok (p d : D) (hp : HasTy Go.Proofs.Tryz.prog 25 p) (hd : HasTy Go.Proofs.Tryz.prog 3 d) : EF sys2 3 [p.val, d.val] ⟨[], []⟩ = some (.ret (.bool true), ⟨[], []⟩) := by
  obtain ⟨i, rfl, hi⟩ := hd.int_inv Go.Proofs.Tryz.underlying3
  obtain ⟨ds, hds⟩ := hp.struct_inv Go.Proofs.Tryz.underlying25
  have hval : p.val = .agg p.cells := by rw [hds]; rfl
  rw [hval]
  have hlen : p.cells.length = 3 := (hp.len tys (by decide)).trans (by kernel_rfl)
  obtain ⟨sd, hs, hsm, hsub⟩ := hp.field tys (by decide) Go.Proofs.Tryz.underlying25 (j := 0) rfl
  obtain ⟨es, rfl, hsz, hes⟩ := hs.slice_inv Go.Proofs.Tryz.underlying22
  have hsub0 : sub p.cells 0 1 = some [.vs false (D.cellsLL es)] := by
    have e : Go.Proofs.Tryz.prog.cellsOf 22 = 1 := by kernel_rfl
    have q : sub p.cells 0 (Go.Proofs.Tryz.prog.cellsOf 22) = some [.vs false (D.cellsLL es)] := hsub
    rw [e] at q
    exact q
  refine law_of hlen ?_
  by_cases hin : i < 0 ∨ ((D.cellsLL es).length : Int) ≤ i
  · exact both_out hsub0 hlen (fun nb na => D.okL p nb na) hin
  · have h0 : 0 ≤ i := by omega
    have h1 : i < ((D.cellsLL es).length : Int) := by omega
    have hL : (D.cellsLL es).length = es.length := by rw [D.cellsLL_map]; simp
    have hj : i.toNat < es.length := by omega
    have hx := hes es[i.toNat] (List.getElem_mem hj)
    have hbig : es.length ≤ reachBytes := by
      have e : Go.Proofs.Tryz.prog.bytesOf 59 = 504 := by kernel_rfl
      rw [e] at hsz
      omega
    have hrb : reachBytes = 140737488351232 := by kernel_rfl
    have hxl : (es[i.toNat]).cells.length = 55 := (hx.len tys (by decide)).trans (by kernel_rfl)
    obtain ⟨cmd, hc, hcm, hcsub⟩ := hx.field tys (by decide) Go.Proofs.Tryz.underlying59 (j := 0) rfl
    obtain ⟨tod, hto, _, htosub⟩ := hx.field tys (by decide) Go.Proofs.Tryz.underlying59 (j := 1) rfl
    obtain ⟨to, rfl, _⟩ := hto.int_inv Go.Proofs.Tryz.underlying3
    have hcl : cmd.cells.length = 54 := (hc.len tys hcm).trans (by kernel_rfl)
    obtain ⟨fd, hf, hfm, hfsub⟩ := hc.field tys hcm Go.Proofs.Tryz.underlying57 (j := 1) rfl
    obtain ⟨nd, hn, _, hnsub⟩ := hc.field tys hcm Go.Proofs.Tryz.underlying57 (j := 3) rfl
    obtain ⟨md, hm, _, hmsub⟩ := hc.field tys hcm Go.Proofs.Tryz.underlying57 (j := 4) rfl
    obtain ⟨kd, hk, _, hksub⟩ := hf.field tys hfm Go.Proofs.Tryz.underlying52 (j := 0) rfl
    obtain ⟨nt, rfl⟩ := hn.bool_inv Go.Proofs.Tryz.underlying4
    obtain ⟨nm, rfl, _⟩ := hm.int_inv Go.Proofs.Tryz.underlying5
    obtain ⟨k, rfl, _⟩ := hk.int_inv Go.Proofs.Tryz.underlying41
    refine both_in (cs := (es[i.toNat]).cells) (cc := cmd.cells) (to := to) (k := k) (nm := nm) (nt := nt) ⟨hsub0, hlen, fun nb na => D.okL p nb na, h0, h1, by omega, ?_, hxl, sub_all hxl, ?_, hcl, fun nb na => D.okL _ nb na, fun nb na => D.okL _ nb na, ?_, ?_, ?_, ?_⟩
    · rw [D.cellsLL_map, List.getElem?_map, List.getElem?_eq_getElem hj]
      rfl
    · have e : Go.Proofs.Tryz.prog.cellsOf 57 = 54 := by kernel_rfl
      have q : sub (es[i.toNat]).cells 0 (Go.Proofs.Tryz.prog.cellsOf 57) = some cmd.cells := hcsub
      rw [e] at q
      exact q
    · have e : Go.Proofs.Tryz.prog.cellsOf 3 = 1 := by kernel_rfl
      have q : sub (es[i.toNat]).cells 54 (Go.Proofs.Tryz.prog.cellsOf 3) = some [.int .i64 to] := htosub
      rw [e] at q
      exact q
    · have e : Go.Proofs.Tryz.prog.cellsOf 41 = 1 := by kernel_rfl
      have q : sub fd.cells 0 (Go.Proofs.Tryz.prog.cellsOf 41) = some [.int .u8 k] := hksub
      rw [e] at q
      exact sub_sub hfsub q
    · have e : Go.Proofs.Tryz.prog.cellsOf 4 = 1 := by kernel_rfl
      have q : sub cmd.cells 31 (Go.Proofs.Tryz.prog.cellsOf 4) = some [.bool nt] := hnsub
      rw [e] at q
      exact q
    · have e : Go.Proofs.Tryz.prog.cellsOf 5 = 1 := by kernel_rfl
      have q : sub cmd.cells 32 (Go.Proofs.Tryz.prog.cellsOf 5) = some [.int .u8 nm] := hmsub
      rw [e] at q
      exact q
end YtjeffeobdpganaaGreatDoor
end Go.Ab
