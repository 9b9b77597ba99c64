/- The law of DatumChecks. -/
import Derived.Test.YtbkgpdkimcnpgaaRd17
namespace Go.Proofs.Ytbkgpdkimcnpgaa.Ab
open Go
set_option linter.unusedVariables false
set_option linter.unusedSimpArgs false
set_option maxRecDepth 4000
set_option maxHeartbeats 1000000

theorem cutT_idem (t : ByteArray) : cutT (cutT t) = cutT t := by
  unfold cutT
  simp [ByteArray.extract_extract, ByteArray.size_extract]
mutual
theorem D.cut_idem : ∀ (d : D) (left deep : Nat), (d.cut left deep).1.cut left deep = d.cut left deep
  | .mk k n t l, left, deep => by simp only [D.cut, cutT_idem, D.cuts_idem l]
theorem D.cuts_idem : ∀ (l : List D) (left deep : Nat), D.cuts (D.cuts l left deep).1 left deep = D.cuts l left deep
  | [], left, deep => by simp [D.cuts]
  | d :: l, left, deep => by
    simp only [D.cuts]
    split
    · rename_i h
      simp only [D.cuts, if_pos h, D.cut_idem d, D.cuts_idem l]
    · simp [D.cuts]
end

theorem law3 (d : D) : call X E 20000 3 [d.v] [] = some (.c (.bool true), []) := by
  have hs := D.cut_small d 3000 1020 (by omega)
  have c1 : ∀ h, call X E 19999 14 [d.v] h = some ((d.cut 3000 1020).1.v, h) := run14 d 19998 (by omega)
  have c2 : ∀ h, call X E 19999 14 [(d.cut 3000 1020).1.v] h = some ((d.cut 3000 1020).1.v, h) := fun h => by
    have := run14 (d.cut 3000 1020).1 19998 (by omega) h
    rwa [D.cut_idem] at this
  generalize (d.cut 3000 1020).1 = a at *
  have e1 : ∀ h, call X E 19999 15 [a.v] h = some (.c (.int .i64 a.ck), h) := run15 a (by omega) 19999 (by omega)
  have e2 : ∀ h, call X E 19999 16 [a.v] h = some (.c (.int .i64 a.ck), h) := run16 a (by omega) 19999 (by omega)
  have e3 : ∀ h, call X E 19999 17 [a.v] h = some (.c (.int .i64 a.sz), h) := run17 (n := 19998) (by omega) (by omega)
  have e4 : ∀ h, call X E 19999 18 [a.v] h = some (.c (.int .i64 a.sz), h) := run18 a (by omega) 19999 (by omega)
  have e5 : ∀ h, call X E 19999 19 [a.v] h = some (.c (.int .i64 a.dp), h) := run19 (n := 19998) (by omega) (by omega)
  have e6 : ∀ h, call X E 19999 20 [a.v] h = some (.c (.int .i64 a.dp), h) := run20 a (by omega) 19999 (by omega)
  have e7 : ∀ h, call X E 19999 21 [a.v, a.v] h = some (.c (.bool true), h) := fun h => by
    have := run21 a a (by omega) 19999 (by omega) h
    rwa [D.same_refl] at this
  have e8 : ∀ h, call X E 19999 22 [] h = some (.c (.bool true), h) := gives_nil (n := 19999) rfl (alive_up (by omega))
  refine gives_of (n := 19999) rfl rfl rfl (by kernel_rfl) ⟨rfl, rfl⟩ (by simp [D.vw2, V.lows, D.low]) ?_ []
  simp -implicitDefEqProofs [x3_w, x3_r, x3r1_w, x3r2_w, x3r3_w, x3r4_w, wpk_seq, wpk_skip, wpk_cond, cndk_t, cndk_f, wpk_block, wpk_loop, wpk_exit, wpk_ret, retk_nil, retk_seq, retk_seq_r, retk_seq_e, retk_blk, retk_blk_r, retk_blk_e, retk_blk_n, opsk_nil, opsk_cons, gvk_some, gvk_ite, give_n, give_g, guardF_tt, guardF_ff, guardF_tf, guardF_ft, bindO_some, bindO_none, bindO_ite, bindO_map, actF_mv, actF_pick, pickF_b, actF_alloc, actF_box, boxF_dead, actF_build, fillE, actF_bslice, actF_load, loadF_ref, loadF_ptr, loadO_cells, actF_store, storeF_ref, storeO_cells, actF_bin, actF_not, notF_b, actF_neg, negF_i, actF_fieldAddr, faF_ref, faF_ptr, actF_field, fieldF_agg, actF_indexAddr, iaF_sl, iaF_row, elF_some, actF_index, ixF_s, actF_sliceS, ssF_s, cutS_s, actF_sliceL, slF_sl, slF_row, cutL_s, cutR_s, optE, actF_extract, extF_t, actF_len, lenF_sl, lenF_row, actF_lenS, lenS_s, actF_append, appF_sl, grow_none, grow_nil, grow_full, grow_tok, srcV_sl, hz_nil, hz_cons, zc_some, zc_none, actF_mm, mmV_one, mmV_two, mmS_int, actF_conv, convF_i, actF_call, calF_s, calR_s, actF_clos, actF_nilchk, nckF_ref, nckF_ptr, nckF_clo, nckF_fn, A.val, updO, upd_at, arg0_at, callee_f, callee_clo, idx_int, List.map_cons, List.map_nil, List.append_nil, List.nil_append, List.cons_append, List.getElem?_cons_zero, List.getElem?_cons_succ, List.length_cons, List.length_nil, List.set_cons_zero, List.set_cons_succ, rd_none, rd_some, Option.map_some, Option.map_none, okc_agg, okc_sl, okc_ref, okc_ptr, okc_clo, okc_row, okc_int, okc_bool, okc_str, cells_agg, cells_c, cells_sl, cells_ref, cells_clo, cells_ptr, cells_row, vw1_c, vw1_sl, vw1_agg, vw1_row, vw2_c, vw2_sl, vw2_agg, vw2_ref, vw2_clo, vw2_row, splice, binV_int, binV_str, binV_beq, binV_bne, binS_emp, int_beq0, binI, if_true, if_false, Bool.false_eq_true, D.vw2, D.okc, D.rd, D.cells_len, D.spl, c1, c2, e1, e2, e3, e4, e5, e6, e7, e8, Fin_n, Fin_r, resFs_nil, resFs_cons, resF_t, resF_cell, cellR_ref, cellO_s, consO_s, res_one, res_two, vw_c, vw_sl, vw_agg, vw_tup, vw2_c, vw2_sl, vw2_agg, vw1_c, vw1_sl, vw1_agg, low_c]
end Go.Proofs.Ytbkgpdkimcnpgaa.Ab
