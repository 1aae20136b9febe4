/- pack: messages written. -/
import Derived.Test.YtokekdbdnonebaaPc
namespace Go.Proofs.Ytokekdbdnonebaa
open Sc Go

theorem T_pack_fields (B : PH) (m : Msg) (dv iv lv : Value) (hm : IsM B m dv iv lv) : Tri Try.prog F_pack_fields [agg (mS m dv iv lv)] B [] fun v B' L' => ∃ b1, v = .func (.func F_pack_fields_1) #[] #[.pointer (some ⟨b1, 0, none⟩)] ∧ prow B' b1 0 (flat (mS m dv iv lv)) ∧ L' = [] := by
  obtain ⟨da, dc, rfl⟩ := hm.data.form
  obtain ⟨ia, ic, rfl⟩ := hm.ids.form
  obtain ⟨la, lc, rfl⟩ := hm.list.form
  refine tri_of fn_pack_fields rfl nt_pack_fields rfl fun W0 R => ?_
  simp only [argEnv, List.nil_append, List.cons_append]
  refine k_seq ?_
  refine k_region ?_
  refine n_op rfl (o_bx rfl rfl fun b1 => ?_)
  refine k_frz b1 fun Bf hBf hrf => ?_
  refine n_y rfl (y_as rfl) rfl ?_
  refine n_nil ?_
  refine th_n ?_
  refine k_seq ?_
  refine k_region ?_
  refine n_y rfl (y_mf rfl rfl) rfl ?_
  refine n_y rfl (y_as rfl) rfl ?_
  refine n_nil ?_
  refine th_n ?_
  refine k_ret ?_
  refine k_retn rfl (rs_t rfl (rs_nil)) (hBf) (⟨b1, rfl, hrf, rfl⟩)
theorem T_pack_Write (B : PH) (m : Msg) (dv iv lv : Value) (hm : IsM B m dv iv lv) (hs : Small m) : Tri Try.prog F_pack_Write [agg (mS m dv iv lv)] B [] fun v B' L' => ∃ bv, v = .tuple #[bv, .int .i64 (checkM m)] ∧ (checkM m = 0 → IsB B' bv (writeM m)) ∧ (checkM m ≠ 0 → bv = .slice none 0 0) ∧ L' = [] := by
  obtain ⟨da, dc, rfl⟩ := hm.data.form
  obtain ⟨ia, ic, rfl⟩ := hm.ids.form
  obtain ⟨la, lc, rfl⟩ := hm.list.form
  refine tri_of fn_pack_Write rfl nt_pack_Write rfl fun W0 R => ?_
  simp only [argEnv, List.nil_append, List.cons_append]
  refine k_seq ?_
  refine k_region ?_
  refine n_op rfl (o_bx rfl rfl fun b1 => ?_)
  refine n_y rfl (y_as rfl) rfl ?_
  refine n_y rfl (y_as rfl) rfl ?_
  refine n_nil ?_
  refine th_n ?_
  refine k_seq ?_
  refine k_seq ?_
  refine k_region ?_
  refine n_y rfl (y_lda rfl rfl) rfl ?_
  refine n_op rfl (o_call rfl (T_pack_check _ m _ _ _ hm hs) rfl ?_)
  rintro v8 B8 L8 hB8 ⟨rfl, rfl, rfl⟩
  try conv => arg 7; dsimp only [List.nil_append, List.cons_append]
  refine n_y rfl (y_as rfl) rfl ?_
  refine n_nil ?_
  refine th_n ?_
  refine k_seq ?_
  refine k_region ?_
  refine n_y rfl (y_mv rfl) rfl ?_
  refine n_y rfl (y_ne rfl rfl) rfl ?_
  refine n_nil ?_
  refine th_n ?_
  refine k_cond rfl (fun c10 => ?_) (fun c10 => ?_)
  · skip
    refine k_seq ?_
    refine k_region ?_
    refine n_y rfl (y_mv rfl) rfl ?_
    refine n_y rfl (y_as rfl) rfl ?_
    refine n_y rfl (y_as rfl) rfl ?_
    refine n_nil ?_
    refine th_n ?_
    refine k_ret ?_
    refine th_r ?_
    refine k_retn rfl (rs_t rfl (rs_t rfl (rs_nil))) (PH.le_refl _) (⟨_, rfl, fun h => absurd h c10, fun _ => rfl, rfl⟩)
  · skip
    have hck : checkM m = 0 := by omega
    obtain ⟨ck1, ck2, _⟩ := checkM_ok hck
    refine k_skip ?_
    refine th_n ?_
    refine k_seq ?_
    refine k_region ?_
    refine n_y rfl (y_fa rfl) rfl ?_
    refine n_y rfl (y_ld rfl rfl) rfl ?_
    refine n_y rfl (y_cvIB (by omega) rfl) rfl ?_
    refine n_op rfl (o_bs rfl rfl rfl rfl rfl rfl fun b15 => ?_)
    refine k_bkow (sz := 1) b15 1 rfl ?_
    refine n_op rfl (o_al rfl fun b5 => ?_)
    refine n_op rfl (o_stv rfl rfl rfl rfl ?_)
    refine n_nil ?_
    refine th_n ?_
    refine k_seq ?_
    refine k_seq ?_
    refine k_region ?_
    refine n_y rfl (y_lda rfl rfl) rfl ?_
    refine n_op rfl (o_call rfl (T_pack_fields _ m _ _ _ hm) rfl ?_)
    rintro v17 B17 L17 hB17 ⟨b17, rfl, hr17, rfl⟩
    try conv => arg 7; dsimp only [List.nil_append, List.cons_append]
    replace hm := hm.mono hB17
    refine n_nil ?_
    refine th_n ?_
    refine k_block ?_
    refine k_range (Own := []) rfl (Iter.ofA (IA_pack_fields _ b17 m _ _ _ hr17 hm hs hck)) rfl (fun i _ L => ∃ ov, L = [bk b5 29 [.one ov], ow 5 1 ov (outM m i).length (cBs (outM m i))] ∧ OneC ov) (fun _ _ _ => False) (fun _ _ _ _ _ h => h) (fun _ _ _ _ _ h => h) [bk b5 29 [.one (.slice (some ⟨b15, 0, none⟩) 1 1)], ow 5 1 (.slice (some ⟨b15, 0, none⟩) 1 1) 1 (flat [.one (cB (UInt8.ofNat m.kind.toNat))])] ⟨_, rfl, ⟨rfl⟩⟩ (by rintro i B1 vs ⟨tag, d, fv, h1, rfl, h2⟩; rfl) ?_ ?_ ?_
    · intro l i vs B1 L1 F1 F2 W0' hi hB1 hel hJ
      obtain ⟨tag, d, fv, hget, rfl, hfv⟩ := hel
      obtain ⟨ov, rfl, hov⟩ := hJ
      haveI := hfv.one
      have hol := outM_length hck i
      have hol2 := outM_length hck (i + 1)
      rw [outM_next hget] at hol2
      simp only [List.length_append, List.length_cons, List.length_nil, runB_length] at hol2
      have hdl := fields_small hck _ (List.mem_of_getElem? hget)
      dsimp only at hdl
      try conv => arg 7; dsimp only [List.nil_append, List.cons_append]
      try conv => arg 4; simp only [penv]
      replace hm := hm.mono hB1
      refine k_region ?_
      refine n_op rfl (o_al rfl fun b6 => ?_)
      refine n_op rfl (o_stv rfl rfl rfl rfl ?_)
      refine n_nil ?_
      refine th_n ?_
      refine k_sw (F1 := F1) ?_
      refine k_block ?_
      refine k_mix rfl [0, 0, 2, 6, 15, 0, 32, 127, 255, 511] [(0, false), (1, false), (2, false), (5, false), (6, false), (3, true), (4, true), (7, true), (8, true), (9, true)] (by kernel_rfl) ?_
      refine m_y rfl rfl (y_ld rfl rfl) rfl ?_
      refine m_p rfl rfl (fun _ _ => y_fa rfl) rfl ?_
      refine m_y rfl rfl (y_ld rfl rfl) rfl ?_
      refine m_p rfl rfl (fun _ _ => y_fa rfl) rfl ?_
      refine m_y rfl rfl (y_ld rfl rfl) rfl ?_
      refine m_mv1 [true, false, true] rfl rfl rfl (by kernel_rfl) fun W1 ds1 ro1 Q1 K1 hK1 => ?_
      refine o_bs rfl rfl rfl rfl rfl rfl fun b22 => ?_
      refine hK1 _ _ _ (PH.le_refl _) ⟨qy_y rfl (y_ld rfl rfl), qy_y rfl (y_ld rfl rfl), ⟨⟩⟩ ?_
      refine m_mv1 [true, false] rfl rfl rfl (by kernel_rfl) fun W1 ds1 ro1 Q1 K1 hK1 => ?_
      refine o_app rfl rfl rfl (src_bk (m := 1) rfl rfl) rfl rfl (by omega) rfl fun v23 hv23 => ?_
      rw [show flat [.one (cB tag)] = cBs [tag] from rfl]
      refine hK1 _ _ _ (PH.le_refl _) ⟨qy_y rfl (y_ld rfl rfl), ⟨⟩⟩ ?_
      refine m_mv1 [false] rfl rfl rfl (by kernel_rfl) fun W1 ds1 ro1 Q1 K1 hK1 => ?_
      refine o_call rfl (T_pack_run _ fv d hfv (by omega)) rfl ?_
      rintro v26 B26 L26 hB26 ⟨hv26, rfl⟩
      try conv => arg 7; dsimp only [List.nil_append, List.cons_append]
      replace hm := hm.mono hB26
      replace hfv := hfv.mono hB26
      refine hK1 _ _ _ (hB26) trivial ?_
      refine m_mv1 [] rfl rfl rfl (by kernel_rfl) fun W1 ds1 ro1 Q1 K1 hK1 => ?_
      refine o_app rfl rfl rfl hv26.src rfl rfl (by rw [runB_length]; omega) rfl fun v27 hv27 => ?_
      refine hK1 _ _ _ (PH.le_refl _) trivial ?_
      refine m_mv0 [] rfl rfl (by kernel_rfl) fun W1 ds1 ro1 Q1 K1 hK1 => ?_
      refine o_stv rfl rfl rfl rfl ?_
      refine hK1  _ _ (PH.le_refl _) trivial ?_
      refine m_end ?_
      refine bl_n ?_
      rw [← cBs_append, ← cBs_append, show (outM m i).length + 1 + (runB d).length = (outM m (i + 1)).length by rw [outM_next hget]; simp; omega, ← outM_next hget]
      exact k_rqn (hB26) ⟨v27, rfl, hv27⟩
    · intro D B2 L2 hB2 hJ2
      obtain ⟨ov, rfl, hov⟩ := hJ2
      rw [outM_all]
      try conv => arg 7; dsimp only [List.nil_append, List.cons_append]
      replace hm := hm.mono hB2
      refine bl_n ?_
      refine th_n ?_
      refine k_seq ?_
      refine k_region ?_
      refine n_y rfl (y_ld rfl rfl) rfl ?_
      refine n_y rfl (y_as rfl) rfl ?_
      refine n_y rfl (y_as rfl) rfl ?_
      refine n_nil ?_
      refine th_n ?_
      refine k_ret ?_
      refine k_unmark ?_
      refine k_frzw (v := ov) fun Bf hBf hrf => ?_
      refine k_retn rfl (rs_t rfl (rs_t rfl (rs_nil))) (PH.le_trans (PH.le_trans (hB17) hB2) hBf) (⟨ov, by rw [hck]; rfl, fun _ => hrf, fun h => absurd hck h, rfl⟩)
    · intro D c B2 L2 hB2 hZ2
      exact hZ2.elim
end Go.Proofs.Ytokekdbdnonebaa
