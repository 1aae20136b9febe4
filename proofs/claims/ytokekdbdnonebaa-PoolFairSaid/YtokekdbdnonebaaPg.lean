/- pack: the fields of bytes. -/
import Derived.Test.YtokekdbdnonebaaPf
import Derived.Test.YtokekdbdnonebaaEngS
import Derived.Test.YtokekdbdnonebaaMd
namespace Go.Proofs.Ytokekdbdnonebaa
open Sc Go

theorem T_pack_reader_all (B : PH) (rb : Nat) : Tri Try.prog F_pack_reader_all [.pointer (some ⟨rb, 0, none⟩)] B [] fun v B' L' => ∃ b1, v = .func (.func F_pack_reader_all_1) #[] #[.pointer (some ⟨b1, 0, none⟩)] ∧ pcell B' b1 0 (.pointer (some ⟨rb, 0, none⟩)) ∧ L' = [] := by
  refine tri_of fn_pack_reader_all rfl nt_pack_reader_all rfl fun W0 R => ?_
  simp only [argEnv, List.nil_append, List.cons_append]
  refine k_seq ?_
  refine k_region ?_
  refine n_op rfl (o_bx rfl rfl fun b1 => ?_)
  refine k_frz b1 fun Bf hBf hrf => ?_
  refine n_y rfl (y_as rfl) rfl ?_
  refine n_nil ?_
  refine th_n ?_
  refine k_seq ?_
  refine k_region ?_
  refine n_y rfl (y_mf rfl rfl) rfl ?_
  refine n_y rfl (y_as rfl) rfl ?_
  refine n_nil ?_
  refine th_n ?_
  refine k_ret ?_
  refine k_retn rfl (rs_t rfl (rs_nil)) (hBf) (⟨b1, rfl, hrf.cell (i := 0) rfl, rfl⟩)
theorem IA_pack_all (B : PH) (b1 rb : Nat) (rv0 : Value) (rest0 : List UInt8) (hb1 : pcell B b1 0 (.pointer (some ⟨rb, 0, none⟩))) (hr0 : IsB B rv0 rest0) (hn : rest0.length < 4611686018427387904) :
    IterGA Try.prog F_pack_reader_all_1 [.pointer (some ⟨b1, 0, none⟩)] B ((0 : UInt8), rest0) [bk rb 208 [.one rv0, .one (.int .i64 0)]]
      (fun s B vs O s' => ∃ tag b r bv rv, nextF s.1 s.2 = .item tag b r ∧ vs = [cB tag, bv] ∧ IsB B bv b ∧ IsB B rv r ∧ O = [bk rb 208 [.one rv, .one (.int .i64 0)]] ∧ s' = (tag, r))
      (fun _ _ => True)
      (fun s _ O => ∃ rv e, OneC rv ∧ O = [bk rb 208 [.one rv, .one (.int .i64 e)]] ∧ ((nextF s.1 s.2 = .done ∧ e = 0) ∨ nextF s.1 s.2 = .bad e)) := by
  intro l J Z B hB hJm hZm hy A0 hJ0
  replace hb1 := hb1.mono hB
  replace hr0 := hr0.mono hB
  haveI := hr0.one
  refine tri_of fn_pack_reader_all_1 rfl nt_pack_reader_all_1 rfl fun W0 R => ?_
  simp only [argEnv, List.nil_append, List.cons_append]
  refine k_seq ?_
  refine k_region ?_
  refine n_y rfl (y_as rfl) rfl ?_
  refine n_nil ?_
  refine th_n ?_
  refine k_block ?_
  refine k_loop2 (α := UInt8 × List UInt8 × Value × PH × Asrt) [3, 4, 5, 6, 7, 8, 9, 10, 11, 12, 13, 14, 15, 16, 17, 18, 19, 20, 21, 22, 23, 24, 25, 26, 27, 28, 29, 30, 31, 32, 33, 34, 35, 36, 37, 38, 39, 40, 41, 42, 43, 44, 45, 46, 47, 48, 49, 50, 51, 52, 53, 54, 55, 56, 57] (fun z9 => z9.2.1.length < 4611686018427387904 ∧ B.le z9.2.2.2.1 ∧ IsB z9.2.2.2.1 z9.2.2.1 z9.2.1 ∧ J (z9.1, z9.2.1) z9.2.2.2.1 z9.2.2.2.2) (fun z9 => [(3, cB z9.1)]) (fun z9 => z9.2.2.2.1) (fun z9 => [bk rb 208 [.one z9.2.2.1, .one (.int .i64 0)], z9.2.2.2.2]) (fun z9 => z9.2.1.length) (0, rest0, rv0, B, A0) ⟨hn, PH.le_refl _, hr0, hJ0⟩ rfl ⟨rfl, trivial⟩ [bk rb 208 [.one rv0, .one (.int .i64 0)], A0] rfl ?_
  rintro ⟨last, rest, rv, Bk, A⟩ ⟨hlen, hBk, hr, hJ⟩
  dsimp only at hlen hBk hr hJ
  haveI := hr.one
  obtain ⟨ra, rc, rfl⟩ := hr.form
  try conv => arg 7; dsimp only [List.nil_append, List.cons_append]
  try conv => arg 6; dsimp only
  try conv => arg 4; dsimp only [List.nil_append, List.cons_append]
  replace hb1 := hb1.mono hBk
  refine k_seq ?_
  refine k_seq ?_
  refine k_region ?_
  refine n_y rfl (y_ldp rfl hb1) rfl ?_
  refine n_y rfl (y_nil rfl) rfl ?_
  refine n_y rfl (y_fa rfl) rfl ?_
  refine n_y rfl (y_ld rfl rfl) rfl ?_
  refine n_y rfl (y_len rfl) rfl ?_
  refine n_y rfl (y_gt rfl rfl) rfl ?_
  refine k_dec (fun c11 => ?_) (fun c11 => ?_)
  · skip
    refine n_y rfl (y_mv rfl) rfl ?_
    refine n_y rfl (y_ldp rfl hb1) rfl ?_
    refine n_y rfl (y_nil rfl) rfl ?_
    refine n_y rfl (y_fa rfl) rfl ?_
    refine n_y rfl (y_ld rfl rfl) rfl ?_
    refine n_y rfl (y_eq rfl rfl) rfl ?_
    rw [show decide ((0 : Int) = 0) = true from rfl]
    refine n_y rfl (y_pt rfl rfl) rfl ?_
    refine n_nil ?_
    refine th_n ?_
    refine k_condt rfl ?_
    refine k_skip ?_
    refine th_n ?_
    refine k_block ?_
    refine k_seq ?_
    refine k_region ?_
    obtain ⟨qb, qo, qc, hq, hqc, hqr⟩ := hr.row (by omega)
    obtain ⟨rfl, rfl⟩ : ra = some ⟨qb, qo, none⟩ ∧ rc = qc := by simpa using hq
    obtain ⟨rv1, hrv1⟩ : ∃ v, v = Value.slice (some (if rc = 1 then (⟨qb, qo, none⟩ : Addr) else ⟨qb, qo + 1 * 1, none⟩)) (rest.length - 1) (rc - 1) := ⟨_, rfl⟩
    have hr1 := hr.drop (i := 1) (by omega)
    rw [← hrv1] at hr1
    haveI := hr1.one
    refine n_y rfl (y_ldp rfl hb1) rfl ?_
    refine n_y rfl (y_nil rfl) rfl ?_
    refine n_y rfl (y_fa rfl) rfl ?_
    refine n_y rfl (y_ld rfl rfl) rfl ?_
    refine n_y rfl (y_ia rfl rfl 0 rfl (by omega)) rfl ?_
    refine n_y rfl (y_ldi (i := 0) rfl hqr (by omega) (cBs_get (by omega))) rfl ?_
    refine n_y rfl (y_as rfl) rfl ?_
    refine n_nil ?_
    refine th_n ?_
    refine k_seq ?_
    refine k_mix rfl [0, 0, 2, 6, 14, 30, 63, 127, 255] [(0, false), (1, false), (2, false), (3, false), (4, false), (5, false), (6, false), (7, false), (8, true)] (by kernel_rfl) ?_
    refine m_y rfl rfl (y_ldp rfl hb1) rfl ?_
    refine m_y rfl rfl (y_ldp rfl hb1) rfl ?_
    refine m_p rfl rfl (fun _ _ => y_nil rfl) rfl ?_
    refine m_p rfl rfl (fun _ _ => y_fa rfl) rfl ?_
    refine m_y rfl rfl (y_ld rfl rfl) rfl ?_
    refine m_p (v := rv1) rfl rfl (fun _ _ => by rw [hrv1]; exact y_sll rfl rfl (i := 1) rfl (by omega) rfl) rfl ?_
    refine m_p rfl rfl (fun _ _ => y_nil rfl) rfl ?_
    refine m_p rfl rfl (fun _ _ => y_fa rfl) rfl ?_
    refine m_mv0 [false, false, false] rfl rfl (by kernel_rfl) fun W1 ds1 ro1 Q1 K1 hK1 => ?_
    refine o_stv rfl rfl rfl rfl ?_
    refine hK1  _ _ (PH.le_refl _) trivial ?_
    refine m_end ?_
    refine th_n ?_
    refine k_seq ?_
    refine k_seq ?_
    refine k_region ?_
    refine n_y rfl (y_mv rfl) rfl ?_
    refine n_y rfl (y_mv rfl) rfl ?_
    refine n_y rfl (y_le rfl rfl) rfl ?_
    refine k_dec (fun c35 => ?_) (fun c35 => ?_)
    · skip
      refine n_y rfl (y_mv rfl) rfl ?_
      refine n_no rfl rfl ?_
      refine n_no rfl rfl ?_
      refine n_y rfl (y_pt rfl rfl) rfl ?_
      refine n_nil ?_
      refine th_n ?_
      refine k_condt rfl ?_
      refine k_seq ?_
      refine k_region ?_
      refine n_y rfl (y_ldp rfl hb1) rfl ?_
      refine n_y rfl (y_nil rfl) rfl ?_
      refine n_y rfl (y_fa rfl) rfl ?_
      refine n_op rfl (o_stv rfl rfl rfl rfl ?_)
      refine n_nil ?_
      refine th_n ?_
      refine k_ret ?_
      refine th_r ?_
      refine bl_r ?_
      refine th_r ?_
      refine bl_r ?_
      refine k_retn rfl (rs_nil) (hBk) (⟨[bk rb 208 [.one rv1, .one (.int .i64 21)]], A, rfl, .inl ⟨(last, rest), ⟨_, 21, inferInstance, rfl, .inr (by dsimp only; rw [nextF, if_neg (by omega), if_pos (by first | exact .inl (UInt8.le_iff_toNat_le.2 (by omega)) | exact .inr (UInt8.lt_iff_toNat_lt.2 (by show 9 < _; omega)))])⟩, hJ⟩⟩)
    · skip
      refine n_y rfl (y_mv rfl) rfl ?_
      refine n_y rfl (y_mv rfl) rfl ?_
      refine n_y rfl (y_gt rfl rfl) rfl ?_
      refine k_dec (fun c38 => ?_) (fun c38 => ?_)
      · skip
        refine n_y rfl (y_pf rfl rfl) rfl ?_
        refine n_nil ?_
        refine th_n ?_
        refine k_condt rfl ?_
        refine k_seq ?_
        refine k_region ?_
        refine n_y rfl (y_ldp rfl hb1) rfl ?_
        refine n_y rfl (y_nil rfl) rfl ?_
        refine n_y rfl (y_fa rfl) rfl ?_
        refine n_op rfl (o_stv rfl rfl rfl rfl ?_)
        refine n_nil ?_
        refine th_n ?_
        refine k_ret ?_
        refine th_r ?_
        refine bl_r ?_
        refine th_r ?_
        refine bl_r ?_
        refine k_retn rfl (rs_nil) (hBk) (⟨[bk rb 208 [.one rv1, .one (.int .i64 21)]], A, rfl, .inl ⟨(last, rest), ⟨_, 21, inferInstance, rfl, .inr (by dsimp only; rw [nextF, if_neg (by omega), if_pos (by first | exact .inl (UInt8.le_iff_toNat_le.2 (by omega)) | exact .inr (UInt8.lt_iff_toNat_lt.2 (by show 9 < _; omega)))])⟩, hJ⟩⟩)
      · skip
        refine n_y rfl (y_pf rfl rfl) rfl ?_
        refine n_nil ?_
        refine th_n ?_
        refine k_condf rfl ?_
        refine k_skip ?_
        refine th_n ?_
        refine k_seq ?_
        refine k_region ?_
        refine n_y rfl (y_mv rfl) rfl ?_
        refine n_y rfl (y_as rfl) rfl ?_
        refine n_nil ?_
        refine th_n ?_
        refine k_seq ?_
        refine k_region ?_
        refine n_y rfl (y_ldp rfl hb1) rfl ?_
        refine n_op rfl (o_call rfl (T_pack_reader_run _ rb _ (rest.drop 1) hr1 (by simp; omega)) rfl ?_)
        rintro v45 B45 L45 hB45 ⟨rfl, h45⟩
        try conv => arg 7; dsimp only [List.nil_append, List.cons_append]
        have hng : ¬ (gB rest 0 ≤ last ∨ gB rest 0 > 9) := by
          rintro (h | h)
          · have := UInt8.le_iff_toNat_le.1 h
            omega
          · have h : 9 < (gB rest 0).toNat := UInt8.lt_iff_toNat_lt.1 h
            omega
        rcases runR_cases (rest.drop 1) with hR | ⟨b, r, hR⟩ <;> rw [hR] at h45 <;> dsimp only at h45
        · obtain ⟨rfl, rfl⟩ := h45
          have hnx : nextF last rest = .bad 20 := by
            rw [nextF, if_neg (by omega), if_neg hng, hR]
          try conv => arg 7; dsimp only [List.nil_append, List.cons_append]
          refine n_y rfl (y_as rfl) rfl ?_
          refine n_nil ?_
          refine th_n ?_
          refine k_seq ?_
          refine k_region ?_
          refine n_y rfl (y_ldp rfl hb1) rfl ?_
          refine n_y rfl (y_nil rfl) rfl ?_
          refine n_y rfl (y_fa rfl) rfl ?_
          refine n_y rfl (y_ld rfl rfl) rfl ?_
          refine n_y rfl (y_ne rfl rfl) rfl ?_
          rw [show decide ((20 : Int) ≠ 0) = true from rfl]
          refine n_y rfl (y_mv rfl) rfl ?_
          refine n_no rfl rfl ?_
          refine n_no rfl rfl ?_
          refine n_no rfl rfl ?_
          refine n_no rfl rfl ?_
          refine n_no rfl rfl ?_
          refine n_y rfl (y_pt rfl rfl) rfl ?_
          refine n_nil ?_
          refine th_n ?_
          refine k_condt rfl ?_
          refine k_ret ?_
          refine bl_r ?_
          refine th_r ?_
          refine bl_r ?_
          refine k_retn rfl (rs_nil) (hBk) (⟨[bk rb 208 [.one rv1, .one (.int .i64 20)]], A, rfl, .inl ⟨(last, rest), ⟨_, 20, inferInstance, rfl, .inr hnx⟩, hJ⟩⟩)
        · obtain ⟨hbv, rv', hrv', rfl⟩ := h45
          haveI := hbv.one
          haveI := hrv'.one
          have hnx : nextF last rest = .item (gB rest 0) b r := by
            rw [nextF, if_neg (by omega), if_neg hng, hR]
          have hrl := (nextF_lt hnx).1
          try conv => arg 7; dsimp only [List.nil_append, List.cons_append]
          refine n_y rfl (y_as rfl) rfl ?_
          refine n_nil ?_
          refine th_n ?_
          refine k_seq ?_
          refine k_region ?_
          refine n_y rfl (y_ldp rfl hb1) rfl ?_
          refine n_y rfl (y_nil rfl) rfl ?_
          refine n_y rfl (y_fa rfl) rfl ?_
          refine n_y rfl (y_ld rfl rfl) rfl ?_
          refine n_y rfl (y_ne rfl rfl) rfl ?_
          rw [show decide ((0 : Int) ≠ 0) = false from rfl]
          refine n_y rfl (y_mv rfl) rfl ?_
          refine n_y rfl (y_mv rfl) rfl ?_
          refine n_y rfl (y_mv rfl) rfl ?_
          refine n_y rfl (y_mv rfl) rfl ?_
          refine n_op rfl (o_yield rfl rfl (hy (last, rest) _ _ (gB rest 0, r) B45 A hBk ⟨_, _, _, v45, rv', hnx, rfl, hbv, hrv', rfl, rfl⟩ hJ) rfl ?_)
          rintro ok55 B55 L55 hB55 hok55
          replace hb1 := hb1.mono hB55
          rcases hok55 with ⟨rfl, A55, rfl, hJ55⟩ | ⟨rfl, O55, A55, rfl, hback55, hZ55⟩
          · skip
            try conv => arg 7; dsimp only [List.nil_append, List.cons_append]
            refine n_y rfl (y_notb rfl) rfl ?_
            refine n_y rfl (y_pf rfl rfl) rfl ?_
            refine n_nil ?_
            refine th_n ?_
            refine k_condf rfl ?_
            refine k_skip ?_
            refine bl_n ?_
            refine th_n ?_
            exact k_again2 (gB rest 0, r, rv', B55, A55) ⟨⟨by dsimp only; omega, PH.le_trans hBk hB55, hrv'.mono hB55, hJ55⟩, by dsimp only; omega⟩ rfl ⟨rfl, trivial⟩ rfl
          · skip
            try conv => arg 7; dsimp only [List.nil_append, List.cons_append]
            refine n_y rfl (y_notb rfl) rfl ?_
            refine n_y rfl (y_pf rfl rfl) rfl ?_
            refine n_nil ?_
            refine th_n ?_
            refine k_condt rfl ?_
            refine k_ret ?_
            refine bl_r ?_
            refine th_r ?_
            refine bl_r ?_
            refine k_retn rfl (rs_nil) (PH.le_trans (hBk) hB55) (⟨O55, A55, rfl, .inr hZ55⟩)
  · skip
    refine n_y rfl (y_mv rfl) rfl ?_
    refine n_no rfl rfl ?_
    refine n_no rfl rfl ?_
    refine n_no rfl rfl ?_
    refine n_no rfl rfl ?_
    refine n_no rfl rfl ?_
    refine n_y rfl (y_pf rfl rfl) rfl ?_
    refine n_nil ?_
    refine th_n ?_
    refine k_condf rfl ?_
    refine k_exit ?_
    refine th_x ?_
    refine th_x ?_
    refine bl_s ?_
    refine k_retf ?_
    refine k_retn rfl (rs_nil) (hBk) (⟨[bk rb 208 [.one (.slice ra rest.length rc), .one (.int .i64 0)]], A, rfl, .inl ⟨(last, rest), ⟨_, 0, ⟨rfl⟩, rfl, .inl ⟨by dsimp only; rw [nextF, if_pos (by omega)], rfl⟩⟩, hJ⟩⟩)
end Go.Proofs.Ytokekdbdnonebaa
