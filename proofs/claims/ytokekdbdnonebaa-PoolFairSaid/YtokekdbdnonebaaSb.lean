/- sum: blocks of bytes. -/
import Derived.Test.YtokekdbdnonebaaSa
import Derived.Test.YtokekdbdnonebaaMb
namespace Go.Proofs.Ytokekdbdnonebaa
open Sc Go

theorem IA_sum_Blocks (B : PH) (b1 : Nat) (pv : Value) (parts : List (List UInt8)) (hb1 : pcell B b1 0 pv) (hp : IsBB B pv parts) (hn : parts.flatten.length < 4611686018427387904) (hnl : parts.length < 4611686018427387904) : IterA Try.prog F_sum_Blocks_1 [.pointer (some ⟨b1, 0, none⟩)] B [] (nblk parts.flatten) fun i _ vs => vs = [agg [.row 64 (cBs (blk parts.flatten i))]] := by
  intro l J Z B hB hJm hZm hy A0 hJ0
  replace hb1 := hb1.mono hB
  replace hp := hp.mono hB
  obtain ⟨us, hul, ⟨pa, pc, rfl, hpc, hpr⟩, hus⟩ := hp
  refine tri_of fn_sum_Blocks_1 rfl nt_sum_Blocks_1 rfl fun W0 R => ?_
  simp only [argEnv, List.nil_append, List.cons_append]
  refine k_seq ?_
  refine k_region ?_
  refine n_op rfl (o_al rfl fun b3 => ?_)
  refine n_nil ?_
  refine th_n ?_
  refine k_seq ?_
  refine k_region ?_
  refine n_y rfl (y_as rfl) rfl ?_
  refine n_nil ?_
  refine th_n ?_
  refine k_seq ?_
  refine k_seq ?_
  refine k_region ?_
  refine n_y rfl (y_ldp rfl hb1) rfl ?_
  refine n_y rfl (y_len rfl) rfl ?_
  refine n_y rfl (y_mv rfl) rfl ?_
  refine n_nil ?_
  refine th_n ?_
  refine k_block ?_
  refine k_loop2 (α := Nat × List UInt8 × PH × Asrt) [4, 6, 8, 13, 14, 15, 16, 17, 18, 19, 20, 21, 22, 23, 24, 25, 26, 27, 28, 29, 30, 31, 32, 33, 34, 35, 36, 37, 38, 39] (fun z9 => z9.1 ≤ parts.length ∧ z9.2.1.length = 64 ∧ z9.2.1.take ((parts.take z9.1).flatten.length % 64) = preB parts.flatten ((parts.take z9.1).flatten.length) ∧ B.le z9.2.2.1 ∧ J ((parts.take z9.1).flatten.length / 64) z9.2.2.1 z9.2.2.2) (fun z9 => [(13, .int .i64 (z9.1 : Int)), (4, .int .i64 ((parts.take z9.1).flatten.length : Int))]) (fun z9 => z9.2.2.1) (fun z9 => [bk b3 220 [.row 64 (cBs z9.2.1)], z9.2.2.2]) (fun z9 => parts.length - z9.1) (0, z64, B, A0) ⟨by dsimp only; omega, by simp, by simp [preB], PH.le_refl _, by simpa using hJ0⟩ rfl ⟨rfl, rfl, trivial⟩ [bk b3 220 [.row 64 (cBs z64)], A0] rfl ?_
  rintro ⟨k, buf, Bk, A⟩ ⟨h1, h2, h3, hBk, hJk⟩
  dsimp only at h1 h2 h3 hBk hJk
  try conv => arg 7; dsimp only [List.nil_append, List.cons_append]
  try conv => arg 6; dsimp only
  try conv => arg 4; dsimp only [List.nil_append, List.cons_append]
  refine k_seq ?_
  refine k_region ?_
  refine n_y rfl (y_lt rfl rfl) rfl ?_
  refine n_nil ?_
  refine th_n ?_
  refine k_seq ?_
  refine k_cond rfl (fun c14 => ?_) (fun c14 => ?_)
  · skip
    have hk : k < parts.length := by omega
    obtain ⟨p, hpk⟩ : ∃ p, parts[k]? = some p := ⟨_, List.getElem?_eq_getElem hk⟩
    obtain ⟨u, huk⟩ : ∃ u, us[k]? = some u := ⟨_, List.getElem?_eq_getElem (by omega)⟩
    obtain ⟨qb, qo, rfl, hqr⟩ := hpr (by intro e; rw [e] at hul; simp at hul; omega)
    obtain ⟨pa2, pc2, rfl, hpc2, hpr2⟩ := hus k u p huk hpk
    have hfn := flat_next hpk
    have hfl := flat_le parts (k + 1)
    refine k_skip ?_
    refine th_n ?_
    refine k_seq ?_
    refine k_block ?_
    refine k_seq ?_
    refine k_region ?_
    refine n_y rfl (y_ia rfl rfl _ rfl (by omega)) rfl ?_
    refine n_y rfl (y_ldi (i := k) rfl (hqr.mono hBk) (by omega) huk) rfl ?_
    refine n_y rfl (y_as rfl) rfl ?_
    refine n_nil ?_
    refine th_n ?_
    refine k_seq ?_
    refine k_region ?_
    refine n_y rfl (y_mv rfl) rfl ?_
    refine n_y rfl (y_len rfl) rfl ?_
    refine n_y rfl (y_mv rfl) rfl ?_
    refine n_nil ?_
    refine th_n ?_
    refine k_block ?_
    refine k_loop2 (α := Nat × List UInt8 × PH × Asrt) [4, 8, 19, 20, 21, 22, 23, 24, 25, 26, 27, 28, 29, 30, 31, 32, 33, 34, 35, 36, 37, 38] (fun z9 => z9.1 ≤ p.length ∧ z9.2.1.length = 64 ∧ z9.2.1.take (((parts.take k).flatten.length + z9.1) % 64) = preB parts.flatten ((parts.take k).flatten.length + z9.1) ∧ Bk.le z9.2.2.1 ∧ J (((parts.take k).flatten.length + z9.1) / 64) z9.2.2.1 z9.2.2.2) (fun z9 => [(19, .int .i64 (z9.1 : Int)), (4, .int .i64 (((parts.take k).flatten.length + z9.1 : Nat) : Int))]) (fun z9 => z9.2.2.1) (fun z9 => [bk b3 220 [.row 64 (cBs z9.2.1)], z9.2.2.2]) (fun z9 => p.length - z9.1) (0, buf, Bk, A) ⟨Nat.zero_le _, h2, h3, PH.le_refl _, hJk⟩ rfl ⟨rfl, rfl, trivial⟩ [bk b3 220 [.row 64 (cBs buf)], A] rfl ?_
    clear h2 h3 hJk
    rintro ⟨j, buf2, Bj, A2⟩ ⟨h1j, h2, h3, hBj, hJj⟩
    dsimp only at h1j h2 h3 hBj hJj
    try conv => arg 7; dsimp only [List.nil_append, List.cons_append]
    try conv => arg 6; dsimp only
    try conv => arg 4; dsimp only [List.nil_append, List.cons_append]
    refine k_seq ?_
    refine k_region ?_
    refine n_y rfl (y_lt rfl rfl) rfl ?_
    refine n_nil ?_
    refine th_n ?_
    refine k_seq ?_
    refine k_cond rfl (fun c20 => ?_) (fun c20 => ?_)
    · skip
      have hj : j < p.length := by omega
      obtain ⟨rb, rof, rfl, hrr⟩ := hpr2 (by intro e; simp [cBs] at e; subst e; simp at hj)
      have hmsg := flat_get hpk hj
      refine k_skip ?_
      refine th_n ?_
      refine k_seq ?_
      refine k_block ?_
      refine k_seq ?_
      refine k_region ?_
      refine n_y rfl (y_ia rfl rfl _ rfl (by omega)) rfl ?_
      refine n_y rfl (y_ldi (i := j) rfl (hrr.mono (PH.le_trans hBk hBj)) (by omega) (cBs_get hj)) rfl ?_
      refine n_y rfl (y_as rfl) rfl ?_
      refine n_nil ?_
      refine th_n ?_
      refine k_seq ?_
      refine k_region ?_
      refine n_y rfl (y_mv rfl) rfl ?_
      refine n_y rfl (y_rem rfl rfl (by omega) (by omega)) rfl ?_
      refine n_y rfl (y_mv rfl) rfl ?_
      refine n_y rfl (y_iaa rfl rfl (((parts.take k).flatten.length + j) % 64) (by omega) (by omega)) rfl ?_
      refine n_op rfl (o_stB (d := ((parts.take k).flatten.length + j) % 64) rfl rfl (by omega) (by omega) (by omega) ?_)
      refine n_nil ?_
      refine th_n ?_
      refine k_seq ?_
      refine k_region ?_
      refine n_y rfl (y_mv rfl) rfl ?_
      refine n_y rfl (y_add rfl rfl (by omega)) rfl ?_
      refine n_y rfl (y_as rfl) rfl ?_
      refine n_nil ?_
      refine th_n ?_
      refine k_seq ?_
      refine k_region ?_
      refine n_y rfl (y_mv rfl) rfl ?_
      refine n_y rfl (y_rem rfl rfl (by omega) (by omega)) rfl ?_
      refine n_y rfl (y_eq rfl rfl) rfl ?_
      refine k_dec (fun c31 => ?_) (fun c31 => ?_)
      · skip
        refine n_y rfl (y_mv rfl) rfl ?_
        refine n_y rfl (y_mv rfl) rfl ?_
        refine n_y rfl (y_lda rfl rfl) rfl ?_
        refine n_op rfl (o_yield rfl rfl (hy (((parts.take k).flatten.length + j) / 64) _ Bj A2 (by unfold nblk; split <;> omega) (PH.le_trans hBk hBj) (by rw [preB_full hmsg h2 h3 (by omega)]) hJj) rfl ?_)
        rintro ok35 B35 L35 hB35 ⟨A35, rfl, hok35⟩
        try conv => arg 7; dsimp only [List.nil_append, List.cons_append]
        rcases hok35 with ⟨rfl, hJ35⟩ | ⟨rfl, hZ35⟩
        · skip
          refine n_y rfl (y_notb rfl) rfl ?_
          refine n_y rfl (y_pt rfl rfl) rfl ?_
          refine n_nil ?_
          refine th_n ?_
          refine k_condf rfl ?_
          refine k_skip ?_
          refine bl_n ?_
          refine th_n ?_
          refine k_region ?_
          refine n_y rfl (y_add rfl rfl (by omega)) rfl ?_
          refine n_y rfl (y_mv rfl) rfl ?_
          refine n_nil ?_
          refine th_n ?_
          exact k_again2 (j + 1, buf2.set (((parts.take k).flatten.length + j) % 64) (gB p j), B35, A35) ⟨⟨by omega, by simp [h2], by dsimp only; rw [show ((parts.take k).flatten.length + (j + 1)) % 64 = 0 by omega, preB_zero _ (by omega)]; rfl, PH.le_trans hBj hB35, by dsimp only; rw [show ((parts.take k).flatten.length + (j + 1)) / 64 = ((parts.take k).flatten.length + j) / 64 + 1 by omega]; exact hJ35⟩, by dsimp only; omega⟩ rfl ⟨rfl, rfl, trivial⟩ rfl
        · skip
          refine n_y rfl (y_notb rfl) rfl ?_
          refine n_y rfl (y_pt rfl rfl) rfl ?_
          refine n_nil ?_
          refine th_n ?_
          refine k_condt rfl ?_
          refine k_ret ?_
          refine bl_r ?_
          refine th_r ?_
          refine th_r ?_
          refine bl_r ?_
          refine bl_r ?_
          refine th_r ?_
          refine th_r ?_
          refine bl_r ?_
          refine th_r ?_
          refine k_retn rfl (rs_nil) (PH.le_trans (PH.le_trans (hBk) hBj) hB35) (⟨A35, rfl, .inr hZ35⟩)
      · skip
        refine n_y rfl (y_mv rfl) rfl ?_
        refine n_no rfl rfl ?_
        refine n_no rfl rfl ?_
        refine n_no rfl rfl ?_
        refine n_no rfl rfl ?_
        refine n_y rfl (y_pf rfl rfl) rfl ?_
        refine n_nil ?_
        refine th_n ?_
        refine k_condf rfl ?_
        refine k_skip ?_
        refine bl_n ?_
        refine th_n ?_
        refine k_region ?_
        refine n_y rfl (y_add rfl rfl (by omega)) rfl ?_
        refine n_y rfl (y_mv rfl) rfl ?_
        refine n_nil ?_
        refine th_n ?_
        exact k_again2 (j + 1, buf2.set (((parts.take k).flatten.length + j) % 64) (gB p j), Bj, A2) ⟨⟨by omega, by simp [h2], preB_more (m := (parts.take k).flatten.length + j) hmsg h2 h3 (by omega), hBj, by dsimp only; rw [show ((parts.take k).flatten.length + (j + 1)) / 64 = ((parts.take k).flatten.length + j) / 64 by omega]; exact hJj⟩, by dsimp only; omega⟩ rfl ⟨rfl, rfl, trivial⟩ rfl
    · skip
      obtain rfl : j = p.length := by omega
      refine k_exit ?_
      refine th_x ?_
      refine th_x ?_
      refine bl_s ?_
      refine bl_n ?_
      refine th_n ?_
      refine k_region ?_
      refine n_y rfl (y_add rfl rfl (by omega)) rfl ?_
      refine n_y rfl (y_mv rfl) rfl ?_
      refine n_nil ?_
      refine th_n ?_
      exact k_again2 (k + 1, buf2, Bj, A2) ⟨⟨by dsimp only; omega, h2, by dsimp only; rw [hfn]; exact h3, PH.le_trans hBk hBj, by dsimp only; rw [hfn]; exact hJj⟩, by dsimp only; omega⟩ rfl ⟨rfl, by dsimp only; rw [hfn]; rfl, trivial⟩ rfl
  · skip
    obtain rfl : k = parts.length := by omega
    rw [List.take_length] at h3 hJk ⊢
    refine k_exit ?_
    refine th_x ?_
    refine th_x ?_
    refine bl_s ?_
    refine th_n ?_
    refine k_seq ?_
    refine k_region ?_
    have hel0 : (preB parts.flatten parts.flatten.length ++ z64.drop (parts.flatten.length % 64)).length = 64 := by
      rw [List.length_append, preB_length _ (Nat.le_refl _), List.length_drop, List.length_replicate]
      omega
    refine n_y rfl (y_bd rfl rfl) rfl ?_
    refine n_op rfl (o_al rfl fun b9 => ?_)
    refine n_op rfl (o_stv rfl rfl rfl rfl ?_)
    refine n_nil ?_
    refine th_n ?_
    refine k_seq ?_
    refine k_mix rfl [0, 0, 2, 6, 15] [(0, false), (1, false), (2, false), (3, false), (4, true)] (by kernel_rfl) ?_
    refine m_p rfl rfl (fun _ _ => y_sla rfl) rfl ?_
    refine m_p rfl rfl (fun _ _ => y_mv rfl) rfl ?_
    refine m_p rfl rfl (fun _ _ => y_rem rfl rfl (by omega) (by omega)) rfl ?_
    refine m_p rfl rfl (fun _ _ => y_slah rfl rfl (j := parts.flatten.length % 64) (by omega) (by omega)) rfl ?_
    refine m_mv1 [] rfl rfl rfl (by kernel_rfl) fun W1 ds1 ro1 Q1 K1 hK1 => ?_
    refine o_copy rfl rfl (src_rowB (o := 0) (k := parts.flatten.length % 64) (by omega)) (by omega) [.row 64 (cBs (preB parts.flatten parts.flatten.length ++ z64.drop (parts.flatten.length % 64)))] (copy_eq h3 (by omega)) (by simp [swidth, cBs, h2]; omega) (ho := oks_row hel0) rfl ?_
    refine hK1 _ _ _ (PH.le_refl _) trivial ?_
    refine m_end ?_
    refine th_n ?_
    refine k_seq ?_
    refine k_region ?_
    refine n_y rfl (y_mv rfl) rfl ?_
    refine n_y rfl (y_rem rfl rfl (by omega) (by omega)) rfl ?_
    refine n_y rfl (y_iaa rfl rfl (parts.flatten.length % 64) (by omega) (by omega)) rfl ?_
    refine n_op rfl (o_stB (v := 128) (d := parts.flatten.length % 64) rfl rfl (by omega) (by omega) (by omega) ?_)
    rw [show (preB parts.flatten parts.flatten.length ++ z64.drop (parts.flatten.length % 64)).set (parts.flatten.length % 64) 128 = endB parts.flatten from rfl]
    refine n_nil ?_
    refine th_n ?_
    refine k_cutx (α := PH × Asrt) [49, 50, 51, 52, 53, 54, 55, 56] (fun z9 => Bk.le z9.1 ∧ J (nblk parts.flatten - 1) z9.1 z9.2) (fun z9 => []) (fun z9 => z9.1) (fun z9 => [bk b9 220 [.row 64 (cBs (if 56 ≤ parts.flatten.length % 64 then z64 else endB parts.flatten))], z9.2]) [bk b9 220 [.row 64 (cBs (endB parts.flatten))], A] ?_ fun z hz => ?_
    · try conv => arg 7; dsimp only [List.nil_append, List.cons_append]
      refine k_seq ?_
      refine k_region ?_
      refine n_y rfl (y_mv rfl) rfl ?_
      refine n_y rfl (y_rem rfl rfl (by omega) (by omega)) rfl ?_
      refine n_y rfl (y_ge rfl rfl) rfl ?_
      refine n_nil ?_
      refine th_n ?_
      refine k_cond rfl (fun c51 => ?_) (fun c51 => ?_)
      · skip
        refine k_seq ?_
        refine k_seq ?_
        refine k_region ?_
        refine n_y rfl (y_mv rfl) rfl ?_
        refine n_y rfl (y_lda rfl rfl) rfl ?_
        refine n_op rfl (o_yield rfl rfl (hy (parts.flatten.length / 64) _ Bk A (by unfold nblk; rw [if_pos (by omega)]; omega) hBk (by dsimp only; rw [blk_end _ (by omega)]) hJk) rfl ?_)
        rintro ok54 B54 L54 hB54 ⟨A54, rfl, hok54⟩
        try conv => arg 7; dsimp only [List.nil_append, List.cons_append]
        rcases hok54 with ⟨rfl, hJ54⟩ | ⟨rfl, hZ54⟩
        · skip
          refine n_y rfl (y_notb rfl) rfl ?_
          refine n_nil ?_
          refine th_n ?_
          refine k_condf rfl ?_
          refine k_skip ?_
          refine th_n ?_
          refine k_region ?_
          refine n_y rfl (y_bd rfl rfl) rfl ?_
          refine n_op rfl (o_stv rfl rfl rfl rfl ?_)
          refine n_nil ?_
          refine th_n ?_
          have e9 : (if 56 ≤ parts.flatten.length % 64 then z64 else endB parts.flatten) = z64 := if_pos (by omega)
          rw [e9]
          exact k_again2 (B54, A54) ⟨hB54, by dsimp only; rw [show nblk parts.flatten - 1 = parts.flatten.length / 64 + 1 by unfold nblk; rw [if_pos (by omega)]; omega]; exact hJ54⟩ rfl trivial rfl
        · skip
          refine n_y rfl (y_notb rfl) rfl ?_
          refine n_nil ?_
          refine th_n ?_
          refine k_condt rfl ?_
          refine k_ret ?_
          refine th_r ?_
          refine th_r ?_
          refine k_retn rfl (rs_nil) (PH.le_trans (hBk) hB54) (⟨A54, rfl, .inr hZ54⟩)
      · skip
        refine k_skip ?_
        refine th_n ?_
        have e9 : (if 56 ≤ parts.flatten.length % 64 then z64 else endB parts.flatten) = endB parts.flatten := if_neg (by omega)
        rw [e9]
        exact k_again2 (Bk, A) ⟨PH.le_refl _, by dsimp only; rw [show nblk parts.flatten - 1 = parts.flatten.length / 64 by unfold nblk; rw [if_neg (by omega)]; omega]; exact hJk⟩ rfl trivial rfl
    · obtain ⟨Bc, Ac⟩ := z
      obtain ⟨hBc, hJc⟩ := hz
      dsimp only at hBc hJc
      have hel : (if 56 ≤ parts.flatten.length % 64 then z64 else endB parts.flatten).length = 64 := by split <;> first | exact endB_length _ | simp
      try conv => arg 7; dsimp only [List.nil_append, List.cons_append]
      try conv => arg 6; dsimp only
      try conv => arg 4; dsimp only [List.nil_append, List.cons_append]
      refine k_seq ?_
      refine k_seq ?_
      refine k_region ?_
      refine n_y rfl (y_mv rfl) rfl ?_
      refine n_nil ?_
      refine th_n ?_
      refine k_block ?_
      refine k_loop2 (α := Nat) [10, 57, 58, 59, 60, 61, 62, 63, 64, 65, 66, 67, 68, 69, 70] (fun i => i ≤ 8) (fun i => [(57, .int .i64 (i : Int))]) (fun i => Bc) (fun i => [bk b9 220 [.row 64 (cBs (lset (if 56 ≤ parts.flatten.length % 64 then z64 else endB parts.flatten) parts.flatten.length i))]]) (fun i => 8 - i) 0 (by omega) rfl ⟨rfl, trivial⟩ [bk b9 220 [.row 64 (cBs (if 56 ≤ parts.flatten.length % 64 then z64 else endB parts.flatten))]] rfl ?_
      rintro i hi
      have hll := lset_length (if 56 ≤ parts.flatten.length % 64 then z64 else endB parts.flatten) parts.flatten.length hel i
      try conv => arg 7; dsimp only [List.nil_append, List.cons_append]
      try conv => arg 6; dsimp only
      try conv => arg 4; dsimp only [List.nil_append, List.cons_append]
      refine k_seq ?_
      refine k_region ?_
      refine n_y rfl (y_lt rfl rfl) rfl ?_
      refine n_nil ?_
      refine th_n ?_
      refine k_seq ?_
      refine k_cond rfl (fun c58 => ?_) (fun c58 => ?_)
      · skip
        refine k_skip ?_
        refine th_n ?_
        refine k_seq ?_
        refine k_block ?_
        refine k_seq ?_
        refine k_region ?_
        refine n_y rfl (y_mv rfl) rfl ?_
        refine n_y rfl (y_as rfl) rfl ?_
        refine n_nil ?_
        refine th_n ?_
        refine k_region ?_
        refine n_y rfl (y_mv rfl) rfl ?_
        refine n_y rfl (y_sub rfl rfl (by omega)) rfl ?_
        refine n_y rfl (y_mv rfl) rfl ?_
        refine n_y rfl (y_cv (k := .u64) rfl) rfl ?_
        rw [wrap_u64' parts.flatten.length (by omega)]
        refine n_y rfl (y_shlU (s := 3) rfl rfl (by decide)) rfl ?_
        refine n_y rfl (y_mv rfl) rfl ?_
        refine n_y rfl (y_mul rfl rfl (by omega)) rfl ?_
        rw [show (8 : Int) * (i : Int) = ((8 * i : Nat) : Int) by omega]
        refine n_y rfl (y_shrN (s := 8 * i) rfl rfl (by show _ ≤ 64; omega)) rfl ?_
        refine n_y rfl (y_cvNB rfl) rfl ?_
        refine n_y rfl (y_iaa rfl rfl (63 - i) (by omega) (by omega)) rfl ?_
        refine n_op rfl (o_stB (d := 63 - i) rfl rfl (by omega) (by omega) (by omega) ?_)
        rw [show (lset (if 56 ≤ parts.flatten.length % 64 then z64 else endB parts.flatten) parts.flatten.length i).set (63 - i) (UInt8.ofNat (parts.flatten.length * 2 ^ 3 % 18446744073709551616 / 2 ^ (8 * i))) = lset (if 56 ≤ parts.flatten.length % 64 then z64 else endB parts.flatten) parts.flatten.length (i + 1) from rfl]
        refine n_nil ?_
        refine bl_n ?_
        refine th_n ?_
        refine k_region ?_
        refine n_y rfl (y_add rfl rfl (by omega)) rfl ?_
        refine n_y rfl (y_mv rfl) rfl ?_
        refine n_nil ?_
        refine th_n ?_
        exact k_again2 (i + 1) ⟨by omega, by omega⟩ rfl ⟨rfl, trivial⟩ rfl
      · skip
        obtain rfl : i = 8 := by omega
        rw [show lset (if 56 ≤ parts.flatten.length % 64 then z64 else endB parts.flatten) parts.flatten.length 8 = lastB parts.flatten from rfl]
        refine k_exit ?_
        refine th_x ?_
        refine th_x ?_
        refine bl_s ?_
        refine th_n ?_
        refine k_region ?_
        refine n_y rfl (y_mv rfl) rfl ?_
        refine n_y rfl (y_lda rfl rfl) rfl ?_
        refine n_op rfl (o_yield rfl rfl (hy (nblk parts.flatten - 1) _ Bc Ac (by have := nblk_pos parts.flatten; omega) (PH.le_trans hBk hBc) (by dsimp only; rw [blk_last]) hJc) rfl ?_)
        rintro ok73 B73 L73 hB73 ⟨A73, rfl, hok73⟩
        try conv => arg 7; dsimp only [List.nil_append, List.cons_append]
        rcases hok73 with ⟨rfl, hJ73⟩ | ⟨rfl, hZ73⟩
        · skip
          refine n_nil ?_
          refine k_retf ?_
          refine k_retn rfl (rs_nil) (PH.le_trans (PH.le_trans (hBk) hBc) hB73) (⟨A73, rfl, by first | exact .inl (by rw [show nblk parts.flatten = nblk parts.flatten - 1 + 1 by have := nblk_pos parts.flatten; omega]; exact hJ73) | exact .inr hZ73⟩)
        · skip
          refine n_nil ?_
          refine k_retf ?_
          refine k_retn rfl (rs_nil) (PH.le_trans (PH.le_trans (hBk) hBc) hB73) (⟨A73, rfl, by first | exact .inl (by rw [show nblk parts.flatten = nblk parts.flatten - 1 + 1 by have := nblk_pos parts.flatten; omega]; exact hJ73) | exact .inr hZ73⟩)
end Go.Proofs.Ytokekdbdnonebaa
