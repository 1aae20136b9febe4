/- sum: what sums come to. -/
import Derived.Test.YtokekdbdnonebaaSb
namespace Go.Proofs.Ytokekdbdnonebaa
open Sc Go

theorem T_sum_Blocks (B : PH) (pv : Value) (hpv : OneC pv) : Tri Try.prog F_sum_Blocks [pv] B [] fun v B' L' => ∃ b1, v = .func (.func F_sum_Blocks_1) #[] #[.pointer (some ⟨b1, 0, none⟩)] ∧ pcell B' b1 0 pv ∧ L' = [] := by
  refine tri_of fn_sum_Blocks rfl nt_sum_Blocks rfl fun W0 R => ?_
  simp only [argEnv, List.nil_append, List.cons_append]
  refine k_seq ?_
  refine k_region ?_
  refine n_op rfl (o_bx rfl rfl fun b1 => ?_)
  refine k_frz b1 fun Bf hBf hrf => ?_
  refine n_y rfl (y_as rfl) rfl ?_
  refine n_nil ?_
  refine th_n ?_
  refine k_seq ?_
  refine k_region ?_
  refine n_y rfl (y_mf rfl rfl) rfl ?_
  refine n_y rfl (y_as rfl) rfl ?_
  refine n_nil ?_
  refine th_n ?_
  refine k_ret ?_
  refine k_retn rfl (rs_t rfl (rs_nil)) (hBf) (⟨b1, rfl, hrf.cell (i := 0) rfl, rfl⟩)
theorem T_sum_Of (B : PH) (pv : Value) (parts : List (List UInt8)) (hp : IsBB B pv parts) (hn : parts.flatten.length < 4611686018427387904) (hnl : parts.length < 4611686018427387904) : Tri Try.prog F_sum_Of [pv] B [] fun v B' L' => v = agg [.row 32 (sumB parts.flatten).cs] ∧ B' = B ∧ L' = [] := by
  refine tri_of fn_sum_Of rfl nt_sum_Of rfl fun W0 R => ?_
  simp only [argEnv, List.nil_append, List.cons_append]
  refine k_seq ?_
  refine k_region ?_
  refine n_op rfl (o_al rfl fun b2 => ?_)
  refine n_nil ?_
  refine th_n ?_
  refine k_seq ?_
  refine k_region ?_
  refine n_y rfl (y_bd rfl rfl) rfl ?_
  refine n_op rfl (o_al rfl fun b3 => ?_)
  refine n_op rfl (o_stv rfl rfl rfl rfl ?_)
  refine k_reseg b3 [.row 8 (cWs iv)] (by rfl) (ho := oks_rowW rfl) ?_
  refine n_nil ?_
  refine th_n ?_
  refine k_seq ?_
  refine k_seq ?_
  refine k_region ?_
  refine n_y rfl (y_mv rfl) rfl ?_
  refine n_op rfl (o_call rfl (T_sum_Blocks _ _ hp.one) rfl ?_)
  rintro v9 B9 L9 hB9 ⟨b9, rfl, hc9, rfl⟩
  try conv => arg 7; dsimp only [List.nil_append, List.cons_append]
  replace hp := hp.mono hB9
  refine n_nil ?_
  refine th_n ?_
  refine k_block ?_
  refine k_range (Own := []) rfl (Iter.ofA (IA_sum_Blocks _ b9 pv parts hc9 hp hn hnl)) rfl (fun i _ L => L = [bk b3 216 [.row 8 (cWs (takes parts.flatten i))]]) (fun _ _ _ => False) (fun _ _ _ _ _ h => h) (fun _ _ _ _ _ h => h) [bk b3 216 [.row 8 (cWs iv)]] rfl (by rintro i B1 vs rfl; rfl) ?_ ?_ ?_
  · intro l i vs B1 L1 F1 F2 W0' hi hB1 hel hJ
    obtain rfl := hel
    obtain rfl := hJ
    haveI := rowB (blk_length parts.flatten i)
    try conv => arg 7; dsimp only [List.nil_append, List.cons_append]
    try conv => arg 4; simp only [penv]
    replace hp := hp.mono hB1
    refine k_region ?_
    refine n_op rfl (o_al rfl fun b4 => ?_)
    refine n_op rfl (o_stv rfl rfl rfl rfl ?_)
    refine n_nil ?_
    refine th_n ?_
    refine k_sw (F1 := F1) ?_
    refine k_block ?_
    refine k_region ?_
    refine n_op rfl (o_call rfl (T_sum_state_take _ b3 b4 (takes parts.flatten i) (blk parts.flatten i) (takes_length _ _) (blk_length _ _)) rfl ?_)
    rintro v11 B11 L11 hB11 ⟨rfl, rfl, rfl⟩
    try conv => arg 7; dsimp only [List.nil_append, List.cons_append]
    refine n_nil ?_
    refine bl_n ?_
    rw [show takeB (takes parts.flatten i) (blk parts.flatten i) = takes parts.flatten (i + 1) from rfl]
    exact k_rqn (PH.le_refl _) rfl
  · intro D B2 L2 hB2 hJ2
    obtain rfl := hJ2
    try conv => arg 7; dsimp only [List.nil_append, List.cons_append]
    replace hp := hp.mono hB2
    refine bl_n ?_
    refine th_n ?_
    refine k_seq ?_
    refine k_region ?_
    refine n_op rfl (o_al rfl fun b5 => ?_)
    refine n_nil ?_
    refine th_n ?_
    refine k_seq ?_
    refine k_seq ?_
    refine k_region ?_
    refine n_y rfl (y_mv rfl) rfl ?_
    refine n_nil ?_
    refine th_n ?_
    refine k_block ?_
    refine k_loop2 (α := Nat) [6, 12, 13, 14, 15, 16, 17, 18, 19, 20, 21, 22, 23, 24, 25, 26, 27] (fun i => i ≤ 32) (fun i => [(12, .int .i64 (i : Int))]) (fun i => B2) (fun i => [bk b5 49 [.row 32 (cBs (outB (takes parts.flatten (nblk parts.flatten)) i))]]) (fun i => 32 - i) 0 (by omega) rfl ⟨rfl, trivial⟩ [bk b5 49 [.row 32 zID.cs]] rfl ?_
    rintro i hi
    have hol := outB_length (takes parts.flatten (nblk parts.flatten)) i
    have htl := takes_length parts.flatten (nblk parts.flatten)
    try conv => arg 7; dsimp only [List.nil_append, List.cons_append]
    try conv => arg 6; dsimp only
    try conv => arg 4; dsimp only [List.nil_append, List.cons_append]
    refine k_seq ?_
    refine k_region ?_
    refine n_y rfl (y_lt rfl rfl) rfl ?_
    refine n_nil ?_
    refine th_n ?_
    refine k_seq ?_
    refine k_cond rfl (fun c13 => ?_) (fun c13 => ?_)
    · skip
      refine k_skip ?_
      refine th_n ?_
      refine k_seq ?_
      refine k_block ?_
      refine k_seq ?_
      refine k_region ?_
      refine n_y rfl (y_mv rfl) rfl ?_
      refine n_y rfl (y_as rfl) rfl ?_
      refine n_nil ?_
      refine th_n ?_
      refine k_region ?_
      refine n_y rfl (y_mv rfl) rfl ?_
      refine n_y rfl (y_mv rfl) rfl ?_
      refine n_y rfl (y_quo rfl rfl (by omega) (by omega) (by omega)) rfl ?_
      refine n_y rfl (y_iaa rfl rfl (i / 4) (by omega) (by omega)) rfl ?_
      refine n_y rfl (y_ldW (d := i / 4) rfl (by omega) (by omega)) rfl ?_
      refine n_y rfl (y_mv rfl) rfl ?_
      refine n_y rfl (y_rem rfl rfl (by omega) (by omega)) rfl ?_
      refine n_y rfl (y_mul rfl rfl (by omega)) rfl ?_
      refine n_y rfl (y_sub rfl rfl (by omega)) rfl ?_
      rw [show (24 : Int) - 8 * ((i : Int) % 4) = ((24 - 8 * (i % 4) : Nat) : Int) by omega]
      refine n_y rfl (y_shrW (s := 24 - 8 * (i % 4)) rfl rfl (by omega)) rfl ?_
      refine n_y rfl (y_cvWB rfl) rfl ?_
      refine n_y rfl (y_iaa rfl rfl _ rfl (by omega)) rfl ?_
      refine n_op rfl (o_stB (d := i) rfl rfl (by omega) (by omega) (by omega) ?_)
      rw [show (outB (takes parts.flatten (nblk parts.flatten)) i).set i _ = outB (takes parts.flatten (nblk parts.flatten)) (i + 1) from rfl]
      refine n_nil ?_
      refine bl_n ?_
      refine th_n ?_
      refine k_region ?_
      refine n_y rfl (y_add rfl rfl (by omega)) rfl ?_
      refine n_y rfl (y_mv rfl) rfl ?_
      refine n_nil ?_
      refine th_n ?_
      exact k_again2 (i + 1) ⟨by omega, by omega⟩ rfl ⟨rfl, trivial⟩ rfl
    · skip
      obtain rfl : i = 32 := by omega
      rw [← sumB_cs]
      refine k_exit ?_
      refine th_x ?_
      refine th_x ?_
      refine bl_s ?_
      refine th_n ?_
      refine k_seq ?_
      refine k_region ?_
      refine n_y rfl (y_lda rfl rfl) rfl ?_
      refine n_op rfl (o_stv rfl rfl rfl rfl ?_)
      refine n_nil ?_
      refine th_n ?_
      refine k_ret ?_
      refine k_unmark ?_
      refine k_less (PH.le_trans (hB9) hB2) ?_
      refine k_retn rfl (rs_c (r_lda rfl rfl) (rs_nil)) (PH.le_refl _) (⟨rfl, rfl, rfl⟩)
  · intro D c B2 L2 hB2 hZ2
    exact hZ2.elim
theorem T_sum_Leaf (B : PH) (pv : Value) (x : List UInt8) (hp : IsB B pv x) (hn : x.length < 4611686018427387900) : Tri Try.prog F_sum_Leaf [pv] B [] fun v B' L' => v = agg [.row 32 (leafB x).cs] ∧ B' = B ∧ L' = [] := by
  haveI := hp.one
  refine tri_of fn_sum_Leaf rfl nt_sum_Leaf rfl fun W0 R => ?_
  simp only [argEnv, List.nil_append, List.cons_append]
  refine k_seq ?_
  refine k_region ?_
  refine n_op rfl (o_al rfl fun b2 => ?_)
  refine n_nil ?_
  refine th_n ?_
  refine k_seq ?_
  refine k_region ?_
  refine n_op rfl (o_bs rfl rfl rfl rfl rfl rfl fun b3 => ?_)
  refine k_frz b3 fun B3 hB3 hr3 => ?_
  replace hp := hp.mono hB3
  refine n_y rfl (y_mv rfl) rfl ?_
  refine n_op rfl (o_bs rfl rfl rfl rfl rfl rfl fun b5 => ?_)
  refine k_frz b5 fun B5 hB5 hr5 => ?_
  replace hr3 := hr3.mono hB5
  replace hp := hp.mono hB5
  refine n_op rfl (o_call rfl (T_sum_Of _ _ [[0], x] (isBB_row hr5 ⟨isB_row (l := [0]) hr3 rfl (Nat.le_refl _), hp, trivial⟩ rfl (Nat.le_refl _)) (by simp; omega) (by simp)) rfl ?_)
  rintro v6 B6 L6 hB6 ⟨rfl, rfl, rfl⟩
  try conv => arg 7; dsimp only [List.nil_append, List.cons_append]
  rw [show sumB ([[0], x].flatten) = leafB x by simp [leafB]]
  refine n_op rfl (o_stv rfl rfl rfl rfl ?_)
  refine n_nil ?_
  refine th_n ?_
  refine k_ret ?_
  refine k_less (PH.le_trans (hB3) hB5) ?_
  refine k_retn rfl (rs_c (r_lda rfl rfl) (rs_nil)) (PH.le_refl _) (⟨rfl, rfl, rfl⟩)
theorem T_sum_Node (B : PH) (a c : ID) : Tri Try.prog F_sum_Node [vID a, vID c] B [] fun v B' L' => v = agg [.row 32 (nodeB a c).cs] ∧ B' = B ∧ L' = [] := by
  unfold vID
  refine tri_of fn_sum_Node rfl nt_sum_Node rfl fun W0 R => ?_
  simp only [argEnv, List.nil_append, List.cons_append]
  refine k_seq ?_
  refine k_region ?_
  refine n_op rfl (o_bx rfl rfl fun b2 => ?_)
  refine k_frz b2 fun B2 hB2 hr2 => ?_
  refine n_op rfl (o_bx rfl rfl fun b3 => ?_)
  refine k_frz b3 fun B3 hB3 hr3 => ?_
  replace hr2 := hr2.mono hB3
  refine n_op rfl (o_al rfl fun b4 => ?_)
  refine n_nil ?_
  refine th_n ?_
  refine k_seq ?_
  refine k_mix rfl [0, 0, 0, 7, 15, 31] [(1, false), (2, false), (0, true), (3, true), (4, true), (5, true)] (by kernel_rfl) ?_
  refine m_p rfl rfl (fun _ _ => y_sla rfl) rfl ?_
  refine m_p rfl rfl (fun _ _ => y_sla rfl) rfl ?_
  refine m_mv1 [] rfl rfl rfl (by kernel_rfl) fun W1 ds1 ro1 Q1 K1 hK1 => ?_
  refine o_bs rfl rfl rfl rfl rfl rfl fun b5 => ?_
  refine k_frz b5 fun B5 hB5 hr5 => ?_
  replace hr2 := hr2.mono hB5
  replace hr3 := hr3.mono hB5
  refine hK1 _ _ _ (hB5) trivial ?_
  refine m_mv1 [] rfl rfl rfl (by kernel_rfl) fun W1 ds1 ro1 Q1 K1 hK1 => ?_
  refine o_bs rfl rfl rfl rfl rfl rfl fun b8 => ?_
  refine k_frz b8 fun B8 hB8 hr8 => ?_
  replace hr2 := hr2.mono hB8
  replace hr3 := hr3.mono hB8
  replace hr5 := hr5.mono hB8
  refine hK1 _ _ _ (hB8) trivial ?_
  refine m_mv1 [] rfl rfl rfl (by kernel_rfl) fun W1 ds1 ro1 Q1 K1 hK1 => ?_
  refine o_call rfl (T_sum_Of _ _ [[1], a.bs, c.bs] (isBB_row hr8 ⟨isB_row (l := [1]) hr5 rfl (Nat.le_refl _), isB_row (l := a.bs) (by simpa [flat, Seg.cells, ID.cs] using hr2) a.len.symm (by rw [a.len]; decide), isB_row (l := c.bs) (by simpa [flat, Seg.cells, ID.cs] using hr3) c.len.symm (by rw [c.len]; decide), trivial⟩ rfl (Nat.le_refl _)) (by simp [a.len, c.len]) (by simp)) rfl ?_
  rintro v9 B9 L9 hB9 ⟨rfl, rfl, rfl⟩
  try conv => arg 7; dsimp only [List.nil_append, List.cons_append]
  rw [show sumB ([[1], a.bs, c.bs].flatten) = nodeB a c by simp [nodeB]]
  refine hK1 _ _ _ (hB9) trivial ?_
  refine m_mv0 [] rfl rfl (by kernel_rfl) fun W1 ds1 ro1 Q1 K1 hK1 => ?_
  refine o_stv rfl rfl rfl rfl ?_
  refine hK1  _ _ (PH.le_refl _) trivial ?_
  refine m_end ?_
  refine th_n ?_
  refine k_ret ?_
  refine k_less (PH.le_trans (PH.le_trans (PH.le_trans (hB2) hB3) hB5) hB8) ?_
  refine k_retn rfl (rs_c (r_lda rfl rfl) (rs_nil)) (PH.le_refl _) (⟨rfl, rfl, rfl⟩)
end Go.Proofs.Ytokekdbdnonebaa
