/- tree: lists' whole trees. -/
import Derived.Test.YtokekdbdnonebaaPh
import Derived.Test.YtokekdbdnonebaaMf
namespace Go.Proofs.Ytokekdbdnonebaa
open Sc Go

theorem T_tree_Range_Append (B : PH) (rb : Nat) (s : TS) (lv : Value) (ids : List ID) (hs : s.ok) (hl : IsIDs B lv ids) (hb : s.1 + ids.length ≤ 1099511627776) : Tri Try.prog F_tree_Range_Append [.pointer (some ⟨rb, 0, none⟩), lv] B [rgA 170 49 rb s] fun v B' L' => v = .int .i64 0 ∧ B' = B ∧ L' = [rgA 170 49 rb (addsT s ids)] := by
  obtain ⟨la, lc, rfl⟩ := hl.form
  refine tri_of fn_tree_Range_Append rfl nt_tree_Range_Append rfl fun W0 R => ?_
  simp only [argEnv, List.nil_append, List.cons_append]
  refine k_seq ?_
  refine k_region ?_
  refine n_y rfl (y_as rfl) rfl ?_
  refine n_nil ?_
  refine th_n ?_
  refine k_seq ?_
  refine k_seq ?_
  refine k_region ?_
  refine k_rgO 170 49 rb s fun v hv => ?_
  haveI := hv
  refine n_y rfl (y_mv rfl) rfl ?_
  refine n_y rfl (y_len rfl) rfl ?_
  refine n_y rfl (y_mv rfl) rfl ?_
  refine n_y rfl (y_nil rfl) rfl ?_
  refine n_y rfl (y_fa rfl) rfl ?_
  refine n_y rfl (y_ld rfl rfl) rfl ?_
  refine n_y rfl (y_sub rfl rfl (by omega)) rfl ?_
  refine n_y rfl (y_gt rfl rfl) rfl ?_
  refine n_nil ?_
  refine th_n ?_
  refine k_cond rfl (fun c16 => ?_) (fun c16 => ?_)
  · skip
    omega
  · skip
    refine k_rgC 170 49 rb s v ?_
    refine k_skip ?_
    refine th_n ?_
    refine k_seq ?_
    refine k_seq ?_
    refine k_region ?_
    refine n_y rfl (y_mv rfl) rfl ?_
    refine n_y rfl (y_len rfl) rfl ?_
    refine n_y rfl (y_mv rfl) rfl ?_
    refine n_nil ?_
    refine th_n ?_
    refine k_block ?_
    refine k_loop2 (α := Nat) [6, 7, 8, 19, 20, 21, 22, 23, 24, 25, 26, 27, 28, 29, 30, 31, 32, 33, 34, 35, 36, 37, 38, 39, 40, 41, 42, 43, 44, 45, 46, 47, 48, 49, 50, 51, 52, 53, 54, 55, 56, 57, 58, 59, 60, 61, 62, 63, 64, 65, 66, 67, 68, 69, 70, 71, 72, 73] (fun k => k ≤ ids.length) (fun k => [(19, .int .i64 (k : Int))]) (fun k => B) (fun k => [rgA 170 49 rb (addsT s (ids.take k))]) (fun k => ids.length - k) 0 (Nat.zero_le _) rfl ⟨rfl, trivial⟩ [rgA 170 49 rb s] rfl ?_
    rintro k hk
    try conv => arg 7; dsimp only [List.nil_append, List.cons_append]
    try conv => arg 6; dsimp only
    try conv => arg 4; dsimp only [List.nil_append, List.cons_append]
    refine k_seq ?_
    refine k_region ?_
    refine n_y rfl (y_lt rfl rfl) rfl ?_
    refine n_nil ?_
    refine th_n ?_
    refine k_seq ?_
    refine k_cond rfl (fun c20 => ?_) (fun c20 => ?_)
    · skip
      have hk' : k < ids.length := by omega
      obtain ⟨x0, hx0⟩ : ∃ x, ids[k]? = some x := ⟨_, List.getElem?_eq_getElem hk'⟩
      obtain ⟨qb, qo, qc, hq, hqr⟩ := prd.get (sz := 0) hl (by have := (ids_sub hx0).2; omega)
      obtain ⟨rfl, rfl⟩ : la = some ⟨qb, qo, none⟩ ∧ lc = qc := by simpa using hq
      have hqs := hqr.sub (k * 32) 32 (ids_sub hx0).2
      rw [(ids_sub hx0).1] at hqs
      obtain ⟨hso, hsn⟩ := addsT_ok hs (ids.take k)
      have hnx := addsT_next (s := s) hx0
      rw [List.length_take, Nat.min_eq_left hk] at hsn
      obtain ⟨sk, hsk⟩ : ∃ sk, sk = addsT s (ids.take k) := ⟨_, rfl⟩
      rw [← hsk] at hso hsn hnx ⊢
      refine k_rgO 170 49 rb sk fun v hv => ?_
      haveI := hv
      have hso' : sk.2.length = pop sk.1 := hso
      refine k_skip ?_
      refine th_n ?_
      refine k_seq ?_
      refine k_block ?_
      refine k_seq ?_
      refine k_region ?_
      refine n_y rfl (y_ia rfl rfl _ rfl (by omega)) rfl ?_
      refine n_y rfl (y_ldpa (s := [.row 32 x0.cs]) rfl (by simpa [flat, Seg.cells] using hqs) (by simp [flat, Seg.cells, ID.cs_length])) rfl ?_
      refine n_op rfl (o_al rfl fun b6 => ?_)
      refine n_op rfl (o_stv rfl rfl rfl rfl ?_)
      refine n_nil ?_
      refine th_n ?_
      refine k_seq ?_
      refine k_seq ?_
      refine k_region ?_
      refine n_y rfl (y_mv rfl) rfl ?_
      refine n_y rfl (y_nil rfl) rfl ?_
      refine n_y rfl (y_fa rfl) rfl ?_
      refine n_y rfl (y_ld rfl rfl) rfl ?_
      refine n_y rfl (y_as rfl) rfl ?_
      refine n_nil ?_
      refine th_n ?_
      refine k_block ?_
      refine k_loop2 (α := Nat × List ID × ID × Value) [7, 8, 27, 28, 29, 30, 31, 32, 33, 34, 35, 36, 37, 38, 39, 40, 41, 42, 43, 44, 45, 46, 47, 48, 49, 50, 51, 52, 53, 54, 55] (fun z9 => z9.1 ≤ sk.1 ∧ z9.2.1.length = pop z9.1 ∧ carryT z9.1 z9.2.1 z9.2.2.1 = carryT sk.1 sk.2 x0 ∧ OneC z9.2.2.2) (fun z9 => [(7, .int .i64 (z9.1 : Int))]) (fun z9 => B) (fun z9 => [bk b6 49 [.row 32 z9.2.2.1.cs], bk rb 170 [.one (.int .i64 (sk.1 : Int)), .one z9.2.2.2], ow 49 32 z9.2.2.2 z9.2.1.length (z9.2.1.flatMap ID.cs)]) (fun z9 => z9.1) (sk.1, sk.2, x0, v) ⟨Nat.le_refl _, hso', rfl, hv⟩ rfl ⟨rfl, trivial⟩ _ rfl ?_
      rintro ⟨n, ts0, id, v⟩ ⟨hn, hts, hcr, hv⟩
      dsimp only at hn hts hcr hv
      haveI := hv
      have hand : n &&& 1 = n % 2 := Nat.and_one_is_mod n
      try conv => arg 7; dsimp only [List.nil_append, List.cons_append]
      try conv => arg 6; dsimp only
      try conv => arg 4; dsimp only [List.nil_append, List.cons_append]
      refine k_seq ?_
      refine k_seq ?_
      refine k_region ?_
      refine n_y rfl (y_mv rfl) rfl ?_
      refine n_y rfl (y_andN (q := 1) rfl rfl (by omega) (by decide)) rfl ?_
      refine n_y rfl (y_eq rfl rfl) rfl ?_
      refine n_nil ?_
      refine th_n ?_
      refine k_cond rfl (fun c29 => ?_) (fun c29 => ?_)
      · skip
        have hp := pop_odd (n := n) (by omega)
        have hpl := pop_le n
        obtain ⟨ts, x, rfl⟩ := snoc_of (l := ts0) (by omega)
        have hlen : (ts ++ [x]).length = ts.length + 1 := by simp
        have hfl := flatMap_len (ts ++ [x])
        refine k_owopen (v := v) (fun e _ hc => ?_) (fun tb cap sp hv2 hmc hcl hsl hc1 hs1 => ?_)
        · exact absurd (congrArg List.length hc) (by rw [hfl, hlen]; simp)
        subst hv2
        refine k_skip ?_
        refine th_n ?_
        refine k_seq ?_
        refine k_block ?_
        refine k_seq ?_
        refine k_region ?_
        refine n_y rfl (y_mv rfl) rfl ?_
        refine n_y rfl (y_nil rfl) rfl ?_
        refine n_y rfl (y_fa rfl) rfl ?_
        refine n_y rfl (y_ld rfl rfl) rfl ?_
        refine n_y rfl (y_len rfl) rfl ?_
        refine n_y rfl (y_sub rfl rfl (by omega)) rfl ?_
        rw [show (((ts ++ [x]).length : Nat) : Int) - 1 = (ts.length : Int) by simp]
        refine n_y rfl (y_as rfl) rfl ?_
        refine n_nil ?_
        refine th_n ?_
        refine k_seq ?_
        refine k_mix rfl [0, 1, 3, 7, 0, 31, 63, 0, 255, 511] [(0, false), (1, false), (2, false), (3, false), (4, false), (5, false), (6, false), (7, false), (8, false), (9, true)] (by kernel_rfl) ?_
        refine m_p rfl rfl (fun _ _ => y_mv rfl) rfl ?_
        refine m_p rfl rfl (fun _ _ => y_nil rfl) rfl ?_
        refine m_p rfl rfl (fun _ _ => y_fa rfl) rfl ?_
        refine m_y rfl rfl (y_ld rfl rfl) rfl ?_
        refine m_p rfl rfl (fun _ _ => y_mv rfl) rfl ?_
        refine m_p rfl rfl (fun _ _ => y_ia rfl rfl ts.length rfl (by omega)) rfl ?_
        refine m_y rfl rfl (y_ldra (o0 := 0) (d := ts.length * 32) (x' := [.row 32 x.cs]) rfl rfl (by omega) (by omega) (by rw [take_drop_ids]; simp [flat, Seg.cells])) rfl ?_
        refine m_y rfl rfl (y_lda rfl rfl) rfl ?_
        refine m_call rfl rfl rfl (T_sum_Node _ x id) rfl ?_
        refine m_mv0 [false, false, false, false] rfl rfl (by kernel_rfl) fun W1 ds1 ro1 Q1 K1 hK1 => ?_
        refine o_stv rfl rfl rfl rfl ?_
        refine hK1  _ _ (PH.le_refl _) trivial ?_
        refine m_end ?_
        refine th_n ?_
        refine k_region ?_
        refine n_y rfl (y_mv rfl) rfl ?_
        refine n_y rfl (y_mv rfl) rfl ?_
        refine n_y rfl (y_nil rfl) rfl ?_
        refine n_y rfl (y_fa rfl) rfl ?_
        refine n_y rfl (y_ld rfl rfl) rfl ?_
        refine n_y rfl (y_mv rfl) rfl ?_
        refine n_y rfl (y_slh rfl rfl (j := ts.length) rfl (by omega)) rfl ?_
        refine n_y rfl (y_nil rfl) rfl ?_
        refine n_y rfl (y_fa rfl) rfl ?_
        refine n_op rfl (o_stv rfl rfl rfl rfl ?_)
        refine k_owshut tb ts.length cap 32 (ts.flatMap ID.cs) (x.cs ++ sp) (by simp) (flatMap_len ts) (by rw [List.length_append, List.length_append, flatMap_len, ID.cs_length, hsl, hlen]; omega) (by omega) ?_
        refine n_nil ?_
        refine bl_n ?_
        refine th_n ?_
        refine k_region ?_
        refine n_y rfl (y_mv rfl) rfl ?_
        refine n_y rfl (y_shrN (s := 1) rfl rfl (by decide)) rfl ?_
        refine n_y rfl (y_as rfl) rfl ?_
        refine n_nil ?_
        refine th_n ?_
        exact k_again2 (n / 2 ^ 1, ts, nodeB x id, .slice (some ⟨tb, 0, none⟩) ts.length cap) ⟨⟨by dsimp only; omega, by dsimp only; rw [pop_odd (by omega)] at hts; simp at hts; simpa using hts, by dsimp only; rw [← hcr, carryT_odd (by omega)], ⟨rfl⟩⟩, by dsimp only; omega⟩ rfl ⟨rfl, trivial⟩ rfl
      · skip
        rw [carryT_even (by omega)] at hcr
        refine k_exit ?_
        refine th_x ?_
        refine th_x ?_
        refine bl_s ?_
        refine th_n ?_
        refine k_seq ?_
        refine k_mix rfl [0, 0, 2, 6, 14, 0, 32, 126, 255, 511, 1023] [(0, false), (1, false), (2, false), (3, false), (4, false), (5, false), (6, true), (7, true), (8, false), (9, false), (10, true)] (by kernel_rfl) ?_
        refine m_p rfl rfl (fun _ _ => y_mv rfl) rfl ?_
        refine m_p rfl rfl (fun _ _ => y_mv rfl) rfl ?_
        refine m_p rfl rfl (fun _ _ => y_nil rfl) rfl ?_
        refine m_p rfl rfl (fun _ _ => y_fa rfl) rfl ?_
        refine m_y rfl rfl (y_ld rfl rfl) rfl ?_
        refine m_y rfl rfl (y_lda rfl rfl) rfl ?_
        have hpl := pop_le n
        have hrl : ts0.length ≤ 1099511627776 := by omega
        refine m_mv1 [false, true] rfl rfl rfl (by kernel_rfl) fun W1 ds1 ro1 Q1 K1 hK1 => ?_
        refine o_bs rfl rfl rfl rfl rfl rfl fun b62 => ?_
        refine hK1 _ _ _ (PH.le_refl _) ⟨qy_y rfl (y_ld rfl rfl), ⟨⟩⟩ ?_
        refine m_mv1 [false] rfl rfl rfl (by kernel_rfl) fun W1 ds1 ro1 Q1 K1 hK1 => ?_
        refine o_app rfl rfl rfl (src_bk (m := 1) rfl rfl) rfl rfl (by omega) rfl fun v63 hv63 => ?_
        rw [show ts0.flatMap ID.cs ++ flat [.row 32 id.cs] = (ts0 ++ [id]).flatMap ID.cs by simp [flat, Seg.cells], show ts0.length + 1 = (ts0 ++ [id]).length by simp]
        haveI := hv63
        refine hK1 _ _ _ (PH.le_refl _) trivial ?_
        refine m_p rfl rfl (fun _ _ => y_nil rfl) rfl ?_
        refine m_p rfl rfl (fun _ _ => y_fa rfl) rfl ?_
        refine m_mv0 [] rfl rfl (by kernel_rfl) fun W1 ds1 ro1 Q1 K1 hK1 => ?_
        refine o_stv rfl rfl rfl rfl ?_
        refine hK1  _ _ (PH.le_refl _) trivial ?_
        refine m_end ?_
        refine th_n ?_
        refine k_region ?_
        refine n_y rfl (y_mv rfl) rfl ?_
        refine n_y rfl (y_nil rfl) rfl ?_
        refine n_y rfl (y_fa rfl) rfl ?_
        refine n_y rfl (y_ld rfl rfl) rfl ?_
        refine n_y rfl (y_add rfl rfl (by omega)) rfl ?_
        refine n_y rfl (y_nil rfl) rfl ?_
        refine n_y rfl (y_fa rfl) rfl ?_
        refine n_op rfl (o_stv rfl rfl rfl rfl ?_)
        rw [hcr, show (sk.1 : Int) + 1 = ((sk.1 + 1 : Nat) : Int) by omega]
        refine k_rgC 170 49 rb (sk.1 + 1, carryT sk.1 sk.2 x0) v63 ?_
        rw [show ((sk.1 + 1, carryT sk.1 sk.2 x0) : TS) = addsT s (ids.take (k + 1)) from hnx.symm]
        refine n_nil ?_
        refine bl_n ?_
        refine th_n ?_
        refine k_region ?_
        refine n_y rfl (y_add rfl rfl (by omega)) rfl ?_
        refine n_y rfl (y_mv rfl) rfl ?_
        refine n_nil ?_
        refine th_n ?_
        exact k_again2 (k + 1) ⟨by omega, by omega⟩ rfl ⟨rfl, trivial⟩ rfl
    · skip
      obtain rfl : k = ids.length := by omega
      rw [List.take_length]
      refine k_exit ?_
      refine th_x ?_
      refine th_x ?_
      refine bl_s ?_
      refine th_n ?_
      refine k_seq ?_
      refine k_region ?_
      refine n_y rfl (y_as rfl) rfl ?_
      refine n_nil ?_
      refine th_n ?_
      refine k_ret ?_
      refine k_retn rfl (rs_t rfl (rs_nil)) (PH.le_refl _) (⟨rfl, rfl, rfl⟩)
theorem T_tree_Of (B : PH) (lv : Value) (ids : List ID) (hl : IsIDs B lv ids) (hb : ids.length ≤ 1099511627776) : Tri Try.prog F_tree_Of [lv] B [] fun v B' L' => ∃ b, v = .pointer (some ⟨b, 0, none⟩) ∧ B' = B ∧ L' = [rgA 170 49 b (addsT (0, []) ids)] := by
  obtain ⟨la, lc, rfl⟩ := hl.form
  refine tri_of fn_tree_Of rfl nt_tree_Of rfl fun W0 R => ?_
  simp only [argEnv, List.nil_append, List.cons_append]
  refine k_seq ?_
  refine k_region ?_
  refine n_y rfl (y_as rfl) rfl ?_
  refine n_nil ?_
  refine th_n ?_
  refine k_seq ?_
  refine k_region ?_
  refine n_y rfl (y_bd rfl rfl) rfl ?_
  refine n_op rfl (o_bx rfl rfl fun b5 => ?_)
  refine k_rgC0 170 49 b5 ?_
  refine n_y rfl (y_as rfl) rfl ?_
  refine n_nil ?_
  refine th_n ?_
  refine k_seq ?_
  refine k_region ?_
  refine n_y rfl (y_mv rfl) rfl ?_
  refine n_y rfl (y_mv rfl) rfl ?_
  refine n_op rfl (o_call rfl (T_tree_Range_Append _ b5 (0, []) _ ids (by simp [TS.ok, pop_zero]) hl (by simpa using hb)) rfl ?_)
  rintro v8 B8 L8 hB8 ⟨rfl, rfl, rfl⟩
  try conv => arg 7; dsimp only [List.nil_append, List.cons_append]
  refine n_nil ?_
  refine th_n ?_
  refine k_seq ?_
  refine k_region ?_
  refine n_y rfl (y_mv rfl) rfl ?_
  refine n_y rfl (y_as rfl) rfl ?_
  refine n_nil ?_
  refine th_n ?_
  refine k_ret ?_
  refine k_retn rfl (rs_t rfl (rs_nil)) (PH.le_refl _) (⟨b5, rfl, rfl, rfl⟩)
theorem T_tree_Range_Root (B : PH) (rb : Nat) (s : TS) (hs : s.ok) (hb : s.1 ≤ 1099511627776) : Tri Try.prog F_tree_Range_Root [.pointer (some ⟨rb, 0, none⟩)] B [rgA 170 49 rb s] fun v B' L' => v = agg [.row 32 (rootT s).cs] ∧ B' = B ∧ L' = [rgA 170 49 rb s] := by
  refine tri_of fn_tree_Range_Root rfl nt_tree_Range_Root rfl fun W0 R => ?_
  simp only [argEnv, List.nil_append, List.cons_append]
  refine k_seq ?_
  refine k_region ?_
  refine n_op rfl (o_al rfl fun b2 => ?_)
  refine n_nil ?_
  refine th_n ?_
  refine k_seq ?_
  refine k_seq ?_
  refine k_region ?_
  refine k_rgO 170 49 rb s fun v hv => ?_
  haveI := hv
  refine n_y rfl (y_mv rfl) rfl ?_
  refine n_y rfl (y_nil rfl) rfl ?_
  refine n_y rfl (y_fa rfl) rfl ?_
  refine n_y rfl (y_ld rfl rfl) rfl ?_
  refine n_y rfl (y_eq rfl rfl) rfl ?_
  refine n_nil ?_
  refine th_n ?_
  refine k_cond rfl (fun c9 => ?_) (fun c9 => ?_)
  · skip
    refine k_seq ?_
    refine k_region ?_
    refine n_op rfl (o_call rfl (T_sum_Of _ (.slice none 0 0) [] ⟨[], rfl, prd.nil _, fun i u x h => by simp at h⟩ (by simp) (by simp)) rfl ?_)
    rintro v10 B10 L10 hB10 ⟨rfl, rfl, rfl⟩
    try conv => arg 7; dsimp only [List.nil_append, List.cons_append]
    refine n_op rfl (o_stv rfl rfl rfl rfl ?_)
    refine n_nil ?_
    refine th_n ?_
    refine k_ret ?_
    refine th_r ?_
    refine k_rgC 170 49 rb s v ?_
    refine k_retn rfl (rs_c (r_lda rfl rfl) (rs_nil)) (PH.le_refl _) (⟨by rw [rootT, if_pos (by omega)]; rfl, rfl, rfl⟩)
  · skip
    have hs' : s.2.length = pop s.1 := hs
    have hpp := pop_pos (n := s.1) (by omega)
    have hpl := pop_le s.1
    obtain ⟨sn, stp⟩ := s
    dsimp only at c9 hs' hpp hpl hb ⊢
    obtain ⟨ts, x, rfl⟩ := snoc_of (l := stp) (by omega)
    have hlen : (ts ++ [x]).length = ts.length + 1 := by simp
    have hfl := flatMap_len (ts ++ [x])
    refine k_owopen (v := v) (fun e _ hc => ?_) (fun tb cap sp hv2 hmc hcl hsl hc1 hs1 => ?_)
    · exact absurd (congrArg List.length hc) (by rw [hfl, hlen]; simp)
    subst hv2
    refine k_skip ?_
    refine th_n ?_
    refine k_seq ?_
    refine k_mix rfl [0, 1, 3, 7, 0, 16, 48, 112, 240, 496, 1023, 2047, 0, 8191] [(0, false), (1, false), (2, false), (3, false), (4, false), (5, false), (6, false), (7, false), (8, false), (9, false), (10, false), (11, false), (12, true), (13, true)] (by kernel_rfl) ?_
    refine m_p rfl rfl (fun _ _ => y_mv rfl) rfl ?_
    refine m_p rfl rfl (fun _ _ => y_nil rfl) rfl ?_
    refine m_p rfl rfl (fun _ _ => y_fa rfl) rfl ?_
    refine m_y rfl rfl (y_ld rfl rfl) rfl ?_
    refine m_p rfl rfl (fun _ _ => y_mv rfl) rfl ?_
    refine m_p rfl rfl (fun _ _ => y_nil rfl) rfl ?_
    refine m_p rfl rfl (fun _ _ => y_fa rfl) rfl ?_
    refine m_y rfl rfl (y_ld rfl rfl) rfl ?_
    refine m_p rfl rfl (fun _ _ => y_len rfl) rfl ?_
    refine m_p rfl rfl (fun _ _ => y_sub rfl rfl (by omega)) rfl ?_
    rw [show (((ts ++ [x]).length : Nat) : Int) - 1 = (ts.length : Int) by simp]
    refine m_p rfl rfl (fun _ _ => y_ia rfl rfl ts.length rfl (by omega)) rfl ?_
    refine m_y rfl rfl (y_ldra (o0 := 0) (d := ts.length * 32) (x' := [.row 32 x.cs]) rfl rfl (by omega) (by omega) (by rw [take_drop_ids]; simp [flat, Seg.cells])) rfl ?_
    refine m_mv1 [true, true, true] rfl rfl rfl (by kernel_rfl) fun W1 ds1 ro1 Q1 K1 hK1 => ?_
    refine o_al rfl fun b3 => ?_
    refine hK1 _ _ _ (PH.le_refl _) ⟨qy_y rfl (y_ldra (o0 := 0) (d := ts.length * 32) (x' := [.row 32 x.cs]) rfl rfl (by omega) (by omega) (by rw [take_drop_ids]; simp [flat, Seg.cells])), qy_y rfl (y_ld rfl rfl), qy_y rfl (y_ld rfl rfl), ⟨⟩⟩ ?_
    refine m_mv0 [false, false, false] rfl rfl (by kernel_rfl) fun W1 ds1 ro1 Q1 K1 hK1 => ?_
    refine o_stv rfl rfl rfl rfl ?_
    refine hK1  _ _ (PH.le_refl _) trivial ?_
    refine m_end ?_
    refine th_n ?_
    refine k_seq ?_
    refine k_seq ?_
    refine k_region ?_
    refine n_y rfl (y_mv rfl) rfl ?_
    refine n_y rfl (y_nil rfl) rfl ?_
    refine n_y rfl (y_fa rfl) rfl ?_
    refine n_y rfl (y_ld rfl rfl) rfl ?_
    refine n_y rfl (y_len rfl) rfl ?_
    refine n_y rfl (y_sub rfl rfl (by omega)) rfl ?_
    rw [show (((ts ++ [x]).length : Nat) : Int) - 2 = (ts.length : Int) - 1 by simp; omega]
    refine n_y rfl (y_as rfl) rfl ?_
    refine n_nil ?_
    refine th_n ?_
    refine k_block ?_
    refine k_loop2 (α := Nat × ID) [4, 29, 30, 31, 32, 33, 34, 35, 36, 37, 38, 39, 40, 41] (fun z9 => z9.1 ≤ ts.length ∧ foldR ((ts.take z9.1).reverse) z9.2 = foldR ts.reverse x) (fun z9 => [(4, .int .i64 ((z9.1 : Int) - 1))]) (fun z9 => B) (fun z9 => [bk b3 49 [.row 32 z9.2.cs]]) (fun z9 => z9.1) (ts.length, x) ⟨Nat.le_refl _, by dsimp only; rw [List.take_length]⟩ rfl ⟨rfl, trivial⟩ [bk b3 49 [.row 32 x.cs]] rfl ?_
    rintro ⟨k, id⟩ ⟨hk, hf⟩
    dsimp only at hk hf
    try conv => arg 7; dsimp only [List.nil_append, List.cons_append]
    try conv => arg 6; dsimp only
    try conv => arg 4; dsimp only [List.nil_append, List.cons_append]
    refine k_seq ?_
    refine k_seq ?_
    refine k_region ?_
    refine n_y rfl (y_mv rfl) rfl ?_
    refine n_y rfl (y_ge rfl rfl) rfl ?_
    refine n_nil ?_
    refine th_n ?_
    refine k_cond rfl (fun c30 => ?_) (fun c30 => ?_)
    · skip
      obtain ⟨y, hy⟩ : ∃ y, ts[k - 1]? = some y := ⟨_, List.getElem?_eq_getElem (by omega)⟩
      have hk1 : k = k - 1 + 1 := by omega
      have hy2 : (ts ++ [x])[k - 1]? = some y := by rw [List.getElem?_append_left (by omega)]; exact hy
      refine k_skip ?_
      refine th_n ?_
      refine k_seq ?_
      refine k_block ?_
      refine k_mix rfl [0, 1, 3, 7, 0, 31, 63, 0, 255, 511] [(0, false), (1, false), (2, false), (3, false), (4, false), (5, false), (6, false), (7, false), (8, false), (9, true)] (by kernel_rfl) ?_
      refine m_p rfl rfl (fun _ _ => y_mv rfl) rfl ?_
      refine m_p rfl rfl (fun _ _ => y_nil rfl) rfl ?_
      refine m_p rfl rfl (fun _ _ => y_fa rfl) rfl ?_
      refine m_y rfl rfl (y_ld rfl rfl) rfl ?_
      refine m_p rfl rfl (fun _ _ => y_mv rfl) rfl ?_
      refine m_p rfl rfl (fun _ _ => y_ia rfl rfl (k - 1) (by omega) (by omega)) rfl ?_
      refine m_y rfl rfl (y_ldra (o0 := 0) (d := (k - 1) * 32) (x' := [.row 32 y.cs]) rfl rfl (by omega) (by omega) (by rw [(ids_sub hy2).1]; simp [flat, Seg.cells])) rfl ?_
      refine m_y rfl rfl (y_lda rfl rfl) rfl ?_
      refine m_call rfl rfl rfl (T_sum_Node _ y id) rfl ?_
      refine m_mv0 [false, false, false, false] rfl rfl (by kernel_rfl) fun W1 ds1 ro1 Q1 K1 hK1 => ?_
      refine o_stv rfl rfl rfl rfl ?_
      refine hK1  _ _ (PH.le_refl _) trivial ?_
      refine m_end ?_
      refine bl_n ?_
      refine th_n ?_
      refine k_region ?_
      refine n_y rfl (y_mv rfl) rfl ?_
      refine n_y rfl (y_sub rfl rfl (by omega)) rfl ?_
      refine n_y rfl (y_as rfl) rfl ?_
      refine n_nil ?_
      refine th_n ?_
      exact k_again2 (k - 1, nodeB y id) ⟨⟨by dsimp only; omega, by dsimp only; rw [← hf, hk1, take_succ hy]; simp [foldR]⟩, by dsimp only; omega⟩ rfl ⟨by rw [show ((k - 1 : Nat) : Int) - 1 = (k : Int) - 1 - 1 by omega]; rfl, trivial⟩ rfl
    · skip
      obtain rfl : k = 0 := by omega
      rw [List.take_zero] at hf
      refine k_exit ?_
      refine th_x ?_
      refine th_x ?_
      refine bl_s ?_
      refine th_n ?_
      refine k_seq ?_
      refine k_region ?_
      refine n_y rfl (y_lda rfl rfl) rfl ?_
      refine n_op rfl (o_stv rfl rfl rfl rfl ?_)
      refine n_nil ?_
      refine th_n ?_
      refine k_ret ?_
      refine k_owshut tb (ts ++ [x]).length cap 32 ((ts ++ [x]).flatMap ID.cs) sp rfl hfl (by rw [List.length_append, hfl, hsl]; omega) hmc ?_
      refine k_rgC 170 49 rb (sn, ts ++ [x]) (.slice (some ⟨tb, 0, none⟩) (ts ++ [x]).length cap) ?_
      refine k_retn rfl (rs_c (r_lda rfl rfl) (rs_nil)) (PH.le_refl _) (⟨by rw [rootT, if_neg (by dsimp only; omega)]; simp only [List.dropLast_concat, List.getLastD_concat]; rw [← hf]; rfl, rfl, rfl⟩)
theorem T_tree_Entries (B : PH) (lv : Value) (xs : List (List UInt8)) (hl : IsBB B lv xs) (hn : xs.length ≤ 1099511627776) (hx : ∀ x ∈ xs, x.length < 4611686018427387900) : Tri Try.prog F_tree_Entries [lv] B [] fun v B' L' => IsIDs B' v (xs.map leafB) ∧ L' = [] := by
  obtain ⟨us, hul, ⟨la, lc, rfl, hlc, hlr⟩, hus⟩ := hl
  refine tri_of fn_tree_Entries rfl nt_tree_Entries rfl fun W0 R => ?_
  simp only [argEnv, List.nil_append, List.cons_append]
  refine k_seq ?_
  refine k_region ?_
  refine n_y rfl (y_as rfl) rfl ?_
  refine n_nil ?_
  refine th_n ?_
  refine k_seq ?_
  refine k_region ?_
  refine n_y rfl (y_as rfl) rfl ?_
  refine n_nil ?_
  refine th_n ?_
  refine k_seq ?_
  refine k_seq ?_
  refine k_region ?_
  refine n_y rfl (y_mv rfl) rfl ?_
  refine n_y rfl (y_len rfl) rfl ?_
  refine n_y rfl (y_mv rfl) rfl ?_
  refine n_nil ?_
  refine th_n ?_
  refine k_block ?_
  refine k_ownil 49 32 ?_
  refine k_loop2 (α := Nat × Value) [3, 5, 8, 9, 10, 11, 12, 13, 14, 15, 16, 17] (fun z9 => z9.1 ≤ xs.length ∧ OneC z9.2) (fun z9 => [(8, .int .i64 (z9.1 : Int)), (3, z9.2)]) (fun z9 => B) (fun z9 => [ow 49 32 z9.2 z9.1 (((xs.take z9.1).map leafB).flatMap ID.cs)]) (fun z9 => xs.length - z9.1) (0, .slice none 0 0) ⟨Nat.zero_le _, ⟨rfl⟩⟩ rfl ⟨rfl, rfl, trivial⟩ [ow 49 32 (.slice none 0 0) 0 []] rfl ?_
  rintro ⟨k, v⟩ ⟨hk, hv⟩
  dsimp only at hk hv
  haveI := hv
  try conv => arg 7; dsimp only [List.nil_append, List.cons_append]
  try conv => arg 6; dsimp only
  try conv => arg 4; dsimp only [List.nil_append, List.cons_append]
  refine k_seq ?_
  refine k_region ?_
  refine n_y rfl (y_lt rfl rfl) rfl ?_
  refine n_nil ?_
  refine th_n ?_
  refine k_seq ?_
  refine k_cond rfl (fun c9 => ?_) (fun c9 => ?_)
  · skip
    have hk' : k < xs.length := by omega
    obtain ⟨x, hxk⟩ : ∃ x, xs[k]? = some x := ⟨_, List.getElem?_eq_getElem hk'⟩
    obtain ⟨u, huk⟩ : ∃ u, us[k]? = some u := ⟨_, List.getElem?_eq_getElem (by omega)⟩
    obtain ⟨qb, qo, rfl, hqr⟩ := hlr (by intro e; rw [e] at hul; simp at hul; omega)
    have hux := hus k u x huk hxk
    haveI := hux.one
    refine k_skip ?_
    refine th_n ?_
    refine k_seq ?_
    refine k_block ?_
    refine k_seq ?_
    refine k_region ?_
    refine n_y rfl (y_ia rfl rfl _ rfl (by omega)) rfl ?_
    refine n_y rfl (y_ldi (i := k) rfl hqr (by omega) huk) rfl ?_
    refine n_y rfl (y_as rfl) rfl ?_
    refine n_nil ?_
    refine th_n ?_
    refine k_region ?_
    refine n_y rfl (y_mv rfl) rfl ?_
    refine n_y rfl (y_mv rfl) rfl ?_
    refine n_op rfl (o_call rfl (T_sum_Leaf _ u x hux (hx x (List.mem_of_getElem? hxk))) rfl ?_)
    rintro v14 B14 L14 hB14 ⟨rfl, rfl, rfl⟩
    try conv => arg 7; dsimp only [List.nil_append, List.cons_append]
    refine n_op rfl (o_bs rfl rfl rfl rfl rfl rfl fun b15 => ?_)
    refine n_op rfl (o_app rfl rfl rfl (src_bk (m := 1) rfl rfl) rfl rfl (by omega) rfl fun v16 hv16 => ?_)
    rw [show ((xs.take k).map leafB).flatMap ID.cs ++ flat [.row 32 (leafB x).cs] = ((xs.take (k + 1)).map leafB).flatMap ID.cs by rw [take_succ hxk]; simp [flat, Seg.cells]]
    haveI := hv16
    refine n_y rfl (y_as rfl) rfl ?_
    refine n_nil ?_
    refine bl_n ?_
    refine th_n ?_
    refine k_region ?_
    refine n_y rfl (y_add rfl rfl (by omega)) rfl ?_
    refine n_y rfl (y_mv rfl) rfl ?_
    refine n_nil ?_
    refine th_n ?_
    exact k_again2 (k + 1, v16) ⟨⟨by dsimp only; omega, hv16⟩, by dsimp only; omega⟩ rfl ⟨rfl, rfl, trivial⟩ rfl
  · skip
    obtain rfl : k = xs.length := by omega
    rw [List.take_length]
    refine k_exit ?_
    refine th_x ?_
    refine th_x ?_
    refine bl_s ?_
    refine th_n ?_
    refine k_seq ?_
    refine k_region ?_
    refine n_y rfl (y_mv rfl) rfl ?_
    refine n_y rfl (y_as rfl) rfl ?_
    refine n_nil ?_
    refine th_n ?_
    refine k_ret ?_
    refine k_frzw (v := v) fun Bf hBf hrf => ?_
    refine k_retn rfl (rs_t rfl (rs_nil)) (hBf) (⟨by rw [IsIDs, List.length_map]; exact hrf, rfl⟩)
end Go.Proofs.Ytokekdbdnonebaa
