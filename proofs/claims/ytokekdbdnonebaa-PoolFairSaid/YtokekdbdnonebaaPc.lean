/- pack: the fields of a message. -/
import Derived.Test.YtokekdbdnonebaaPb
namespace Go.Proofs.Ytokekdbdnonebaa
open Sc Go

theorem IA_pack_fields (B : PH) (b1 : Nat) (m : Msg) (dv iv lv : Value) (hb1 : prow B b1 0 (flat (mS m dv iv lv))) (hm : IsM B m dv iv lv) (hs : Small m) (hck : checkM m = 0) : IterA Try.prog F_pack_fields_1 [.pointer (some ⟨b1, 0, none⟩)] B [] (fieldsM m).length fun i B vs => ∃ tag d fv, (fieldsM m)[i]? = some (tag, d) ∧ vs = [agg [.one (cB tag), .one fv]] ∧ IsB B fv d := by
  intro l J Z B hB hJm hZm hy A0 hJ0
  replace hb1 := hb1.mono hB
  replace hm := hm.mono hB
  obtain ⟨da, dc, rfl⟩ := hm.data.form
  obtain ⟨ia, ic, rfl⟩ := hm.ids.form
  obtain ⟨la, lc, rfl⟩ := hm.list.form
  obtain ⟨ck1, ck2, ck3, ck4, ck5, ck6, ck7⟩ := checkM_ok hck
  have htot := sizeF_ok ck7 ck6
  refine tri_of fn_pack_fields_1 rfl nt_pack_fields_1 rfl fun W0 R => ?_
  simp only [argEnv, List.nil_append, List.cons_append]
  refine k_seq ?_
  refine k_seq ?_
  refine k_region ?_
  refine n_y rfl (y_fa rfl) rfl ?_
  refine n_y rfl (y_ldp rfl (hb1.cell (i := 1) rfl)) rfl ?_
  refine n_y rfl (y_fa rfl) rfl ?_
  refine n_y rfl (y_ldp rfl (hb1.cell (i := 2) rfl)) rfl ?_
  refine n_y rfl (y_fa rfl) rfl ?_
  refine n_y rfl (y_ldp rfl (hb1.cell (i := 3) rfl)) rfl ?_
  refine n_y rfl (y_fa rfl) rfl ?_
  refine n_y rfl (y_ldp rfl (hb1.cell (i := 4) rfl)) rfl ?_
  refine n_y rfl (y_fa rfl) rfl ?_
  refine n_y rfl (y_ldp rfl (hb1.cell (i := 5) rfl)) rfl ?_
  refine n_y rfl (y_bd rfl rfl) rfl ?_
  refine n_y rfl (y_mv rfl) rfl ?_
  refine n_nil ?_
  refine th_n ?_
  refine k_block ?_
  refine k_loop2 (α := Nat × PH × Asrt) [3, 4, 22, 23, 24, 25, 26, 27, 28, 29, 30, 31, 32, 33, 34, 35, 36, 37, 38, 39] (fun z9 => z9.1 ≤ 5 ∧ B.le z9.2.1 ∧ J (fN m z9.1).length z9.2.1 z9.2.2) (fun z9 => [(22, .int .i64 (z9.1 : Int))]) (fun z9 => z9.2.1) (fun z9 => [z9.2.2]) (fun z9 => 5 - z9.1) (0, B, A0) ⟨by dsimp only; omega, PH.le_refl _, hJ0⟩ rfl ⟨rfl, trivial⟩ [A0] rfl ?_
  rintro ⟨k, Bk, A⟩ ⟨hk, hBk, hJk⟩
  dsimp only at hk hBk hJk
  try conv => arg 7; dsimp only [List.nil_append, List.cons_append]
  try conv => arg 6; dsimp only
  try conv => arg 4; dsimp only [List.nil_append, List.cons_append]
  replace hb1 := hb1.mono hBk
  replace hm := hm.mono hBk
  refine k_seq ?_
  refine k_region ?_
  refine n_y rfl (y_lt rfl rfl) rfl ?_
  refine n_nil ?_
  refine th_n ?_
  refine k_seq ?_
  refine k_cond rfl (fun c23 => ?_) (fun c23 => ?_)
  · skip
    have hk5 : k < 5 := by omega
    have hnk := ck3 ((nums m).getD k 0) (by rw [List.getD_eq_getElem?_getD, List.getElem?_eq_getElem (by show k < 5; omega)]; exact List.getElem_mem _)
    obtain ⟨n0, hn0⟩ : ∃ n0 : Nat, (nums m).getD k 0 = (n0 : Int) := ⟨_, (Int.toNat_of_nonneg hnk.1).symm⟩
    rw [hn0] at hnk
    refine k_skip ?_
    refine th_n ?_
    refine k_seq ?_
    refine k_block ?_
    refine k_seq ?_
    refine k_region ?_
    refine n_y rfl (y_mv rfl) rfl ?_
    refine n_y rfl (y_ix (v := .int .i64 (n0 : Int)) rfl rfl k rfl (by omega) (by
      rw [← hn0]
      have : k = 0 ∨ k = 1 ∨ k = 2 ∨ k = 3 ∨ k = 4 := by omega
      rcases this with rfl | rfl | rfl | rfl | rfl <;> rfl)) rfl ?_
    refine n_y rfl (y_as rfl) rfl ?_
    refine n_y rfl (y_as rfl) rfl ?_
    refine n_nil ?_
    refine th_n ?_
    refine k_seq ?_
    refine k_region ?_
    refine n_y rfl (y_mv rfl) rfl ?_
    refine n_y rfl (y_ne rfl rfl) rfl ?_
    refine k_dec (fun c27 => ?_) (fun c27 => ?_)
    · skip
      refine n_y rfl (y_mv rfl) rfl ?_
      refine n_y rfl (y_mv rfl) rfl ?_
      refine n_y rfl (y_mv rfl) rfl ?_
      refine n_y rfl (y_add rfl rfl (by omega)) rfl ?_
      rw [show (1 : Int) + (k : Int) = ((k + 1 : Nat) : Int) by omega]
      refine n_y rfl (y_cvNB rfl) rfl ?_
      refine n_y rfl (y_mv rfl) rfl ?_
      refine n_op rfl (o_call rfl (T_pack_number _ n0 (by omega)) rfl ?_)
      rintro v34 B34 L34 hB34 ⟨hv34, rfl⟩
      try conv => arg 7; dsimp only [List.nil_append, List.cons_append]
      replace hb1 := hb1.mono hB34
      replace hm := hm.mono hB34
      haveI := hv34.one
      refine n_y rfl (y_bd rfl rfl) rfl ?_
      have hget : (fieldsM m)[(fN m k).length]? = some (UInt8.ofNat (k + 1), numB n0) := by
        have := fN_get (m := m) hk5 (by rw [hn0]; exact c27)
        rwa [hn0, Int.toNat_natCast] at this
      refine n_op rfl (o_yield rfl rfl (hy (fN m k).length _ B34 A (get_lt hget) (PH.le_trans hBk hB34) ⟨_, _, v34, hget, rfl, hv34⟩ (hJm _ _ _ _ hB34 hJk)) rfl ?_)
      rintro ok36 B36 L36 hB36 ⟨A36, rfl, hok36⟩
      try conv => arg 7; dsimp only [List.nil_append, List.cons_append]
      replace hb1 := hb1.mono hB36
      replace hm := hm.mono hB36
      replace hv34 := hv34.mono hB36
      rcases hok36 with ⟨rfl, hJ36⟩ | ⟨rfl, hZ36⟩
      · skip
        refine n_y rfl (y_notb rfl) rfl ?_
        refine n_y rfl (y_pt rfl rfl) rfl ?_
        refine n_nil ?_
        refine th_n ?_
        refine k_condf rfl ?_
        refine k_skip ?_
        refine bl_n ?_
        refine th_n ?_
        refine k_region ?_
        refine n_y rfl (y_add rfl rfl (by omega)) rfl ?_
        refine n_y rfl (y_mv rfl) rfl ?_
        refine n_nil ?_
        refine th_n ?_
        exact k_again2 (k + 1, B36, A36) ⟨⟨by dsimp only; omega, PH.le_trans (PH.le_trans hBk hB34) hB36, by dsimp only; rw [show (fN m (k + 1)).length = (fN m k).length + 1 by rw [fN, if_pos (by rw [hn0]; exact c27)]; simp]; exact hJ36⟩, by dsimp only; omega⟩ rfl ⟨rfl, trivial⟩ rfl
      · skip
        refine n_y rfl (y_notb rfl) rfl ?_
        refine n_y rfl (y_pt rfl rfl) rfl ?_
        refine n_nil ?_
        refine th_n ?_
        refine k_condt rfl ?_
        refine k_ret ?_
        refine bl_r ?_
        refine th_r ?_
        refine th_r ?_
        refine bl_r ?_
        refine th_r ?_
        refine k_retn rfl (rs_nil) (PH.le_trans (PH.le_trans (hBk) hB34) hB36) (⟨A36, rfl, .inr hZ36⟩)
    · skip
      refine n_y rfl (y_mv rfl) rfl ?_
      refine n_no rfl rfl ?_
      refine n_no rfl rfl ?_
      refine n_no rfl rfl ?_
      refine n_no rfl rfl ?_
      refine n_no rfl rfl ?_
      refine n_no rfl rfl ?_
      refine n_no rfl rfl ?_
      refine n_no rfl rfl ?_
      refine n_no rfl rfl ?_
      refine n_y rfl (y_pf rfl rfl) rfl ?_
      refine n_nil ?_
      refine th_n ?_
      refine k_condf rfl ?_
      refine k_skip ?_
      refine bl_n ?_
      refine th_n ?_
      refine k_region ?_
      refine n_y rfl (y_add rfl rfl (by omega)) rfl ?_
      refine n_y rfl (y_mv rfl) rfl ?_
      refine n_nil ?_
      refine th_n ?_
      exact k_again2 (k + 1, Bk, A) ⟨⟨by dsimp only; omega, hBk, by dsimp only; rw [show (fN m (k + 1)).length = (fN m k).length by have e : ¬ ((nums m).getD k 0 ≠ 0) := (by rw [hn0]; exact c27); rw [fN, if_neg e]; simp]; exact hJk⟩, by dsimp only; omega⟩ rfl ⟨rfl, trivial⟩ rfl
  · skip
    obtain rfl : k = 5 := by omega
    refine k_exit ?_
    refine th_x ?_
    refine th_x ?_
    refine bl_s ?_
    refine th_n ?_
    refine k_cutx (α := PH × Asrt) [40, 41, 42, 43, 44, 45, 46, 47, 48, 49, 50, 51] (fun z9 => Bk.le z9.1 ∧ J (f6 m).length z9.1 z9.2) (fun z9 => []) (fun z9 => z9.1) (fun z9 => [z9.2]) [A] ?_ fun z hz => ?_
    · try conv => arg 7; dsimp only [List.nil_append, List.cons_append]
      refine k_seq ?_
      refine k_region ?_
      refine n_y rfl (y_fa rfl) rfl ?_
      refine n_y rfl (y_ldpa (s := [.row 32 m.id.cs]) rfl (mS_id hb1) (by simp [flat, Seg.cells, ID.cs_length])) rfl ?_
      refine n_y rfl (y_bd rfl rfl) rfl ?_
      refine n_y rfl (y_neID rfl rfl) rfl ?_
      refine k_dec (fun c43 => ?_) (fun c43 => ?_)
      · skip
        refine n_y rfl (y_mv rfl) rfl ?_
        refine n_y rfl (y_mv rfl) rfl ?_
        refine n_y rfl (y_fa rfl) rfl ?_
        refine n_y rfl (y_sla rfl) rfl ?_
        refine n_y rfl (y_bd rfl rfl) rfl ?_
        refine n_op rfl (o_yield rfl rfl (hy (fN m 5).length _ Bk A (get_lt (f6_get c43)) hBk ⟨_, _, _, f6_get c43, rfl, isB_row (by simpa [flat, Seg.cells, ID.cs] using mS_id hb1) m.id.len.symm (by rw [m.id.len]; decide)⟩ hJk) rfl ?_)
        rintro ok49 B49 L49 hB49 ⟨A49, rfl, hok49⟩
        try conv => arg 7; dsimp only [List.nil_append, List.cons_append]
        replace hb1 := hb1.mono hB49
        replace hm := hm.mono hB49
        rcases hok49 with ⟨rfl, hJ49⟩ | ⟨rfl, hZ49⟩
        · skip
          refine n_y rfl (y_notb rfl) rfl ?_
          refine n_y rfl (y_pt rfl rfl) rfl ?_
          refine n_nil ?_
          refine th_n ?_
          refine k_condf rfl ?_
          refine k_skip ?_
          refine th_n ?_
          exact k_again2 (B49, A49) ⟨hB49, by dsimp only; rw [show (f6 m).length = (fN m 5).length + 1 by rw [f6, if_pos (c43)]; simp]; exact hJ49⟩ rfl trivial rfl
        · skip
          refine n_y rfl (y_notb rfl) rfl ?_
          refine n_y rfl (y_pt rfl rfl) rfl ?_
          refine n_nil ?_
          refine th_n ?_
          refine k_condt rfl ?_
          refine k_ret ?_
          refine th_r ?_
          refine k_retn rfl (rs_nil) (PH.le_trans (hBk) hB49) (⟨A49, rfl, .inr hZ49⟩)
      · skip
        refine n_y rfl (y_mv rfl) rfl ?_
        refine n_no rfl rfl ?_
        refine n_no rfl rfl ?_
        refine n_no rfl rfl ?_
        refine n_no rfl rfl ?_
        refine n_no rfl rfl ?_
        refine n_no rfl rfl ?_
        refine n_y rfl (y_pf rfl rfl) rfl ?_
        refine n_nil ?_
        refine th_n ?_
        refine k_condf rfl ?_
        refine k_skip ?_
        refine th_n ?_
        exact k_again2 (Bk, A) ⟨PH.le_refl _, by dsimp only; rw [show (f6 m).length = (fN m 5).length by rw [f6, if_neg (c43)]; simp]; exact hJk⟩ rfl trivial rfl
    · obtain ⟨Bc, Ac⟩ := z
      obtain ⟨hBc, hJc⟩ := hz
      dsimp only at hBc hJc
      try conv => arg 7; dsimp only [List.nil_append, List.cons_append]
      try conv => arg 6; dsimp only
      try conv => arg 4; dsimp only [List.nil_append, List.cons_append]
      replace hb1 := hb1.mono hBc
      replace hm := hm.mono hBc
      refine k_cutx (α := PH × Asrt) [52, 53, 54, 55, 56, 57, 58, 59, 60, 61, 62, 63] (fun z9 => Bc.le z9.1 ∧ J (f7 m).length z9.1 z9.2) (fun z9 => []) (fun z9 => z9.1) (fun z9 => [z9.2]) [Ac] ?_ fun z hz => ?_
      · try conv => arg 7; dsimp only [List.nil_append, List.cons_append]
        refine k_seq ?_
        refine k_region ?_
        refine n_y rfl (y_fa rfl) rfl ?_
        refine n_y rfl (y_ldp rfl (mS_cell hb1).1) rfl ?_
        refine n_y rfl (y_len rfl) rfl ?_
        refine n_y rfl (y_gt rfl rfl) rfl ?_
        refine k_dec (fun c55 => ?_) (fun c55 => ?_)
        · skip
          refine n_y rfl (y_mv rfl) rfl ?_
          refine n_y rfl (y_mv rfl) rfl ?_
          refine n_y rfl (y_fa rfl) rfl ?_
          refine n_y rfl (y_ldp rfl (mS_cell hb1).1) rfl ?_
          refine n_y rfl (y_bd rfl rfl) rfl ?_
          refine n_op rfl (o_yield rfl rfl (hy (f6 m).length _ Bc Ac (get_lt (f7_get (by omega))) (PH.le_trans (hBk) hBc) ⟨_, _, _, f7_get (by omega), rfl, hm.data⟩ hJc) rfl ?_)
          rintro ok61 B61 L61 hB61 ⟨A61, rfl, hok61⟩
          try conv => arg 7; dsimp only [List.nil_append, List.cons_append]
          replace hb1 := hb1.mono hB61
          replace hm := hm.mono hB61
          rcases hok61 with ⟨rfl, hJ61⟩ | ⟨rfl, hZ61⟩
          · skip
            refine n_y rfl (y_notb rfl) rfl ?_
            refine n_y rfl (y_pt rfl rfl) rfl ?_
            refine n_nil ?_
            refine th_n ?_
            refine k_condf rfl ?_
            refine k_skip ?_
            refine th_n ?_
            exact k_again2 (B61, A61) ⟨hB61, by dsimp only; rw [show (f7 m).length = (f6 m).length + 1 by rw [f7, if_pos (by omega)]; simp]; exact hJ61⟩ rfl trivial rfl
          · skip
            refine n_y rfl (y_notb rfl) rfl ?_
            refine n_y rfl (y_pt rfl rfl) rfl ?_
            refine n_nil ?_
            refine th_n ?_
            refine k_condt rfl ?_
            refine k_ret ?_
            refine th_r ?_
            refine k_retn rfl (rs_nil) (PH.le_trans (PH.le_trans (hBk) hBc) hB61) (⟨A61, rfl, .inr hZ61⟩)
        · skip
          refine n_y rfl (y_mv rfl) rfl ?_
          refine n_no rfl rfl ?_
          refine n_no rfl rfl ?_
          refine n_no rfl rfl ?_
          refine n_no rfl rfl ?_
          refine n_no rfl rfl ?_
          refine n_no rfl rfl ?_
          refine n_y rfl (y_pf rfl rfl) rfl ?_
          refine n_nil ?_
          refine th_n ?_
          refine k_condf rfl ?_
          refine k_skip ?_
          refine th_n ?_
          exact k_again2 (Bc, Ac) ⟨PH.le_refl _, by dsimp only; rw [show (f7 m).length = (f6 m).length by rw [f7, if_neg (by omega)]; simp]; exact hJc⟩ rfl trivial rfl
      · obtain ⟨Bd, Ad⟩ := z
        obtain ⟨hBd, hJd⟩ := hz
        dsimp only at hBd hJd
        try conv => arg 7; dsimp only [List.nil_append, List.cons_append]
        try conv => arg 6; dsimp only
        try conv => arg 4; dsimp only [List.nil_append, List.cons_append]
        replace hb1 := hb1.mono hBd
        replace hm := hm.mono hBd
        refine k_seq ?_
        refine k_region ?_
        refine n_y rfl (y_as rfl) rfl ?_
        refine n_y rfl (y_as rfl) rfl ?_
        refine n_nil ?_
        refine th_n ?_
        refine k_seq ?_
        refine k_seq ?_
        refine k_region ?_
        refine n_y rfl (y_fa rfl) rfl ?_
        refine n_y rfl (y_ldp rfl (mS_cell hb1).2.1) rfl ?_
        refine n_y rfl (y_len rfl) rfl ?_
        refine n_y rfl (y_mv rfl) rfl ?_
        refine n_nil ?_
        refine th_n ?_
        refine k_block ?_
        refine k_ownil 5 1 ?_
        refine k_loop2 (α := Nat × Value) [5, 8, 67, 68, 69, 70, 71, 72, 73, 74] (fun z9 => z9.1 ≤ m.ids.length) (fun z9 => [(67, .int .i64 (z9.1 : Int)), (5, z9.2)]) (fun z9 => Bd) (fun z9 => [ow 5 1 z9.2 (32 * z9.1) (cBs ((m.ids.take z9.1).flatMap ID.bs))]) (fun z9 => m.ids.length - z9.1) (0, .slice none 0 0) (Nat.zero_le _) rfl ⟨rfl, rfl, trivial⟩ [ow 5 1 (.slice none 0 0) 0 []] rfl ?_
        rintro ⟨j, v⟩ hj
        dsimp only at hj
        try conv => arg 7; dsimp only [List.nil_append, List.cons_append]
        try conv => arg 6; dsimp only
        try conv => arg 4; dsimp only [List.nil_append, List.cons_append]
        refine k_seq ?_
        refine k_region ?_
        refine n_y rfl (y_lt rfl rfl) rfl ?_
        refine n_nil ?_
        refine th_n ?_
        refine k_seq ?_
        refine k_cond rfl (fun c68 => ?_) (fun c68 => ?_)
        · skip
          have hj' : j < m.ids.length := by omega
          obtain ⟨a, haj⟩ : ∃ a, m.ids[j]? = some a := ⟨_, List.getElem?_eq_getElem hj'⟩
          obtain ⟨qb, qo, qc, hq, hqr⟩ := prd.get (sz := 0) hm.ids (by have := (ids_sub haj).2; omega)
          obtain ⟨rfl, rfl⟩ : ia = some ⟨qb, qo, none⟩ ∧ ic = qc := by simpa using hq
          have hqs := hqr.sub (j * 32) 32 (ids_sub haj).2
          rw [(ids_sub haj).1] at hqs
          refine k_skip ?_
          refine th_n ?_
          refine k_seq ?_
          refine k_block ?_
          refine k_seq ?_
          refine k_region ?_
          refine n_y rfl (y_ia rfl rfl _ rfl (by omega)) rfl ?_
          refine n_y rfl (y_ldpa (s := [.row 32 a.cs]) rfl (by simpa [flat, Seg.cells] using hqs) (by simp [flat, Seg.cells, ID.cs_length])) rfl ?_
          refine n_op rfl (o_al rfl fun b8 => ?_)
          refine n_op rfl (o_stv rfl rfl rfl rfl ?_)
          refine n_nil ?_
          refine th_n ?_
          refine k_region ?_
          refine n_y rfl (y_mv rfl) rfl ?_
          refine n_y rfl (y_sla rfl) rfl ?_
          refine k_owf (v := v) fun hform hcl hco => ?_
          refine n_op rfl (o_app rfl rfl rfl (src_bk (m := 32) rfl rfl) rfl rfl (by omega) rfl fun v73 hv73 => ?_)
          rw [show cBs ((m.ids.take j).flatMap ID.bs) ++ flat [.row 32 a.cs] = cBs ((m.ids.take (j + 1)).flatMap ID.bs) by rw [take_succ haj, List.flatMap_append, cBs_append]; simp [flat, Seg.cells, ID.cs], show 32 * j + 32 = 32 * (j + 1) by omega]
          refine n_y rfl (y_as rfl) rfl ?_
          refine n_nil ?_
          refine bl_n ?_
          refine th_n ?_
          refine k_region ?_
          refine n_y rfl (y_add rfl rfl (by omega)) rfl ?_
          refine n_y rfl (y_mv rfl) rfl ?_
          refine n_nil ?_
          refine th_n ?_
          exact k_again2 (j + 1, v73) ⟨by dsimp only; omega, by dsimp only; omega⟩ rfl ⟨rfl, rfl, trivial⟩ rfl
        · skip
          obtain rfl : j = m.ids.length := by omega
          rw [List.take_length]
          refine k_owf (v := v) fun hform hcl hco => ?_
          obtain ⟨xa, xc, rfl⟩ := hform
          refine k_frzw (v := .slice xa (32 * m.ids.length) xc) fun Bi hBi hri => ?_
          have hri' : IsB Bi (.slice xa (32 * m.ids.length) xc) (m.ids.flatMap ID.bs) := by rw [IsB, idsB_length]; exact hri
          replace hb1 := hb1.mono hBi
          replace hm := hm.mono hBi
          refine k_exit ?_
          refine th_x ?_
          refine th_x ?_
          refine bl_s ?_
          refine th_n ?_
          refine k_cutx (α := PH × Asrt) [75, 76, 77, 78, 79, 80, 81, 82, 83, 84] (fun z9 => Bi.le z9.1 ∧ J (f8 m).length z9.1 z9.2) (fun z9 => []) (fun z9 => z9.1) (fun z9 => [z9.2]) [Ad] ?_ fun z hz => ?_
          · try conv => arg 7; dsimp only [List.nil_append, List.cons_append]
            refine k_seq ?_
            refine k_region ?_
            refine n_y rfl (y_mv rfl) rfl ?_
            refine n_y rfl (y_len rfl) rfl ?_
            refine n_y rfl (y_gt rfl rfl) rfl ?_
            refine k_dec (fun c77 => ?_) (fun c77 => ?_)
            · skip
              refine n_y rfl (y_mv rfl) rfl ?_
              refine n_y rfl (y_mv rfl) rfl ?_
              refine n_y rfl (y_mv rfl) rfl ?_
              refine n_y rfl (y_bd rfl rfl) rfl ?_
              refine n_op rfl (o_yield rfl rfl (hy (f7 m).length _ Bi Ad (get_lt (f8_get (by omega))) (PH.le_trans (PH.le_trans (PH.le_trans (hBk) hBc) hBd) hBi) ⟨_, _, _, f8_get (by omega), rfl, hri'⟩ (hJm _ _ _ _ hBi hJd)) rfl ?_)
              rintro ok82 B82 L82 hB82 ⟨A82, rfl, hok82⟩
              try conv => arg 7; dsimp only [List.nil_append, List.cons_append]
              replace hb1 := hb1.mono hB82
              replace hm := hm.mono hB82
              rcases hok82 with ⟨rfl, hJ82⟩ | ⟨rfl, hZ82⟩
              · skip
                refine n_y rfl (y_notb rfl) rfl ?_
                refine n_y rfl (y_pt rfl rfl) rfl ?_
                refine n_nil ?_
                refine th_n ?_
                refine k_condf rfl ?_
                refine k_skip ?_
                refine th_n ?_
                exact k_again2 (B82, A82) ⟨hB82, by dsimp only; rw [show (f8 m).length = (f7 m).length + 1 by rw [f8, if_pos (by omega)]; simp]; exact hJ82⟩ rfl trivial rfl
              · skip
                refine n_y rfl (y_notb rfl) rfl ?_
                refine n_y rfl (y_pt rfl rfl) rfl ?_
                refine n_nil ?_
                refine th_n ?_
                refine k_condt rfl ?_
                refine k_ret ?_
                refine th_r ?_
                refine k_retn rfl (rs_nil) (PH.le_trans (PH.le_trans (PH.le_trans (PH.le_trans (hBk) hBc) hBd) hBi) hB82) (⟨A82, rfl, .inr hZ82⟩)
            · skip
              refine n_y rfl (y_mv rfl) rfl ?_
              refine n_no rfl rfl ?_
              refine n_no rfl rfl ?_
              refine n_no rfl rfl ?_
              refine n_no rfl rfl ?_
              refine n_no rfl rfl ?_
              refine n_y rfl (y_pf rfl rfl) rfl ?_
              refine n_nil ?_
              refine th_n ?_
              refine k_condf rfl ?_
              refine k_skip ?_
              refine th_n ?_
              exact k_again2 (Bi, Ad) ⟨PH.le_refl _, by dsimp only; rw [show (f8 m).length = (f7 m).length by rw [f8, if_neg (by omega)]; simp]; exact (hJm _ _ _ _ hBi hJd)⟩ rfl trivial rfl
          · obtain ⟨Be, Ae⟩ := z
            obtain ⟨hBe, hJe⟩ := hz
            dsimp only at hBe hJe
            try conv => arg 7; dsimp only [List.nil_append, List.cons_append]
            try conv => arg 6; dsimp only
            try conv => arg 4; dsimp only [List.nil_append, List.cons_append]
            replace hb1 := hb1.mono hBe
            replace hm := hm.mono hBe
            refine k_seq ?_
            refine k_seq ?_
            refine k_region ?_
            refine n_y rfl (y_fa rfl) rfl ?_
            refine n_y rfl (y_ldp rfl (mS_cell hb1).2.2) rfl ?_
            refine n_y rfl (y_len rfl) rfl ?_
            refine n_y rfl (y_mv rfl) rfl ?_
            refine n_nil ?_
            refine th_n ?_
            refine k_block ?_
            refine k_ownil 5 1 ?_
            refine k_loop2 (α := Nat × Value × PH) [6, 10, 88, 89, 90, 91, 92, 93, 94, 95, 96] (fun z9 => z9.1 ≤ m.list.length ∧ Be.le z9.2.2) (fun z9 => [(88, .int .i64 (z9.1 : Int)), (6, z9.2.1)]) (fun z9 => z9.2.2) (fun z9 => [ow 5 1 z9.2.1 ((m.list.take z9.1).flatMap runB).length (cBs ((m.list.take z9.1).flatMap runB))]) (fun z9 => m.list.length - z9.1) (0, .slice none 0 0, Be) ⟨Nat.zero_le _, PH.le_refl _⟩ rfl ⟨rfl, rfl, trivial⟩ [ow 5 1 (.slice none 0 0) 0 []] rfl ?_
            rintro ⟨j, v, Bf⟩ ⟨hj, hBf⟩
            dsimp only at hj hBf
            try conv => arg 7; dsimp only [List.nil_append, List.cons_append]
            try conv => arg 6; dsimp only
            try conv => arg 4; dsimp only [List.nil_append, List.cons_append]
            replace hb1 := hb1.mono hBf
            replace hm := hm.mono hBf
            refine k_seq ?_
            refine k_region ?_
            refine n_y rfl (y_lt rfl rfl) rfl ?_
            refine n_nil ?_
            refine th_n ?_
            refine k_seq ?_
            refine k_cond rfl (fun c89 => ?_) (fun c89 => ?_)
            · skip
              have hj' : j < m.list.length := by omega
              obtain ⟨x, hx⟩ : ∃ x, m.list[j]? = some x := ⟨_, List.getElem?_eq_getElem hj'⟩
              obtain ⟨us, hul, ⟨la', lc', hle, hlc, hlr⟩, hus⟩ := hm.list
              obtain ⟨rfl, rfl⟩ : la = la' ∧ lc = lc' := by simpa using hle
              obtain ⟨u, huk⟩ : ∃ u, us[j]? = some u := ⟨_, List.getElem?_eq_getElem (by omega)⟩
              obtain ⟨qb, qo, rfl, hqr⟩ := hlr (by intro e; rw [e] at hul; simp at hul; omega)
              have hux := hus j u x huk hx
              have hxl := hs.list x (List.mem_of_getElem? hx)
              have hrx : (runB x).length = 3 + x.length := by simp [runB]; omega
              have hrl := runs_length (m.list.take (j + 1))
              have hfl := flat_le m.list (j + 1)
              have htl : (m.list.take (j + 1)).length ≤ 64 := by rw [List.length_take]; omega
              have hsp := congrArg List.length (congrArg (List.flatMap runB) (take_succ hx))
              rw [List.flatMap_append, List.length_append] at hsp
              simp only [List.flatMap_cons, List.flatMap_nil, List.append_nil] at hsp
              refine k_skip ?_
              refine th_n ?_
              refine k_seq ?_
              refine k_block ?_
              refine k_seq ?_
              refine k_region ?_
              refine n_y rfl (y_ia rfl rfl _ rfl (by omega)) rfl ?_
              refine n_y rfl (y_ldi (i := j) rfl hqr (by omega) huk) rfl ?_
              refine n_y rfl (y_as rfl) rfl ?_
              refine n_nil ?_
              refine th_n ?_
              refine k_region ?_
              refine n_y rfl (y_mv rfl) rfl ?_
              refine n_y rfl (y_mv rfl) rfl ?_
              refine n_op rfl (o_call rfl (T_pack_run _ u x hux (by omega)) rfl ?_)
              rintro v94 B94 L94 hB94 ⟨hv94, rfl⟩
              try conv => arg 7; dsimp only [List.nil_append, List.cons_append]
              replace hb1 := hb1.mono hB94
              replace hm := hm.mono hB94
              refine n_op rfl (o_app rfl rfl rfl hv94.src rfl rfl (by omega) rfl fun v95 hv95 => ?_)
              rw [← cBs_append, ← hsp, show (m.list.take j).flatMap runB ++ runB x = (m.list.take (j + 1)).flatMap runB by rw [take_succ hx, List.flatMap_append]; simp]
              refine n_y rfl (y_as rfl) rfl ?_
              refine n_nil ?_
              refine bl_n ?_
              refine th_n ?_
              refine k_region ?_
              refine n_y rfl (y_add rfl rfl (by omega)) rfl ?_
              refine n_y rfl (y_mv rfl) rfl ?_
              refine n_nil ?_
              refine th_n ?_
              exact k_again2 (j + 1, v95, B94) ⟨⟨by dsimp only; omega, PH.le_trans hBf hB94⟩, by dsimp only; omega⟩ rfl ⟨rfl, rfl, trivial⟩ rfl
            · skip
              obtain rfl : j = m.list.length := by omega
              rw [List.take_length]
              refine k_owf (v := v) fun hform hcl hco => ?_
              obtain ⟨xa, xc, rfl⟩ := hform
              refine k_frzw (v := .slice xa (m.list.flatMap runB).length xc) fun Bg hBg hrg => ?_
              have hrg' : IsB Bg (.slice xa (m.list.flatMap runB).length xc) (m.list.flatMap runB) := hrg
              have hz : 0 < m.list.length ∨ (m.list.flatMap runB).length = 0 := by
                rcases Nat.eq_zero_or_pos m.list.length with h | h
                · right; rw [List.eq_nil_of_length_eq_zero h]; rfl
                · left; exact h
              have hrl := runs_length m.list
              replace hb1 := hb1.mono hBg
              replace hm := hm.mono hBg
              refine k_exit ?_
              refine th_x ?_
              refine th_x ?_
              refine bl_s ?_
              refine th_n ?_
              refine k_seq ?_
              refine k_region ?_
              refine n_y rfl (y_mv rfl) rfl ?_
              refine n_y rfl (y_len rfl) rfl ?_
              refine n_y rfl (y_gt rfl rfl) rfl ?_
              refine n_nil ?_
              refine th_n ?_
              refine k_cond rfl (fun c99 => ?_) (fun c99 => ?_)
              · skip
                refine k_region ?_
                refine n_y rfl (y_mv rfl) rfl ?_
                refine n_y rfl (y_mv rfl) rfl ?_
                refine n_y rfl (y_bd rfl rfl) rfl ?_
                have e9 : (fieldsM m).length = (f8 m).length + 1 := by rw [fieldsM, if_pos (by omega)]; simp
                refine n_op rfl (o_yield rfl rfl (hy (f8 m).length _ Bg Ae (get_lt (f9_get (by omega))) (PH.le_trans (PH.le_trans (PH.le_trans (PH.le_trans (PH.le_trans (PH.le_trans (hBk) hBc) hBd) hBi) hBe) hBf) hBg) ⟨_, _, _, f9_get (by omega), rfl, hrg'⟩ (hJm _ _ _ _ (PH.le_trans hBf hBg) hJe)) rfl ?_)
                rintro ok103 B103 L103 hB103 ⟨A103, rfl, hok103⟩
                try conv => arg 7; dsimp only [List.nil_append, List.cons_append]
                replace hb1 := hb1.mono hB103
                replace hm := hm.mono hB103
                rcases hok103 with ⟨rfl, hJ103⟩ | ⟨rfl, hZ103⟩
                · skip
                  refine n_nil ?_
                  refine k_retf ?_
                  refine k_retn rfl (rs_nil) (PH.le_trans (PH.le_trans (PH.le_trans (PH.le_trans (PH.le_trans (PH.le_trans (PH.le_trans (hBk) hBc) hBd) hBi) hBe) hBf) hBg) hB103) (⟨A103, rfl, .inl (by rw [e9]; exact hJ103)⟩)
                · skip
                  refine n_nil ?_
                  refine k_retf ?_
                  refine k_retn rfl (rs_nil) (PH.le_trans (PH.le_trans (PH.le_trans (PH.le_trans (PH.le_trans (PH.le_trans (PH.le_trans (hBk) hBc) hBd) hBi) hBe) hBf) hBg) hB103) (⟨A103, rfl, .inr hZ103⟩)
              · skip
                refine k_skip ?_
                refine k_retf ?_
                refine k_retn rfl (rs_nil) (PH.le_trans (PH.le_trans (PH.le_trans (PH.le_trans (PH.le_trans (PH.le_trans (hBk) hBc) hBd) hBi) hBe) hBf) hBg) (⟨Ae, rfl, .inl (by rw [show (fieldsM m).length = (f8 m).length by rw [fieldsM, if_neg (by omega)]; simp]; exact hJm _ _ _ _ (PH.le_trans hBf hBg) hJe)⟩)
end Go.Proofs.Ytokekdbdnonebaa
