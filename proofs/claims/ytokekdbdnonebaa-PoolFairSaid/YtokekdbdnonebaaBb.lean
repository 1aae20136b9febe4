/- book: a batch applied. -/
import Derived.Test.YtokekdbdnonebaaBa
namespace Go.Proofs.Ytokekdbdnonebaa
open Sc Go

theorem T_book_Book_Apply (B : PH) (bb : Nat) (k : Bk) (us : List Value) (bv : Value) (b : List UInt8) (hk : k.ok) (hus : IsBs B us k.list) (hh : k.heads.length < 1099511627776) (hb : IsB B bv b) (hn : b.length < 1099511627776) : Tri Try.prog F_book_Book_Apply [.pointer (some ⟨bb, 0, none⟩), bv] B [bookA bb k us] fun v B' L' => ∃ us', v = .int .i64 (((applyB b k).list.length : Int) - (k.list.length : Int)) ∧ IsBs B' us' (applyB b k).list ∧ L' = [bookA bb (applyB b k) us'] := by
  haveI := hb.one
  refine tri_of fn_book_Book_Apply rfl nt_book_Book_Apply rfl fun W0 R => ?_
  simp only [argEnv, List.nil_append, List.cons_append]
  refine k_seq ?_
  refine k_region ?_
  refine n_op rfl (o_bx rfl rfl fun b2 => ?_)
  refine k_frz b2 fun Bz hBz hr2 => ?_
  replace hb := hb.mono hBz
  replace hus := hus.mono hBz
  refine n_y rfl (y_as rfl) rfl ?_
  refine n_nil ?_
  refine th_n ?_
  refine k_scope ?_
  refine k_seq ?_
  refine k_region ?_
  refine k_bkO bb k us fun la lc mb tb ha hc hul hu1 => ?_
  refine n_y rfl (y_ldp rfl (hr2.cell (i := 0) rfl)) rfl ?_
  refine n_y rfl (y_nil rfl) rfl ?_
  refine n_y rfl (y_fa rfl) rfl ?_
  refine n_y rfl (y_ld rfl rfl) rfl ?_
  refine n_y rfl (y_len rfl) rfl ?_
  refine n_y rfl (y_as rfl) rfl ?_
  refine k_bkC bb k us (.slice la k.list.length lc) (.slice ha k.heads.length hc) mb tb ?_
  refine n_nil ?_
  refine th_n ?_
  refine k_seq ?_
  refine k_label ?_
  refine th_n ?_
  refine k_seq ?_
  refine k_seq ?_
  refine k_region ?_
  refine n_y rfl (y_mv rfl) rfl ?_
  refine n_op rfl (o_call rfl (T_book_Split _ bv b hb hn) rfl ?_)
  rintro v19 B19 L19 hB19 ⟨b3, b4, sm, sdv, siv, slv, se, rfl, rfl, hp19, hsm19, he19, hs19, hsb19⟩
  try conv => arg 7; dsimp only [List.nil_append, List.cons_append]
  replace hb := hb.mono hB19
  replace hus := hus.mono hB19
  replace hr2 := hr2.mono hB19
  refine n_nil ?_
  refine th_n ?_
  refine k_block ?_
  refine k_range (Own := []) rfl (Iter.ofA (IA_book_Split _ b3 b4 sm sdv siv slv se hp19 hsm19 he19 (by omega))) rfl (fun i B L => ∃ ki us, ki.ok ∧ applyL (splitB b) k = applyL ((splitB b).drop i) ki ∧ IsBs B us ki.list ∧ L = [bookA bb ki us]) (fun c B L => c = .exit 0 ∧ ∃ ki us, ki.ok ∧ applyL (splitB b) k = ki ∧ IsBs B us ki.list ∧ L = [bookA bb ki us]) (fun i B1 B2 L hl ⟨ki, us, h1, h2, h3, h4⟩ => ⟨ki, us, h1, h2, h3.mono hl, h4⟩) (fun c B1 B2 L hl ⟨h0, ki, us, h1, h2, h3, h4⟩ => ⟨h0, ki, us, h1, h2, h3.mono hl, h4⟩) [bookA bb k us] ⟨k, us, hk, rfl, hus, rfl⟩ (by rintro i B1 vs ⟨x, xv, h1, rfl, _⟩; rfl) ?_ ?_ ?_
  · intro l i vs B1 L1 F1 F2 W0' hi hB1 hel hJ
    obtain ⟨x, xv, hx, rfl, hxv⟩ := hel
    rw [← hs19] at hx
    obtain ⟨ki, usi, hko, heq, husi, rfl⟩ := hJ
    haveI := hxv.one
    have hxl := splitB_each (List.mem_of_getElem? hx)
    have hroom := hko.room
    try conv => arg 7; dsimp only [List.nil_append, List.cons_append]
    try conv => arg 4; simp only [penv]
    replace hb := hb.mono hB1
    replace hus := hus.mono hB1
    replace hr2 := hr2.mono hB1
    replace hp19 := hp19.mono hB1
    replace hsm19 := hsm19.mono hB1
    replace he19 := he19.mono hB1
    refine k_region ?_
    refine n_y rfl (y_as rfl) rfl ?_
    refine n_nil ?_
    refine th_n ?_
    refine k_sw (F1 := F1) ?_
    refine k_block ?_
    refine k_seq ?_
    refine k_region ?_
    refine n_y rfl (y_mv rfl) rfl ?_
    refine n_op rfl (o_call rfl (T_book_Check _ xv x hxv (by omega)) rfl ?_)
    rintro v24 B24 L24 hB24 ⟨m24, dv24, iv24, lv24, e24, rfl, hm24, rfl, hc24⟩
    try conv => arg 7; dsimp only [List.nil_append, List.cons_append]
    replace hb := hb.mono hB24
    replace hus := hus.mono hB24
    replace hr2 := hr2.mono hB24
    replace hp19 := hp19.mono hB24
    replace hsm19 := hsm19.mono hB24
    replace he19 := he19.mono hB24
    replace hxv := hxv.mono hB24
    replace husi := husi.mono hB24
    haveI := hm24.data.one
    haveI := hm24.ids.one
    haveI := hm24.list.one
    refine k_bkO bb ki usi fun la lc mb tb ha hc hul hu1 => ?_
    refine n_y rfl (y_mv rfl) rfl ?_
    refine n_y rfl (y_ex0 rfl) rfl ?_
    refine n_y rfl (y_ex1 rfl) rfl ?_
    refine n_op rfl (o_al rfl fun b8 => ?_)
    refine n_op rfl (o_stv rfl rfl rfl rfl ?_)
    refine n_y rfl (y_as rfl) rfl ?_
    refine n_nil ?_
    refine th_n ?_
    refine k_seq ?_
    refine k_region ?_
    refine n_y rfl (y_fa rfl) rfl ?_
    refine n_y rfl (y_ld rfl rfl) rfl ?_
    refine n_y rfl (y_fa rfl) rfl ?_
    refine n_y rfl (y_ld rfl rfl) rfl ?_
    refine n_y rfl (y_bd rfl rfl) rfl ?_
    refine n_op rfl (o_al rfl fun b10 => ?_)
    refine n_op rfl (o_stv rfl rfl rfl rfl ?_)
    refine n_nil ?_
    refine th_n ?_
    refine k_seq ?_
    refine k_seq ?_
    refine k_mix rfl [0, 1, 3, 7, 0, 31, 63, 127, 127, 255, 1023] [(0, false), (1, false), (2, false), (3, false), (4, false), (5, false), (6, false), (7, false), (8, false), (9, false), (10, false)] (by kernel_rfl) ?_
    refine m_y rfl rfl (y_ldp rfl (hr2.cell (i := 0) rfl)) rfl ?_
    refine m_p rfl rfl (fun _ _ => y_nil rfl) rfl ?_
    refine m_p rfl rfl (fun _ _ => y_fa rfl) rfl ?_
    refine m_y rfl rfl (y_ld rfl rfl) rfl ?_
    refine m_y rfl rfl (y_lda rfl rfl) rfl ?_
    refine m_y rfl rfl (y_lkok rfl (m24.who, m24.num) rfl) rfl ?_
    rw [mget_map (fun i : Int => Value.int .i64 i), Option.isSome_map]
    refine m_p rfl rfl (fun _ _ => y_mv rfl) rfl ?_
    refine m_p rfl rfl (fun _ _ => y_ex0 rfl) rfl ?_
    refine m_p rfl rfl (fun _ _ => y_ex1 rfl) rfl ?_
    refine m_p rfl rfl (fun _ _ => y_as rfl) rfl ?_
    refine m_p rfl rfl (fun _ _ => y_as rfl) rfl ?_
    refine m_end ?_
    refine th_n ?_
    refine k_block ?_
    refine k_seq ?_
    refine k_seq ?_
    refine k_region ?_
    refine n_y rfl (y_mv rfl) rfl ?_
    refine n_y rfl (y_ne rfl rfl) rfl ?_
    refine k_dec (fun c43 => ?_) (fun c43 => ?_)
    · skip
      refine n_y rfl (y_as rfl) rfl ?_
      refine n_nil ?_
      refine th_n ?_
      refine k_condt rfl ?_
      refine k_skip ?_
      refine th_n ?_
      refine k_condt rfl ?_
      refine k_exit ?_
      refine bl_x rfl ?_
      refine th_x ?_
      refine bl_s ?_
      refine k_bkC bb ki usi (.slice la ki.list.length lc) (.slice ha ki.heads.length hc) mb tb ?_
      exact k_rqn (hB24) ⟨ki, usi, hko, by rw [heq, drop_next hx]; rcases hc24 with h | h; exact applyL_err h.2.1; exact absurd h.1 c43, husi, rfl⟩
    · skip
      have hce : checkE x = .ok m24 := by
        rcases hc24 with h | h
        · exact absurd h.1 c43
        · exact h.2
      refine n_y rfl (y_as rfl) rfl ?_
      refine n_nil ?_
      refine th_n ?_
      refine k_condf rfl ?_
      refine k_region ?_
      refine n_y rfl (y_mv rfl) rfl ?_
      refine n_y rfl (y_as rfl) rfl ?_
      refine n_nil ?_
      refine th_n ?_
      refine k_condb rfl (fun c41 => ?_) (fun c41 => ?_)
      · skip
        refine k_exit ?_
        refine bl_x rfl ?_
        refine th_x ?_
        refine bl_s ?_
        refine k_bkC bb ki usi (.slice la ki.list.length lc) (.slice ha ki.heads.length hc) mb tb ?_
        exact k_rqn (hB24) ⟨ki, usi, hko, by rw [heq, drop_next hx, applyL_ok hce, if_pos (by simpa using c41)], husi, rfl⟩
      · skip
        refine k_seq ?_
        refine k_region ?_
        refine n_y rfl (y_ldp rfl (hr2.cell (i := 0) rfl)) rfl ?_
        refine n_y rfl (y_nil rfl) rfl ?_
        refine n_y rfl (y_fa rfl) rfl ?_
        refine n_y rfl (y_ld rfl rfl) rfl ?_
        refine n_y rfl (y_len rfl) rfl ?_
        refine n_y rfl (y_eq rfl rfl) rfl ?_
        refine n_y rfl (y_as rfl) rfl ?_
        refine n_nil ?_
        refine th_n ?_
        refine k_cond rfl (fun c45 => ?_) (fun c45 => ?_)
        · skip
          refine k_exit ?_
          refine bl_x rfl ?_
          refine th_x ?_
          refine bl_x rfl ?_
          refine k_bkC bb ki usi (.slice la ki.list.length lc) (.slice ha ki.heads.length hc) mb tb ?_
          exact k_rqx (hB24) ⟨rfl, ki, usi, hko, by rw [heq, drop_next hx, applyL_ok hce, if_neg (by simpa using c41), if_pos (by omega)], husi, rfl⟩
        · skip
          refine k_skip ?_
          refine bl_n ?_
          refine th_n ?_
          refine k_seq ?_
          refine k_mix rfl [0, 1, 3, 7, 0, 0, 32, 96, 224, 480, 1023] [(0, false), (1, false), (2, false), (3, false), (4, false), (5, false), (6, false), (7, false), (8, false), (9, false), (10, true)] (by kernel_rfl) ?_
          refine m_y rfl rfl (y_ldp rfl (hr2.cell (i := 0) rfl)) rfl ?_
          refine m_p rfl rfl (fun _ _ => y_nil rfl) rfl ?_
          refine m_p rfl rfl (fun _ _ => y_fa rfl) rfl ?_
          refine m_y rfl rfl (y_ld rfl rfl) rfl ?_
          refine m_y rfl rfl (y_lda rfl rfl) rfl ?_
          refine m_y rfl rfl (y_ldp rfl (hr2.cell (i := 0) rfl)) rfl ?_
          refine m_p rfl rfl (fun _ _ => y_nil rfl) rfl ?_
          refine m_p rfl rfl (fun _ _ => y_fa rfl) rfl ?_
          refine m_y rfl rfl (y_ld rfl rfl) rfl ?_
          refine m_p rfl rfl (fun _ _ => y_len rfl) rfl ?_
          refine m_mv0 [false, false, false, false, false] rfl rfl (by kernel_rfl) fun W1 ds1 ro1 Q1 K1 hK1 => ?_
          refine o_mup rfl (m24.who, m24.num) rfl rfl ?_
          rw [mset_map (fun i : Int => Value.int .i64 i)]
          refine hK1  _ _ (PH.le_refl _) trivial ?_
          refine m_end ?_
          refine th_n ?_
          refine k_seq ?_
          refine k_mix rfl [0, 0, 2, 6, 14, 0, 0, 96, 224, 510, 1023, 2047, 4095] [(0, false), (1, false), (2, false), (3, false), (4, false), (6, false), (5, true), (7, true), (8, true), (9, true), (10, false), (11, false), (12, true)] (by kernel_rfl) ?_
          refine m_y rfl rfl (y_ldp rfl (hr2.cell (i := 0) rfl)) rfl ?_
          refine m_y rfl rfl (y_ldp rfl (hr2.cell (i := 0) rfl)) rfl ?_
          refine m_p rfl rfl (fun _ _ => y_nil rfl) rfl ?_
          refine m_p rfl rfl (fun _ _ => y_fa rfl) rfl ?_
          refine m_y rfl rfl (y_ld rfl rfl) rfl ?_
          refine m_p rfl rfl (fun _ _ => y_mv rfl) rfl ?_
          refine m_mv1 [true, true, true] rfl rfl rfl (by kernel_rfl) fun W1 ds1 ro1 Q1 K1 hK1 => ?_
          refine o_bs rfl rfl rfl rfl rfl rfl fun b67 => ?_
          refine k_bkow (sz := 1) b67 0 rfl ?_
          refine hK1 _ _ _ (PH.le_refl _) ⟨qy_y rfl (y_ld rfl rfl), qy_y rfl (y_ldp rfl (hr2.cell (i := 0) rfl)), qy_y rfl (y_ldp rfl (hr2.cell (i := 0) rfl)), ⟨⟩⟩ ?_
          refine m_mv1 [true, true, true] rfl rfl rfl (by kernel_rfl) fun W1 ds1 ro1 Q1 K1 hK1 => ?_
          refine o_app rfl rfl rfl hxv.src rfl rfl (by omega) rfl fun v69 hv69 => ?_
          refine k_frzw (v := v69) fun B69 hB69 hd69 => ?_
          replace hd69 : IsB B69 v69 x := by simpa [IsB, flat] using hd69
          haveI := hv69
          replace hb := hb.mono hB69
          replace hus := hus.mono hB69
          replace hr2 := hr2.mono hB69
          replace hp19 := hp19.mono hB69
          replace hsm19 := hsm19.mono hB69
          replace he19 := he19.mono hB69
          replace hxv := hxv.mono hB69
          replace husi := husi.mono hB69
          replace hm24 := hm24.mono hB69
          refine hK1 _ _ _ (hB69) ⟨qy_y rfl (y_ld rfl rfl), qy_y rfl (y_ldp rfl (hr2.cell (i := 0) rfl)), qy_y rfl (y_ldp rfl (hr2.cell (i := 0) rfl)), ⟨⟩⟩ ?_
          refine m_mv1 [true, true, true] rfl rfl rfl (by kernel_rfl) fun W1 ds1 ro1 Q1 K1 hK1 => ?_
          refine o_bs rfl rfl rfl rfl rfl rfl fun b70 => ?_
          refine hK1 _ _ _ (PH.le_refl _) ⟨qy_y rfl (y_ld rfl rfl), qy_y rfl (y_ldp rfl (hr2.cell (i := 0) rfl)), qy_y rfl (y_ldp rfl (hr2.cell (i := 0) rfl)), ⟨⟩⟩ ?_
          refine m_mv1 [false, false, true] rfl rfl rfl (by kernel_rfl) fun W1 ds1 ro1 Q1 K1 hK1 => ?_
          refine o_app rfl rfl rfl (src_bk (m := 1) rfl rfl) rfl rfl (by omega) rfl fun v71 hv71 => ?_
          rw [show usi ++ flat [.one v69] = usi ++ [v69] from rfl, show ki.list.length + 1 = (ki.list ++ [x]).length by simp]
          haveI := hv71
          refine hK1 _ _ _ (PH.le_refl _) ⟨qy_y rfl (y_ldp rfl (hr2.cell (i := 0) rfl)), ⟨⟩⟩ ?_
          refine m_p rfl rfl (fun _ _ => y_nil rfl) rfl ?_
          refine m_p rfl rfl (fun _ _ => y_fa rfl) rfl ?_
          refine m_mv0 [false] rfl rfl (by kernel_rfl) fun W1 ds1 ro1 Q1 K1 hK1 => ?_
          refine o_stv rfl rfl rfl rfl ?_
          refine hK1  _ _ (PH.le_refl _) trivial ?_
          refine m_end ?_
          refine th_n ?_
          refine k_mix rfl [0, 1, 3, 7, 0, 16, 48, 127] [(0, false), (1, false), (2, false), (3, false), (4, false), (5, true), (6, true), (7, true)] (by kernel_rfl) ?_
          refine m_y rfl rfl (y_ldp rfl (hr2.cell (i := 0) rfl)) rfl ?_
          refine m_p rfl rfl (fun _ _ => y_nil rfl) rfl ?_
          refine m_p rfl rfl (fun _ _ => y_fa rfl) rfl ?_
          refine m_y rfl rfl (y_ld rfl rfl) rfl ?_
          refine m_p rfl rfl (fun _ _ => y_mv rfl) rfl ?_
          refine m_mv1 [true, true] rfl rfl rfl (by kernel_rfl) fun W1 ds1 ro1 Q1 K1 hK1 => ?_
          refine o_bs rfl rfl rfl rfl rfl rfl fun b79 => ?_
          refine k_frz b79 fun B79 hB79 hr79 => ?_
          replace hb := hb.mono hB79
          replace hus := hus.mono hB79
          replace hr2 := hr2.mono hB79
          replace hp19 := hp19.mono hB79
          replace hsm19 := hsm19.mono hB79
          replace he19 := he19.mono hB79
          replace hxv := hxv.mono hB79
          replace husi := husi.mono hB79
          replace hm24 := hm24.mono hB79
          replace hd69 := hd69.mono hB79
          refine hK1 _ _ _ (hB79) ⟨qy_y rfl (y_ld rfl rfl), qy_y rfl (y_ldp rfl (hr2.cell (i := 0) rfl)), ⟨⟩⟩ ?_
          refine m_mv1 [true, true] rfl rfl rfl (by kernel_rfl) fun W1 ds1 ro1 Q1 K1 hK1 => ?_
          refine o_call rfl (T_tree_Entries _ _ [x] (isBB_row hr79 ⟨hxv, trivial⟩ rfl (Nat.le_refl _)) (by simp) (by simp; omega)) rfl ?_
          rintro v80 B80 L80 hB80 ⟨hv80, rfl⟩
          try conv => arg 7; dsimp only [List.nil_append, List.cons_append]
          replace hb := hb.mono hB80
          replace hus := hus.mono hB80
          replace hr2 := hr2.mono hB80
          replace hp19 := hp19.mono hB80
          replace hsm19 := hsm19.mono hB80
          replace he19 := he19.mono hB80
          replace hxv := hxv.mono hB80
          replace husi := husi.mono hB80
          replace hm24 := hm24.mono hB80
          replace hd69 := hd69.mono hB80
          replace hr79 := hr79.mono hB80
          refine hK1 _ _ _ (hB80) ⟨qy_y rfl (y_ld rfl rfl), qy_y rfl (y_ldp rfl (hr2.cell (i := 0) rfl)), ⟨⟩⟩ ?_
          refine m_mv1 [false, false] rfl rfl rfl (by kernel_rfl) fun W1 ds1 ro1 Q1 K1 hK1 => ?_
          refine o_call rfl (T_tree_Range_Append _ tb ki.tree _ [leafB x] hko.tree hv80 (by rw [hko.size]; simp; omega)) rfl ?_
          rintro v81 B81 L81 hB81 ⟨rfl, rfl, rfl⟩
          try conv => arg 7; dsimp only [List.nil_append, List.cons_append]
          refine hK1 _ _ _ (hB81) trivial ?_
          refine m_end ?_
          refine bl_n ?_
          refine k_bkC bb ⟨ki.list ++ [x], mset ki.whr (m24.who, m24.num) (ki.list.length : Int), addsT ki.tree [leafB x], ki.heads⟩ (usi ++ [v69]) v71 (.slice ha ki.heads.length hc) mb tb ?_
          exact k_rqn (PH.le_trans (PH.le_trans (PH.le_trans (hB24) hB69) hB79) hB80) ⟨⟨ki.list ++ [x], mset ki.whr (m24.who, m24.num) (ki.list.length : Int), addsT ki.tree [leafB x], ki.heads⟩, usi ++ [v69], addB_ok hko (by omega) m24 x, by rw [heq, drop_next hx, applyL_ok hce, if_neg (by simpa using c41), if_neg (by omega)]; rfl, husi.snoc hd69, rfl⟩
  · intro D B2 L2 hB2 hJ2
    obtain ⟨ki, usi, hko, heq, husi, rfl⟩ := hJ2
    rw [← hs19, List.drop_length, applyL] at heq
    try conv => arg 7; dsimp only [List.nil_append, List.cons_append]
    refine k_bkO bb ki usi fun la lc mb tb ha hc hul hu1 => ?_
    have hhl : ki.heads = k.heads := by rw [← heq]; exact (applyL_keep _ k hk).2.2
    have hhn : ki.heads.length < 1099511627776 := by rw [hhl]; exact hh
    have hr1 := hko.room
    have hr3 := hk.room
    replace hb := hb.mono hB2
    replace hus := hus.mono hB2
    replace hr2 := hr2.mono hB2
    replace hp19 := hp19.mono hB2
    replace hsm19 := hsm19.mono hB2
    replace he19 := he19.mono hB2
    refine bl_n ?_
    refine th_n ?_
    refine k_seq ?_
    refine k_mix rfl [0, 0, 2, 6, 14, 0, 32, 96, 224, 480, 992, 0, 2048, 6144, 14336, 30720, 0, 65536, 196608, 458752, 983040, 2097120, 4194272, 8388606, 16777215, 33554431, 67108863] [(0, false), (1, false), (2, false), (3, false), (4, false), (5, false), (6, false), (7, false), (8, false), (9, false), (10, false), (11, false), (12, false), (13, false), (14, false), (15, false), (16, false), (17, false), (18, false), (19, false), (20, false), (21, false), (22, true), (23, true), (24, false), (25, false), (26, true)] (by kernel_rfl) ?_
    refine m_y rfl rfl (y_ldp rfl (hr2.cell (i := 0) rfl)) rfl ?_
    refine m_y rfl rfl (y_ldp rfl (hr2.cell (i := 0) rfl)) rfl ?_
    refine m_p rfl rfl (fun _ _ => y_nil rfl) rfl ?_
    refine m_p rfl rfl (fun _ _ => y_fa rfl) rfl ?_
    refine m_y rfl rfl (y_ld rfl rfl) rfl ?_
    refine m_y rfl rfl (y_ldp rfl (hr2.cell (i := 0) rfl)) rfl ?_
    refine m_p rfl rfl (fun _ _ => y_nil rfl) rfl ?_
    refine m_p rfl rfl (fun _ _ => y_fa rfl) rfl ?_
    refine m_y rfl rfl (y_ld rfl rfl) rfl ?_
    refine m_p rfl rfl (fun _ _ => y_len rfl) rfl ?_
    refine m_p rfl rfl (fun _ _ => y_add rfl rfl (by omega)) rfl ?_
    refine m_y rfl rfl (y_ldp rfl (hr2.cell (i := 0) rfl)) rfl ?_
    refine m_p rfl rfl (fun _ _ => y_nil rfl) rfl ?_
    refine m_p rfl rfl (fun _ _ => y_fa rfl) rfl ?_
    refine m_y rfl rfl (y_ld rfl rfl) rfl ?_
    refine m_p rfl rfl (fun _ _ => y_len rfl) rfl ?_
    refine m_y rfl rfl (y_ldp rfl (hr2.cell (i := 0) rfl)) rfl ?_
    refine m_p rfl rfl (fun _ _ => y_nil rfl) rfl ?_
    refine m_p rfl rfl (fun _ _ => y_fa rfl) rfl ?_
    refine m_y rfl rfl (y_ld rfl rfl) rfl ?_
    refine m_call rfl rfl rfl (T_tree_Range_Root _ tb ki.tree hko.tree (by rw [hko.size]; omega)) rfl ?_
    refine m_p rfl rfl (fun _ _ => y_bd rfl rfl) rfl ?_
    refine m_mv1 [false, false, false, false, false, false, false, true, true, true] rfl rfl rfl (by kernel_rfl) fun W1 ds1 ro1 Q1 K1 hK1 => ?_
    refine o_bs rfl rfl rfl rfl rfl rfl fun b104 => ?_
    refine hK1 _ _ _ (PH.le_refl _) ⟨qy_y rfl (y_ld rfl rfl), qy_y rfl (y_ldp rfl (hr2.cell (i := 0) rfl)), qy_y rfl (y_ldp rfl (hr2.cell (i := 0) rfl)), ⟨⟩⟩ ?_
    refine m_mv1 [false, false, true] rfl rfl rfl (by kernel_rfl) fun W1 ds1 ro1 Q1 K1 hK1 => ?_
    refine o_app rfl rfl rfl (src_bk (m := 1) rfl rfl) rfl rfl (by omega) rfl fun v105 hv105 => ?_
    rw [show ki.heads.flatMap hdC ++ flat [.one (.int .i64 ((ki.heads.length : Int) + 1)), .one (.int .i64 (ki.list.length : Int)), .row 32 (rootT ki.tree).cs] = (ki.heads ++ [((ki.heads.length : Int) + 1, (ki.list.length : Int), rootT ki.tree)]).flatMap hdC by simp [flat, Seg.cells, hdC], show ki.heads.length + 1 = (ki.heads ++ [((ki.heads.length : Int) + 1, (ki.list.length : Int), rootT ki.tree)]).length by simp]
    haveI := hv105
    refine hK1 _ _ _ (PH.le_refl _) ⟨qy_y rfl (y_ldp rfl (hr2.cell (i := 0) rfl)), ⟨⟩⟩ ?_
    refine m_p rfl rfl (fun _ _ => y_nil rfl) rfl ?_
    refine m_p rfl rfl (fun _ _ => y_fa rfl) rfl ?_
    refine m_mv0 [false] rfl rfl (by kernel_rfl) fun W1 ds1 ro1 Q1 K1 hK1 => ?_
    refine o_stv rfl rfl rfl rfl ?_
    refine hK1  _ _ (PH.le_refl _) trivial ?_
    refine m_end ?_
    refine th_n ?_
    refine k_seq ?_
    refine k_region ?_
    refine n_y rfl (y_ldp rfl (hr2.cell (i := 0) rfl)) rfl ?_
    refine n_y rfl (y_nil rfl) rfl ?_
    refine n_y rfl (y_fa rfl) rfl ?_
    refine n_y rfl (y_ld rfl rfl) rfl ?_
    refine n_y rfl (y_len rfl) rfl ?_
    refine n_y rfl (y_mv rfl) rfl ?_
    refine n_y rfl (y_sub rfl rfl (by omega)) rfl ?_
    refine n_y rfl (y_as rfl) rfl ?_
    refine n_nil ?_
    refine th_n ?_
    refine k_ret ?_
    refine sc_r ?_
    refine k_unmark ?_
    refine k_bkC bb ⟨ki.list, ki.whr, ki.tree, ki.heads ++ [((ki.heads.length : Int) + 1, (ki.list.length : Int), rootT ki.tree)]⟩ usi (.slice la ki.list.length lc) v105 mb tb ?_
    refine k_retn rfl (rs_t rfl (rs_nil)) (PH.le_trans (PH.le_trans (hBz) hB19) hB2) (by
      have e9 : applyB b k = ⟨ki.list, ki.whr, ki.tree, ki.heads ++ [((ki.heads.length : Int) + 1, (ki.list.length : Int), rootT ki.tree)]⟩ := by rw [applyB, heq]; rfl
      rw [e9]; exact ⟨usi, rfl, husi, rfl⟩)
  · intro D c B2 L2 hB2 hZ2
    try conv => arg 7; dsimp only [List.nil_append, List.cons_append]
    replace hb := hb.mono hB2
    replace hus := hus.mono hB2
    replace hr2 := hr2.mono hB2
    replace hp19 := hp19.mono hB2
    replace hsm19 := hsm19.mono hB2
    replace he19 := he19.mono hB2
    obtain ⟨rfl, ki, usi, hko, heq, husi, rfl⟩ := hZ2
    try conv => arg 7; dsimp only [List.nil_append, List.cons_append]
    refine k_bkO bb ki usi fun la lc mb tb ha hc hul hu1 => ?_
    have hhl : ki.heads = k.heads := by rw [← heq]; exact (applyL_keep _ k hk).2.2
    have hhn : ki.heads.length < 1099511627776 := by rw [hhl]; exact hh
    have hr1 := hko.room
    have hr3 := hk.room
    refine k_exit ?_
    refine bl_s ?_
    refine th_n ?_
    refine k_seq ?_
    refine k_mix rfl [0, 0, 2, 6, 14, 0, 32, 96, 224, 480, 992, 0, 2048, 6144, 14336, 30720, 0, 65536, 196608, 458752, 983040, 2097120, 4194272, 8388606, 16777215, 33554431, 67108863] [(0, false), (1, false), (2, false), (3, false), (4, false), (5, false), (6, false), (7, false), (8, false), (9, false), (10, false), (11, false), (12, false), (13, false), (14, false), (15, false), (16, false), (17, false), (18, false), (19, false), (20, false), (21, false), (22, true), (23, true), (24, false), (25, false), (26, true)] (by kernel_rfl) ?_
    refine m_y rfl rfl (y_ldp rfl (hr2.cell (i := 0) rfl)) rfl ?_
    refine m_y rfl rfl (y_ldp rfl (hr2.cell (i := 0) rfl)) rfl ?_
    refine m_p rfl rfl (fun _ _ => y_nil rfl) rfl ?_
    refine m_p rfl rfl (fun _ _ => y_fa rfl) rfl ?_
    refine m_y rfl rfl (y_ld rfl rfl) rfl ?_
    refine m_y rfl rfl (y_ldp rfl (hr2.cell (i := 0) rfl)) rfl ?_
    refine m_p rfl rfl (fun _ _ => y_nil rfl) rfl ?_
    refine m_p rfl rfl (fun _ _ => y_fa rfl) rfl ?_
    refine m_y rfl rfl (y_ld rfl rfl) rfl ?_
    refine m_p rfl rfl (fun _ _ => y_len rfl) rfl ?_
    refine m_p rfl rfl (fun _ _ => y_add rfl rfl (by omega)) rfl ?_
    refine m_y rfl rfl (y_ldp rfl (hr2.cell (i := 0) rfl)) rfl ?_
    refine m_p rfl rfl (fun _ _ => y_nil rfl) rfl ?_
    refine m_p rfl rfl (fun _ _ => y_fa rfl) rfl ?_
    refine m_y rfl rfl (y_ld rfl rfl) rfl ?_
    refine m_p rfl rfl (fun _ _ => y_len rfl) rfl ?_
    refine m_y rfl rfl (y_ldp rfl (hr2.cell (i := 0) rfl)) rfl ?_
    refine m_p rfl rfl (fun _ _ => y_nil rfl) rfl ?_
    refine m_p rfl rfl (fun _ _ => y_fa rfl) rfl ?_
    refine m_y rfl rfl (y_ld rfl rfl) rfl ?_
    refine m_call rfl rfl rfl (T_tree_Range_Root _ tb ki.tree hko.tree (by rw [hko.size]; omega)) rfl ?_
    refine m_p rfl rfl (fun _ _ => y_bd rfl rfl) rfl ?_
    refine m_mv1 [false, false, false, false, false, false, false, true, true, true] rfl rfl rfl (by kernel_rfl) fun W1 ds1 ro1 Q1 K1 hK1 => ?_
    refine o_bs rfl rfl rfl rfl rfl rfl fun b104 => ?_
    refine hK1 _ _ _ (PH.le_refl _) ⟨qy_y rfl (y_ld rfl rfl), qy_y rfl (y_ldp rfl (hr2.cell (i := 0) rfl)), qy_y rfl (y_ldp rfl (hr2.cell (i := 0) rfl)), ⟨⟩⟩ ?_
    refine m_mv1 [false, false, true] rfl rfl rfl (by kernel_rfl) fun W1 ds1 ro1 Q1 K1 hK1 => ?_
    refine o_app rfl rfl rfl (src_bk (m := 1) rfl rfl) rfl rfl (by omega) rfl fun v105 hv105 => ?_
    rw [show ki.heads.flatMap hdC ++ flat [.one (.int .i64 ((ki.heads.length : Int) + 1)), .one (.int .i64 (ki.list.length : Int)), .row 32 (rootT ki.tree).cs] = (ki.heads ++ [((ki.heads.length : Int) + 1, (ki.list.length : Int), rootT ki.tree)]).flatMap hdC by simp [flat, Seg.cells, hdC], show ki.heads.length + 1 = (ki.heads ++ [((ki.heads.length : Int) + 1, (ki.list.length : Int), rootT ki.tree)]).length by simp]
    haveI := hv105
    refine hK1 _ _ _ (PH.le_refl _) ⟨qy_y rfl (y_ldp rfl (hr2.cell (i := 0) rfl)), ⟨⟩⟩ ?_
    refine m_p rfl rfl (fun _ _ => y_nil rfl) rfl ?_
    refine m_p rfl rfl (fun _ _ => y_fa rfl) rfl ?_
    refine m_mv0 [false] rfl rfl (by kernel_rfl) fun W1 ds1 ro1 Q1 K1 hK1 => ?_
    refine o_stv rfl rfl rfl rfl ?_
    refine hK1  _ _ (PH.le_refl _) trivial ?_
    refine m_end ?_
    refine th_n ?_
    refine k_seq ?_
    refine k_region ?_
    refine n_y rfl (y_ldp rfl (hr2.cell (i := 0) rfl)) rfl ?_
    refine n_y rfl (y_nil rfl) rfl ?_
    refine n_y rfl (y_fa rfl) rfl ?_
    refine n_y rfl (y_ld rfl rfl) rfl ?_
    refine n_y rfl (y_len rfl) rfl ?_
    refine n_y rfl (y_mv rfl) rfl ?_
    refine n_y rfl (y_sub rfl rfl (by omega)) rfl ?_
    refine n_y rfl (y_as rfl) rfl ?_
    refine n_nil ?_
    refine th_n ?_
    refine k_ret ?_
    refine sc_r ?_
    refine k_unmark ?_
    refine k_bkC bb ⟨ki.list, ki.whr, ki.tree, ki.heads ++ [((ki.heads.length : Int) + 1, (ki.list.length : Int), rootT ki.tree)]⟩ usi (.slice la ki.list.length lc) v105 mb tb ?_
    refine k_retn rfl (rs_t rfl (rs_nil)) (PH.le_trans (PH.le_trans (hBz) hB19) hB2) (by
      have e9 : applyB b k = ⟨ki.list, ki.whr, ki.tree, ki.heads ++ [((ki.heads.length : Int) + 1, (ki.list.length : Int), rootT ki.tree)]⟩ := by rw [applyB, heq]; rfl
      rw [e9]; exact ⟨usi, rfl, husi, rfl⟩)
end Go.Proofs.Ytokekdbdnonebaa
