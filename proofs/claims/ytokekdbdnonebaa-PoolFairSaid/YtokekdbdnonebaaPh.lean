/- pack: messages read. -/
import Derived.Test.YtokekdbdnonebaaPg
import Derived.Test.YtokekdbdnonebaaMe
namespace Go.Proofs.Ytokekdbdnonebaa
open Sc Go

theorem T_pack_Read (B : PH) (bv : Value) (b : List UInt8) (hb : IsB B bv b) (hn : b.length < 1099511627776) : Tri Try.prog F_pack_Read [bv] B [] fun v B' L' => L' = [] ∧ match readM b with
    | .ok m => ∃ dv iv lv, v = .tuple #[agg (mS m dv iv lv), .int .i64 0] ∧ IsM B' m dv iv lv
    | .error e => v = .tuple #[agg (mS zMsg (.slice none 0 0) (.slice none 0 0) (.slice none 0 0)), .int .i64 e] ∧ e ≠ 0 := by
  haveI := hb.one
  obtain ⟨pa, pc, rfl⟩ := hb.form
  refine tri_of fn_pack_Read rfl nt_pack_Read rfl fun W0 R => ?_
  simp only [argEnv, List.nil_append, List.cons_append]
  refine k_seq ?_
  refine k_region ?_
  refine n_op rfl (o_al rfl fun b2 => ?_)
  refine n_y rfl (y_as rfl) rfl ?_
  refine n_nil ?_
  refine th_n ?_
  refine k_scope ?_
  refine k_seq ?_
  refine k_seq ?_
  refine k_region ?_
  refine n_y rfl (y_mv rfl) rfl ?_
  refine n_y rfl (y_len rfl) rfl ?_
  refine n_y rfl (y_eq rfl rfl) rfl ?_
  refine n_nil ?_
  refine th_n ?_
  refine k_cond rfl (fun c13 => ?_) (fun c13 => ?_)
  · skip
    refine k_seq ?_
    refine k_region ?_
    refine n_y rfl (y_bd rfl rfl) rfl ?_
    refine n_op rfl (o_stv rfl rfl rfl rfl ?_)
    refine n_y rfl (y_as rfl) rfl ?_
    refine n_nil ?_
    refine th_n ?_
    refine k_ret ?_
    refine th_r ?_
    refine sc_r ?_
    refine k_retn rfl (rs_c (r_lda rfl rfl) (rs_t rfl (rs_nil))) (PH.le_refl _) (⟨rfl, by rw [readM, if_pos (by omega)]; exact ⟨rfl, by decide⟩⟩)
  · skip
    obtain ⟨qb, qo, qc, hq, hqc, hqr⟩ := hb.row (by omega)
    obtain ⟨rfl, rfl⟩ : pa = some ⟨qb, qo, none⟩ ∧ pc = qc := by simpa using hq
    refine k_skip ?_
    refine th_n ?_
    refine k_seq ?_
    refine k_seq ?_
    refine k_region ?_
    refine n_y rfl (y_mv rfl) rfl ?_
    refine n_y rfl (y_ia rfl rfl 0 rfl (by omega)) rfl ?_
    refine n_y rfl (y_ldi (i := 0) rfl hqr (by omega) (cBs_get (by omega))) rfl ?_
    refine n_y rfl (y_lt rfl rfl) rfl ?_
    refine k_dec (fun c18 => ?_) (fun c18 => ?_)
    · skip
      refine n_y rfl (y_mv rfl) rfl ?_
      refine n_no rfl rfl ?_
      refine n_no rfl rfl ?_
      refine n_no rfl rfl ?_
      refine n_no rfl rfl ?_
      refine n_y rfl (y_pt rfl rfl) rfl ?_
      refine n_nil ?_
      refine th_n ?_
      refine k_condt rfl ?_
      refine k_seq ?_
      refine k_region ?_
      refine n_y rfl (y_bd rfl rfl) rfl ?_
      refine n_op rfl (o_stv rfl rfl rfl rfl ?_)
      refine n_y rfl (y_as rfl) rfl ?_
      refine n_nil ?_
      refine th_n ?_
      refine k_ret ?_
      refine th_r ?_
      refine sc_r ?_
      refine k_retn rfl (rs_c (r_lda rfl rfl) (rs_t rfl (rs_nil))) (PH.le_refl _) (⟨rfl, by rw [readM, if_neg (by omega), if_pos (.inl (UInt8.lt_iff_toNat_lt.2 (by show (gB b 0).toNat < 1; omega)))]; exact ⟨rfl, by decide⟩⟩)
    · skip
      refine n_y rfl (y_mv rfl) rfl ?_
      refine n_y rfl (y_mv rfl) rfl ?_
      refine n_y rfl (y_ia rfl rfl 0 rfl (by omega)) rfl ?_
      refine n_y rfl (y_ldi (i := 0) rfl hqr (by omega) (cBs_get (by omega))) rfl ?_
      refine n_y rfl (y_gt rfl rfl) rfl ?_
      refine k_dec (fun c23 => ?_) (fun c23 => ?_)
      · skip
        refine n_y rfl (y_pf rfl rfl) rfl ?_
        refine n_nil ?_
        refine th_n ?_
        refine k_condt rfl ?_
        refine k_seq ?_
        refine k_region ?_
        refine n_y rfl (y_bd rfl rfl) rfl ?_
        refine n_op rfl (o_stv rfl rfl rfl rfl ?_)
        refine n_y rfl (y_as rfl) rfl ?_
        refine n_nil ?_
        refine th_n ?_
        refine k_ret ?_
        refine th_r ?_
        refine sc_r ?_
        refine k_retn rfl (rs_c (r_lda rfl rfl) (rs_t rfl (rs_nil))) (PH.le_refl _) (⟨rfl, by rw [readM, if_neg (by omega), if_pos (.inr (UInt8.lt_iff_toNat_lt.2 (by show 31 < (gB b 0).toNat; omega)))]; exact ⟨rfl, by decide⟩⟩)
      · skip
        refine n_y rfl (y_pf rfl rfl) rfl ?_
        refine n_nil ?_
        refine th_n ?_
        refine k_condf rfl ?_
        refine k_skip ?_
        refine th_n ?_
        refine k_seq ?_
        refine k_region ?_
        have hrm := readM_of (b := b) (by omega) (by omega) (by omega)
        refine n_y rfl (y_mv rfl) rfl ?_
        refine n_y rfl (y_ia rfl rfl 0 rfl (by omega)) rfl ?_
        refine n_y rfl (y_ldi (i := 0) rfl hqr (by omega) (cBs_get (by omega))) rfl ?_
        refine n_y rfl (y_cvBN rfl) rfl ?_
        refine n_y rfl (y_bd rfl rfl) rfl ?_
        refine n_op rfl (o_al rfl fun b4 => ?_)
        refine n_op rfl (o_stv rfl rfl rfl rfl ?_)
        refine k_reseg b4 (mS (kMsg ((gB b 0).toNat : Int)) (.slice none 0 0) (.slice none 0 0) (.slice none 0 0)) rfl ?_
        refine n_nil ?_
        refine th_n ?_
        refine k_seq ?_
        refine k_region ?_
        refine n_y rfl (y_mv rfl) rfl ?_
        obtain ⟨v32, hv32, ho32, y_32⟩ := y_dropB (P := Try.prog) hb 1 (by omega) (by omega)
        haveI := ho32
        refine n_y (v := v32) rfl (y_32 rfl rfl) rfl ?_
        refine n_y rfl (y_bd rfl rfl) rfl ?_
        refine n_op rfl (o_bx rfl rfl fun b34 => ?_)
        refine n_op rfl (o_al rfl fun b5 => ?_)
        refine n_op rfl (o_stv rfl rfl rfl rfl ?_)
        refine k_frz b5 fun B5 hB5 hr5 => ?_
        replace hb := hb.mono hB5
        replace hqr := hqr.mono hB5
        replace hv32 := hv32.mono hB5
        refine n_nil ?_
        refine th_n ?_
        refine k_seq ?_
        refine k_region ?_
        refine n_y rfl (y_fa rfl) rfl ?_
        refine n_y rfl (y_fa rfl) rfl ?_
        refine n_y rfl (y_fa rfl) rfl ?_
        refine n_y rfl (y_fa rfl) rfl ?_
        refine n_y rfl (y_fa rfl) rfl ?_
        refine n_y rfl (y_bd rfl rfl) rfl ?_
        refine n_op rfl (o_al rfl fun b6 => ?_)
        refine n_op rfl (o_stv rfl rfl rfl rfl ?_)
        refine k_frz b6 fun B6 hB6 hr6 => ?_
        replace hb := hb.mono hB6
        replace hqr := hqr.mono hB6
        replace hv32 := hv32.mono hB6
        replace hr5 := hr5.mono hB6
        refine n_nil ?_
        refine th_n ?_
        refine k_seq ?_
        refine k_label ?_
        refine th_n ?_
        refine k_seq ?_
        refine k_seq ?_
        refine k_region ?_
        refine n_y rfl (y_ldp rfl (hr5.cell (i := 0) rfl)) rfl ?_
        refine n_op rfl (o_call rfl (T_pack_reader_all _ b34) rfl ?_)
        rintro v42 B42 L42 hB42 ⟨b42, rfl, hc42, rfl⟩
        try conv => arg 7; dsimp only [List.nil_append, List.cons_append]
        replace hb := hb.mono hB42
        replace hqr := hqr.mono hB42
        replace hv32 := hv32.mono hB42
        replace hr5 := hr5.mono hB42
        replace hr6 := hr6.mono hB42
        refine n_nil ?_
        refine th_n ?_
        refine k_block ?_
        refine k_ownil 49 32 ?_
        refine k_ownil 29 1 ?_
        refine k_rangeG (Own0 := [bk b34 208 [.one v32, .one (.int .i64 0)]]) rfl (IterG.ofA (IA_pack_all _ b42 b34 v32 (b.drop 1) hc42 hv32 (by simp; omega))) rfl (fun s B L => ∃ m dv iv lv us, RdInv (b.drop 1) (kMsg ((gB b 0).toNat : Int)) s m ∧ IsB B dv m.data ∧ IsBs B us m.list ∧ OneC iv ∧ OneC lv ∧ L = [bk b4 54 (mS m dv iv lv), ow 49 32 iv (m).ids.length ((m).ids.flatMap ID.cs), ow 29 1 lv (m).list.length us]) (fun c O _ L => c = .exit 0 ∧ ∃ e rv m dv iv lv, e ≠ 0 ∧ readF (kMsg ((gB b 0).toNat : Int)) 0 (b.drop 1) = .error e ∧ OneC rv ∧ O = [bk b34 208 [.one rv, .one (.int .i64 e)]] ∧ L = [bk b4 54 (mS m dv iv lv)]) (fun s B1 B2 L hl ⟨m, dv, iv, lv, us, h1, h2, h3, h4⟩ => ⟨m, dv, iv, lv, us, h1, h2.mono hl, h3.mono hl, h4⟩) (fun _ _ _ _ _ _ h => h) [bk b4 54 (mS (kMsg ((gB b 0).toNat : Int)) (.slice none 0 0) (.slice none 0 0) (.slice none 0 0)), ow 49 32 (.slice none 0 0) 0 [], ow 29 1 (.slice none 0 0) 0 []] ⟨_, _, _, _, [], ⟨rfl, by simp [kMsg], by simp [kMsg], fun x hx => by cases hx⟩, isB_nil _, trivial, ⟨rfl⟩, ⟨rfl⟩, rfl⟩ (by rintro s B1 vs O s' ⟨tag, b, r, bv, rv, h1, rfl, _⟩; rfl) ?_ ?_ ?_
        · intro l s vs O s2 B1 L1 F1 F2 W0' hB1 hask hJ
          obtain ⟨tag, x, r, xv, rv, hnx, rfl, hxv, hrv, rfl, rfl⟩ := hask
          obtain ⟨m, dv, iv, lv, us, hinv, hdv, hus, hiv, hlv, rfl⟩ := hJ
          haveI := hxv.one
          haveI := hrv.one
          haveI := hdv.one
          haveI := hiv
          haveI := hlv
          obtain ⟨hnl, ht0, ht9⟩ := nextF_len hnx
          have hibd := hinv.bd
          have hidt := hinv.data
          simp only [List.length_drop] at hibd hidt
          obtain ⟨xa, xc, rfl⟩ := hxv.form
          try conv => arg 7; dsimp only [List.nil_append, List.cons_append]
          try conv => arg 4; simp only [penv]
          replace hb := hb.mono hB1
          replace hqr := hqr.mono hB1
          replace hv32 := hv32.mono hB1
          replace hr5 := hr5.mono hB1
          replace hr6 := hr6.mono hB1
          replace hc42 := hc42.mono hB1
          refine k_seq ?_
          refine k_region ?_
          refine n_y rfl (y_as rfl) rfl ?_
          refine n_nil ?_
          refine th_n ?_
          refine k_region ?_
          refine n_y rfl (y_as rfl) rfl ?_
          refine n_nil ?_
          refine th_n ?_
          refine k_sw (F1 := F1) ?_
          refine k_block ?_
          refine k_seq ?_
          refine k_seq ?_
          refine k_region ?_
          refine n_y rfl (y_mv rfl) rfl ?_
          refine n_y rfl (y_len rfl) rfl ?_
          refine n_y rfl (y_eq rfl rfl) rfl ?_
          refine n_nil ?_
          refine th_n ?_
          refine k_cond rfl (fun c47 => ?_) (fun c47 => ?_)
          · skip
            refine k_seq ?_
            refine k_region ?_
            refine n_y rfl (y_ldp rfl (hr5.cell (i := 0) rfl)) rfl ?_
            refine n_y rfl (y_nil rfl) rfl ?_
            refine n_y rfl (y_fa rfl) rfl ?_
            refine n_op rfl (o_stv rfl rfl rfl rfl ?_)
            refine n_nil ?_
            refine th_n ?_
            refine k_exit ?_
            refine th_x ?_
            refine bl_x rfl ?_
            exact k_rqx (PH.le_refl _) ⟨[bk b34 208 [.one rv, .one (.int .i64 23)]], [bk b4 54 (mS m dv iv lv)], rfl, trivial, rfl, 23, rv, m, dv, iv, lv, by decide, hinv.err hnx (by rw [stepM, if_pos (by omega)]), inferInstance, rfl, rfl⟩
          · skip
            obtain ⟨qb2, qo2, qc2, hq2, hqc2, hqr2⟩ := hxv.row (by omega)
            obtain ⟨rfl, rfl⟩ : xa = some ⟨qb2, qo2, none⟩ ∧ xc = qc2 := by simpa using hq2
            refine k_skip ?_
            refine th_n ?_
            refine k_seq ?_
            refine k_block ?_
            refine k_seq ?_
            refine k_region ?_
            refine n_y rfl (y_mv rfl) rfl ?_
            refine n_y rfl (y_lt rfl rfl) rfl ?_
            refine k_dec (fun c53 => ?_) (fun c53 => ?_)
            · skip
              refine n_y rfl (y_as rfl) rfl ?_
              refine n_nil ?_
              refine th_n ?_
              refine k_condt rfl ?_
              refine k_mix rfl [0, 1, 3, 7, 0, 0, 48, 127, 255] [(0, false), (1, false), (2, false), (3, false), (4, false), (5, false), (6, true), (7, false), (8, true)] (by kernel_rfl) ?_
              obtain ⟨j, hjt, hj5⟩ : ∃ j, tag.toNat - 1 = j ∧ j < 5 := ⟨_, rfl, by omega⟩
              have hc57 : pcell B1 b6 (0 + j) (.pointer (some ⟨b4, 1 + j, none⟩)) := by
                have : j = 0 ∨ j = 1 ∨ j = 2 ∨ j = 3 ∨ j = 4 := by omega
                rcases this with rfl | rfl | rfl | rfl | rfl
                · exact hr6.cell (i := 0) rfl
                · exact hr6.cell (i := 1) rfl
                · exact hr6.cell (i := 2) rfl
                · exact hr6.cell (i := 3) rfl
                · exact hr6.cell (i := 4) rfl
              refine m_p rfl rfl (fun _ _ => y_mv rfl) rfl ?_
              refine m_p (v := .int .u8 ((tag.toNat - 1 : Nat) : Int)) rfl rfl (fun _ _ => y_subU (q := 1) rfl rfl (by omega) (u8_lt tag)) rfl ?_
              refine m_p rfl rfl (fun _ _ => y_iaa rfl rfl j (by omega) (by omega)) rfl ?_
              refine m_y rfl rfl (y_ldp rfl (by simpa using hc57)) rfl ?_
              refine m_y rfl rfl (y_ldp rfl (hr5.cell (i := 0) rfl)) rfl ?_
              refine m_p rfl rfl (fun _ _ => y_mv rfl) rfl ?_
              refine m_mv1 [false, true] rfl rfl rfl (by kernel_rfl) fun W1 ds1 ro1 Q1 K1 hK1 => ?_
              refine o_call rfl (T_pack_reader_number _ b34 rv 0 _ x inferInstance hxv (by omega)) rfl ?_
              rintro v60 B60 L60 hB60 ⟨rfl, rfl, h60⟩
              try conv => arg 7; dsimp only [List.nil_append, List.cons_append]
              obtain ⟨e60, he60, rfl⟩ : ∃ e60 : Int, ((numBad x ∧ e60 = 23) ∨ (¬ numBad x ∧ e60 = 0)) ∧ L60 = [bk b34 208 [.one rv, .one (.int .i64 e60)]] := by
                rcases h60 with ⟨h1, rfl⟩ | ⟨h1, rfl⟩
                · exact ⟨23, .inl ⟨h1, rfl⟩, rfl⟩
                · exact ⟨0, .inr ⟨h1, rfl⟩, rfl⟩
              simp only [List.cons_append, List.nil_append]
              refine hK1 _ _ _ (hB60) ⟨qy_y rfl (y_ldp rfl (by simpa using hc57)), ⟨⟩⟩ ?_
              refine m_p rfl rfl (fun _ _ => y_nil rfl) rfl ?_
              refine m_mv0 [false] rfl rfl (by kernel_rfl) fun W1 ds1 ro1 Q1 K1 hK1 => ?_
              refine o_stnum j rfl rfl (by omega) hj5 ?_
              refine hK1  _ _ (PH.le_refl _) trivial ?_
              refine m_end ?_
              refine bl_n ?_
              refine th_n ?_
              refine k_seq ?_
              refine k_region ?_
              refine n_y rfl (y_ldp rfl (hr5.cell (i := 0) rfl)) rfl ?_
              refine n_y rfl (y_nil rfl) rfl ?_
              refine n_y rfl (y_fa rfl) rfl ?_
              refine n_y rfl (y_ld rfl rfl) rfl ?_
              refine n_y rfl (y_ne rfl rfl) rfl ?_
              refine n_nil ?_
              refine th_n ?_
              refine k_cond rfl (fun c151 => ?_) (fun c151 => ?_)
              · skip
                refine k_exit ?_
                refine bl_x rfl ?_
                exact k_rqx (PH.le_refl _) ⟨[bk b34 208 [.one rv, .one (.int .i64 e60)]], [bk b4 54 (mS (setNum m j (numR x)) dv iv lv)], rfl, trivial, rfl, e60, rv, (setNum m j (numR x)), dv, iv, lv, c151, hinv.err hnx (by
                  rcases he60 with ⟨h1, rfl⟩ | ⟨h1, rfl⟩
                  · rw [step_num (by omega) (by omega), if_pos h1]
                  · exact absurd rfl c151), inferInstance, rfl, rfl⟩
              · skip
                refine k_skip ?_
                refine bl_n ?_
                obtain ⟨hs1, hs2, hs3, hs4, hs5⟩ := setNum_same m j (numR x)
                have hg : ¬ numBad x := by
                  rcases he60 with ⟨h1, rfl⟩ | ⟨h1, rfl⟩
                  · exact absurd (by decide) c151
                  · exact h1
                obtain rfl : e60 = 0 := Decidable.not_not.1 c151
                refine k_rqn (PH.le_refl _) ⟨[bk b4 54 (mS (setNum m j (numR x)) dv iv lv), ow 49 32 iv m.ids.length (m.ids.flatMap ID.cs), ow 29 1 lv m.list.length us], rfl, setNum m j (numR x), dv, iv, lv, us, hinv.step hnx (by rw [step_num (by omega) (by omega), if_neg hg, hjt]) (by rw [hs1, hs2]; omega) (by rw [hs3]; omega) (by rw [hs2]; exact fun z hz => .inl hz), by rw [hs3]; exact hdv, by rw [hs2]; exact hus, hiv, hlv, by rw [hs1, hs2]⟩
            · skip
              refine n_y rfl (y_as rfl) rfl ?_
              refine n_nil ?_
              refine th_n ?_
              refine k_condf rfl ?_
              refine k_seq ?_
              refine k_region ?_
              refine n_y rfl (y_mv rfl) rfl ?_
              refine n_y rfl (y_eq rfl rfl) rfl ?_
              refine k_dec (fun c64 => ?_) (fun c64 => ?_)
              · skip
                refine n_y rfl (y_as rfl) rfl ?_
                refine n_nil ?_
                refine th_n ?_
                refine k_condt rfl ?_
                refine k_seq ?_
                refine k_seq ?_
                refine k_region ?_
                refine n_y rfl (y_mv rfl) rfl ?_
                refine n_y rfl (y_len rfl) rfl ?_
                refine n_y rfl (y_ne rfl rfl) rfl ?_
                refine k_dec (fun c67 => ?_) (fun c67 => ?_)
                · skip
                  refine n_y rfl (y_mv rfl) rfl ?_
                  refine n_no rfl rfl ?_
                  refine n_no rfl rfl ?_
                  refine n_no rfl rfl ?_
                  refine n_no rfl rfl ?_
                  refine n_no rfl rfl ?_
                  refine n_y rfl (y_pt rfl rfl) rfl ?_
                  refine n_nil ?_
                  refine th_n ?_
                  refine k_condt rfl ?_
                  refine k_seq ?_
                  refine k_region ?_
                  refine n_y rfl (y_ldp rfl (hr5.cell (i := 0) rfl)) rfl ?_
                  refine n_y rfl (y_nil rfl) rfl ?_
                  refine n_y rfl (y_fa rfl) rfl ?_
                  refine n_op rfl (o_stv rfl rfl rfl rfl ?_)
                  refine n_nil ?_
                  refine th_n ?_
                  refine k_exit ?_
                  refine th_x ?_
                  refine bl_x rfl ?_
                  refine th_x ?_
                  refine bl_x rfl ?_
                  exact k_rqx (PH.le_refl _) ⟨[bk b34 208 [.one rv, .one (.int .i64 23)]], [bk b4 54 (mS m dv iv lv)], rfl, trivial, rfl, 23, rv, m, dv, iv, lv, by decide, hinv.err hnx (by rw [step_6 (by omega) (by omega), if_pos (by first | exact .inl (by omega) | exact .inr c73)]), inferInstance, rfl, rfl⟩
                · skip
                  refine n_y rfl (y_mv rfl) rfl ?_
                  refine n_y rfl (y_mv rfl) rfl ?_
                  have hidr : prow B1 qb2 qo2 (idOf x).cs := by rw [ID.cs, idOf_bs (by omega)]; exact hqr2
                  refine n_y rfl (y_sap rfl (by omega)) rfl ?_
                  refine n_y rfl (y_ldpa (s := [.row 32 (idOf x).cs]) rfl (by simpa [flat, Seg.cells] using hidr) (by simp [flat, Seg.cells, ID.cs_length])) rfl ?_
                  refine n_y rfl (y_bd rfl rfl) rfl ?_
                  refine n_y rfl (y_eqID rfl rfl) rfl ?_
                  refine k_dec (fun c73 => ?_) (fun c73 => ?_)
                  · skip
                    refine n_y rfl (y_pf rfl rfl) rfl ?_
                    refine n_nil ?_
                    refine th_n ?_
                    refine k_condt rfl ?_
                    refine k_seq ?_
                    refine k_region ?_
                    refine n_y rfl (y_ldp rfl (hr5.cell (i := 0) rfl)) rfl ?_
                    refine n_y rfl (y_nil rfl) rfl ?_
                    refine n_y rfl (y_fa rfl) rfl ?_
                    refine n_op rfl (o_stv rfl rfl rfl rfl ?_)
                    refine n_nil ?_
                    refine th_n ?_
                    refine k_exit ?_
                    refine th_x ?_
                    refine bl_x rfl ?_
                    refine th_x ?_
                    refine bl_x rfl ?_
                    exact k_rqx (PH.le_refl _) ⟨[bk b34 208 [.one rv, .one (.int .i64 23)]], [bk b4 54 (mS m dv iv lv)], rfl, trivial, rfl, 23, rv, m, dv, iv, lv, by decide, hinv.err hnx (by rw [step_6 (by omega) (by omega), if_pos (by first | exact .inl (by omega) | exact .inr c73)]), inferInstance, rfl, rfl⟩
                  · skip
                    refine n_y rfl (y_pf rfl rfl) rfl ?_
                    refine n_nil ?_
                    refine th_n ?_
                    refine k_condf rfl ?_
                    refine k_skip ?_
                    refine th_n ?_
                    refine k_region ?_
                    refine n_y rfl (y_mv rfl) rfl ?_
                    refine n_y rfl (y_sap rfl (by omega)) rfl ?_
                    refine n_y rfl (y_ldpa (s := [.row 32 (idOf x).cs]) rfl (by simpa [flat, Seg.cells] using hidr) (by simp [flat, Seg.cells, ID.cs_length])) rfl ?_
                    refine n_y rfl (y_fa rfl) rfl ?_
                    refine n_op rfl (o_stv rfl rfl rfl rfl ?_)
                    refine n_nil ?_
                    refine bl_n ?_
                    refine th_n ?_
                    refine k_seq ?_
                    refine k_region ?_
                    refine n_y rfl (y_ldp rfl (hr5.cell (i := 0) rfl)) rfl ?_
                    refine n_y rfl (y_nil rfl) rfl ?_
                    refine n_y rfl (y_fa rfl) rfl ?_
                    refine n_y rfl (y_ld rfl rfl) rfl ?_
                    refine n_y rfl (y_ne rfl rfl) rfl ?_
                    refine n_nil ?_
                    refine th_n ?_
                    refine k_cond rfl (fun c151 => ?_) (fun c151 => ?_)
                    · skip
                      exact absurd c151 (by decide)
                    · skip
                      refine k_skip ?_
                      refine bl_n ?_
                      refine k_rqn (PH.le_refl _) ⟨[bk b4 54 (mS { m with id := idOf x } dv iv lv), ow 49 32 iv (m).ids.length ((m).ids.flatMap ID.cs), ow 29 1 lv (m).list.length us], rfl, { m with id := idOf x }, dv, iv, lv, us, hinv.step hnx (by rw [step_6 (by omega) (by omega), if_neg (fun h => by rcases h with h | h; exact h (by omega); exact c73 h)]) (by dsimp only; omega) (by dsimp only; omega) (fun z hz => .inl hz), hdv, hus, hiv, hlv, rfl⟩
              · skip
                refine n_y rfl (y_as rfl) rfl ?_
                refine n_nil ?_
                refine th_n ?_
                refine k_condf rfl ?_
                refine k_seq ?_
                refine k_region ?_
                refine n_y rfl (y_mv rfl) rfl ?_
                refine n_y rfl (y_eq rfl rfl) rfl ?_
                refine k_dec (fun c84 => ?_) (fun c84 => ?_)
                · skip
                  refine n_y rfl (y_as rfl) rfl ?_
                  refine n_nil ?_
                  refine th_n ?_
                  refine k_condt rfl ?_
                  refine k_region ?_
                  refine n_op rfl (o_bs rfl rfl rfl rfl rfl rfl fun b85 => ?_)
                  refine k_bkow (sz := 1) b85 0 rfl ?_
                  refine n_y rfl (y_mv rfl) rfl ?_
                  refine n_op rfl (o_app rfl rfl rfl hxv.src rfl rfl (by omega) rfl fun v87 hv87 => ?_)
                  refine k_frzw (v := v87) fun B87 hB87 hd87 => ?_
                  replace hd87 : IsB B87 v87 x := by simpa [IsB, flat] using hd87
                  haveI := hv87
                  replace hb := hb.mono hB87
                  replace hqr := hqr.mono hB87
                  replace hv32 := hv32.mono hB87
                  replace hr5 := hr5.mono hB87
                  replace hr6 := hr6.mono hB87
                  replace hc42 := hc42.mono hB87
                  replace hxv := hxv.mono hB87
                  replace hdv := hdv.mono hB87
                  replace hus := hus.mono hB87
                  replace hqr2 := hqr2.mono hB87
                  refine n_y rfl (y_fa rfl) rfl ?_
                  refine n_op rfl (o_stv rfl rfl rfl rfl ?_)
                  refine n_nil ?_
                  refine bl_n ?_
                  refine th_n ?_
                  refine k_seq ?_
                  refine k_region ?_
                  refine n_y rfl (y_ldp rfl (hr5.cell (i := 0) rfl)) rfl ?_
                  refine n_y rfl (y_nil rfl) rfl ?_
                  refine n_y rfl (y_fa rfl) rfl ?_
                  refine n_y rfl (y_ld rfl rfl) rfl ?_
                  refine n_y rfl (y_ne rfl rfl) rfl ?_
                  refine n_nil ?_
                  refine th_n ?_
                  refine k_cond rfl (fun c151 => ?_) (fun c151 => ?_)
                  · skip
                    exact absurd c151 (by decide)
                  · skip
                    refine k_skip ?_
                    refine bl_n ?_
                    refine k_rqn (hB87) ⟨[bk b4 54 (mS { m with data := x } v87 iv lv), ow 49 32 iv (m).ids.length ((m).ids.flatMap ID.cs), ow 29 1 lv (m).list.length us], rfl, { m with data := x }, v87, iv, lv, us, hinv.step hnx (by rw [step_7 (by omega) (by omega)]) (by dsimp only; omega) (by dsimp only; omega) (fun z hz => .inl hz), hd87, hus, hiv, hlv, rfl⟩
                · skip
                  refine n_y rfl (y_as rfl) rfl ?_
                  refine n_nil ?_
                  refine th_n ?_
                  refine k_condf rfl ?_
                  refine k_seq ?_
                  refine k_region ?_
                  refine n_y rfl (y_mv rfl) rfl ?_
                  refine n_y rfl (y_eq rfl rfl) rfl ?_
                  refine k_dec (fun c91 => ?_) (fun c91 => ?_)
                  · skip
                    refine n_y rfl (y_as rfl) rfl ?_
                    refine n_nil ?_
                    refine th_n ?_
                    refine k_condt rfl ?_
                    refine k_seq ?_
                    refine k_seq ?_
                    refine k_region ?_
                    refine n_y rfl (y_mv rfl) rfl ?_
                    refine n_y rfl (y_len rfl) rfl ?_
                    refine n_y rfl (y_rem rfl rfl (by omega) (by omega)) rfl ?_
                    refine n_y rfl (y_ne rfl rfl) rfl ?_
                    refine k_dec (fun c95 => ?_) (fun c95 => ?_)
                    · skip
                      refine n_nil ?_
                      refine th_n ?_
                      refine k_condt rfl ?_
                      refine k_seq ?_
                      refine k_region ?_
                      refine n_y rfl (y_ldp rfl (hr5.cell (i := 0) rfl)) rfl ?_
                      refine n_y rfl (y_nil rfl) rfl ?_
                      refine n_y rfl (y_fa rfl) rfl ?_
                      refine n_op rfl (o_stv rfl rfl rfl rfl ?_)
                      refine n_nil ?_
                      refine th_n ?_
                      refine k_exit ?_
                      refine th_x ?_
                      refine bl_x rfl ?_
                      refine th_x ?_
                      refine bl_x rfl ?_
                      exact k_rqx (PH.le_refl _) ⟨[bk b34 208 [.one rv, .one (.int .i64 23)]], [bk b4 54 (mS m dv iv lv)], rfl, trivial, rfl, 23, rv, m, dv, iv, lv, by decide, hinv.err hnx (by rw [step_8 (by omega) (by omega), if_pos (by omega)]), inferInstance, rfl, rfl⟩
                    · skip
                      refine n_nil ?_
                      refine th_n ?_
                      refine k_condf rfl ?_
                      refine k_skip ?_
                      refine th_n ?_
                      refine k_block ?_
                      refine k_loop2 (α := List UInt8 × Value × Value × List ID) [8, 99, 100, 101, 102, 103, 104, 105, 106, 107, 108, 109, 110, 111, 112] (fun z9 => IsB B1 z9.2.1 z9.1 ∧ OneC z9.2.1 ∧ OneC z9.2.2.1 ∧ m.ids ++ chunks x = z9.2.2.2 ++ chunks z9.1 ∧ z9.1.length % 32 = 0 ∧ 32 * z9.2.2.2.length + z9.1.length = 32 * m.ids.length + x.length) (fun z9 => [(8, z9.2.1)]) (fun z9 => B1) (fun z9 => [bk b4 54 (mS m dv z9.2.2.1 lv), ow 49 32 z9.2.2.1 z9.2.2.2.length (z9.2.2.2.flatMap ID.cs)]) (fun z9 => z9.1.length) (x, _, iv, m.ids) ⟨hxv, inferInstance, hiv, rfl, by dsimp only; omega, rfl⟩ rfl ⟨rfl, trivial⟩ _ rfl ?_
                      rintro ⟨y, yv, iv', tot⟩ ⟨hyv, hy1, hiv', hch, hym, hyl⟩
                      dsimp only at hyv hy1 hiv' hch hym hyl
                      haveI := hy1
                      haveI := hiv'
                      obtain ⟨ya, yc, rfl⟩ := hyv.form
                      try conv => arg 7; dsimp only [List.nil_append, List.cons_append]
                      try conv => arg 6; dsimp only
                      try conv => arg 4; dsimp only [List.nil_append, List.cons_append]
                      refine k_seq ?_
                      refine k_seq ?_
                      refine k_region ?_
                      refine n_y rfl (y_mv rfl) rfl ?_
                      refine n_y rfl (y_len rfl) rfl ?_
                      refine n_y rfl (y_gt rfl rfl) rfl ?_
                      refine n_nil ?_
                      refine th_n ?_
                      refine k_cond rfl (fun c101 => ?_) (fun c101 => ?_)
                      · skip
                        obtain ⟨q1, q2, q3, hyt, hyr, y_107⟩ := y_takeB (P := Try.prog) hyv 32 (by omega) (by omega)
                        have hidr : prow B1 q1 q2 (idOf (y.take 32)).cs := by rw [ID.cs, idOf_bs (by simp; omega)]; exact hyr
                        obtain ⟨v103, hv103, ho103, y_103⟩ := y_dropB (P := Try.prog) hyv 32 (by omega) (by omega)
                        haveI := ho103
                        refine k_skip ?_
                        refine th_n ?_
                        refine k_seq ?_
                        refine k_block ?_
                        refine k_mix rfl [0, 1, 0, 4, 12, 28, 60, 127, 255, 511] [(0, false), (1, false), (2, false), (3, false), (4, false), (5, false), (6, true), (7, true), (8, false), (9, true)] (by kernel_rfl) ?_
                        refine m_p rfl rfl (fun _ _ => y_fa rfl) rfl ?_
                        refine m_y rfl rfl (y_ld rfl rfl) rfl ?_
                        refine m_p rfl rfl (fun _ _ => y_mv rfl) rfl ?_
                        refine m_p rfl rfl (fun _ _ => y_107 rfl rfl) rfl ?_
                        refine m_p rfl rfl (fun _ _ => y_sap rfl (by omega)) rfl ?_
                        refine m_y rfl rfl (y_ldpa (s := [.row 32 (idOf (y.take 32)).cs]) rfl (by simpa [flat, Seg.cells] using hidr) (by simp [flat, Seg.cells, ID.cs_length])) rfl ?_
                        refine m_mv1 [false, true] rfl rfl rfl (by kernel_rfl) fun W1 ds1 ro1 Q1 K1 hK1 => ?_
                        refine o_bs rfl rfl rfl rfl rfl rfl fun b110 => ?_
                        refine hK1 _ _ _ (PH.le_refl _) ⟨qy_y rfl (y_ld rfl rfl), ⟨⟩⟩ ?_
                        refine m_mv1 [false] rfl rfl rfl (by kernel_rfl) fun W1 ds1 ro1 Q1 K1 hK1 => ?_
                        refine o_app rfl rfl rfl (src_bk (m := 1) rfl rfl) rfl rfl (by omega) rfl fun v111 hv111 => ?_
                        rw [show tot.flatMap ID.cs ++ flat [.row 32 (idOf (y.take 32)).cs] = (tot ++ [idOf (y.take 32)]).flatMap ID.cs by simp [flat, Seg.cells], show tot.length + 1 = (tot ++ [idOf (y.take 32)]).length by simp]
                        haveI := hv111
                        refine hK1 _ _ _ (PH.le_refl _) trivial ?_
                        refine m_p rfl rfl (fun _ _ => y_fa rfl) rfl ?_
                        refine m_mv0 [] rfl rfl (by kernel_rfl) fun W1 ds1 ro1 Q1 K1 hK1 => ?_
                        refine o_stv rfl rfl rfl rfl ?_
                        refine hK1  _ _ (PH.le_refl _) trivial ?_
                        refine m_end ?_
                        refine bl_n ?_
                        refine th_n ?_
                        refine k_region ?_
                        refine n_y rfl (y_mv rfl) rfl ?_
                        refine n_y rfl (y_103 rfl rfl) rfl ?_
                        refine n_y rfl (y_as rfl) rfl ?_
                        refine n_nil ?_
                        refine th_n ?_
                        exact k_again2 (y.drop 32, v103, v111, tot ++ [idOf (y.take 32)]) ⟨⟨hv103, ho103, hv111, by dsimp only; rw [hch, chunks_cons (by omega)]; simp, by simp; omega, by simp; omega⟩, by simp; omega⟩ rfl ⟨rfl, trivial⟩ rfl
                      · skip
                        rw [chunks_nil (b := y) (by omega), List.append_nil] at hch
                        subst hch
                        refine k_exit ?_
                        refine th_x ?_
                        refine th_x ?_
                        refine bl_s ?_
                        refine bl_n ?_
                        refine th_n ?_
                        refine k_seq ?_
                        refine k_region ?_
                        refine n_y rfl (y_ldp rfl (hr5.cell (i := 0) rfl)) rfl ?_
                        refine n_y rfl (y_nil rfl) rfl ?_
                        refine n_y rfl (y_fa rfl) rfl ?_
                        refine n_y rfl (y_ld rfl rfl) rfl ?_
                        refine n_y rfl (y_ne rfl rfl) rfl ?_
                        refine n_nil ?_
                        refine th_n ?_
                        refine k_cond rfl (fun c151 => ?_) (fun c151 => ?_)
                        · skip
                          exact absurd c151 (by decide)
                        · skip
                          refine k_skip ?_
                          refine bl_n ?_
                          refine k_rqn (PH.le_refl _) ⟨[bk b4 54 (mS { m with ids := m.ids ++ chunks x } dv iv' lv), ow 49 32 iv' (m.ids ++ chunks x).length ((m.ids ++ chunks x).flatMap ID.cs), ow 29 1 lv m.list.length us], rfl, { m with ids := m.ids ++ chunks x }, dv, iv', lv, us, hinv.step hnx (by rw [step_8 (by omega) (by omega), if_neg (by omega)]) (by have := chunks_length x; simp only [List.length_append]; omega) (by dsimp only; omega) (fun z hz => .inl hz), hdv, hus, inferInstance, hlv, rfl⟩
                  · skip
                    refine n_y rfl (y_as rfl) rfl ?_
                    refine n_nil ?_
                    refine th_n ?_
                    refine k_condf rfl ?_
                    refine k_seq ?_
                    refine k_region ?_
                    refine n_y rfl (y_mv rfl) rfl ?_
                    refine n_y rfl (y_eq rfl rfl) rfl ?_
                    refine n_y rfl (y_as rfl) rfl ?_
                    refine n_nil ?_
                    refine th_n ?_
                    refine k_cond rfl (fun c113 => ?_) (fun c113 => ?_)
                    · skip
                      refine k_seq ?_
                      refine k_region ?_
                      refine n_y rfl (y_mv rfl) rfl ?_
                      refine n_y rfl (y_bd rfl rfl) rfl ?_
                      refine n_op rfl (o_bx rfl rfl fun b118 => ?_)
                      refine n_y rfl (y_as rfl) rfl ?_
                      refine n_nil ?_
                      refine th_n ?_
                      refine k_block ?_
                      refine k_loop2 (α := List UInt8 × Value × Value × List (List UInt8) × List Value × PH) [10, 119, 120, 121, 122, 123, 124, 125, 126, 127, 128, 129, 130, 131, 132, 133, 134, 135, 136, 137, 138, 139, 140, 141, 142, 143, 144, 145, 146] (fun z9 => IsB z9.2.2.2.2.2 z9.2.1 z9.1 ∧ OneC z9.2.1 ∧ OneC z9.2.2.1 ∧ (lists x).map (m.list ++ ·) = (lists z9.1).map (z9.2.2.2.1 ++ ·) ∧ 3 * z9.2.2.2.1.length + z9.1.length ≤ 3 * m.list.length + x.length ∧ IsBs z9.2.2.2.2.2 z9.2.2.2.2.1 z9.2.2.2.1 ∧ B1.le z9.2.2.2.2.2) (fun z9 => []) (fun z9 => z9.2.2.2.2.2) (fun z9 => [bk b118 208 [.one z9.2.1, .one (.int .i64 0)], bk b4 54 (mS m dv iv z9.2.2.1), ow 29 1 z9.2.2.1 z9.2.2.2.1.length z9.2.2.2.2.1]) (fun z9 => z9.1.length) (x, _, lv, m.list, us, _) ⟨hxv, inferInstance, hlv, rfl, Nat.le_refl _, hus, PH.le_refl _⟩ rfl trivial _ rfl ?_
                      rintro ⟨y, yv, lv', tot, us', Bk⟩ ⟨hyv, hy1, hlv', hls, hyl, hus', hBk⟩
                      dsimp only at hyv hy1 hlv' hls hyl hus' hBk
                      haveI := hy1
                      haveI := hlv'
                      obtain ⟨ya, yc, rfl⟩ := hyv.form
                      try conv => arg 7; dsimp only [List.nil_append, List.cons_append]
                      try conv => arg 6; dsimp only
                      try conv => arg 4; dsimp only [List.nil_append, List.cons_append]
                      replace hb := hb.mono hBk
                      replace hqr := hqr.mono hBk
                      replace hv32 := hv32.mono hBk
                      replace hr5 := hr5.mono hBk
                      replace hr6 := hr6.mono hBk
                      replace hc42 := hc42.mono hBk
                      replace hxv := hxv.mono hBk
                      replace hdv := hdv.mono hBk
                      replace hus := hus.mono hBk
                      replace hqr2 := hqr2.mono hBk
                      refine k_seq ?_
                      refine k_seq ?_
                      refine k_region ?_
                      refine n_y rfl (y_mv rfl) rfl ?_
                      refine n_y rfl (y_nil rfl) rfl ?_
                      refine n_y rfl (y_fa rfl) rfl ?_
                      refine n_y rfl (y_ld rfl rfl) rfl ?_
                      refine n_y rfl (y_len rfl) rfl ?_
                      refine n_y rfl (y_gt rfl rfl) rfl ?_
                      refine n_nil ?_
                      refine th_n ?_
                      refine k_cond rfl (fun c124 => ?_) (fun c124 => ?_)
                      · skip
                        refine k_skip ?_
                        refine th_n ?_
                        refine k_block ?_
                        refine k_seq ?_
                        refine k_region ?_
                        refine n_y rfl (y_mv rfl) rfl ?_
                        refine n_op rfl (o_call rfl (T_pack_reader_run _ b118 _ y hyv (by omega)) rfl ?_)
                        rintro v126 B126 L126 hB126 ⟨rfl, h126⟩
                        try conv => arg 7; dsimp only [List.nil_append, List.cons_append]
                        rcases runR_cases y with hR | ⟨z, r', hR⟩ <;> rw [hR] at h126 <;> dsimp only at h126
                        · obtain ⟨rfl, rfl⟩ := h126
                          have hxn : lists x = none := by
                            rw [lists_none (rest := y) (by omega) hR] at hls
                            cases hx' : lists x with
                            | none => rfl
                            | some l0 => rw [hx'] at hls; simp at hls
                          try conv => arg 7; dsimp only [List.nil_append, List.cons_append]
                          refine n_y rfl (y_as rfl) rfl ?_
                          refine n_nil ?_
                          refine th_n ?_
                          refine k_seq ?_
                          refine k_seq ?_
                          refine k_region ?_
                          refine n_y rfl (y_mv rfl) rfl ?_
                          refine n_y rfl (y_nil rfl) rfl ?_
                          refine n_y rfl (y_fa rfl) rfl ?_
                          refine n_y rfl (y_ld rfl rfl) rfl ?_
                          refine n_y rfl (y_ne rfl rfl) rfl ?_
                          rw [show decide ((20 : Int) ≠ 0) = true from rfl]
                          refine n_nil ?_
                          refine th_n ?_
                          refine k_condt rfl ?_
                          refine k_seq ?_
                          refine k_mix rfl [0, 0, 2, 6, 14, 31, 63, 127] [(0, false), (1, false), (2, false), (3, false), (4, false), (5, false), (6, false), (7, true)] (by kernel_rfl) ?_
                          refine m_y rfl rfl (y_ldp rfl (hr5.cell (i := 0) rfl)) rfl ?_
                          refine m_p rfl rfl (fun _ _ => y_mv rfl) rfl ?_
                          refine m_p rfl rfl (fun _ _ => y_nil rfl) rfl ?_
                          refine m_p rfl rfl (fun _ _ => y_fa rfl) rfl ?_
                          refine m_y rfl rfl (y_ld rfl rfl) rfl ?_
                          refine m_p rfl rfl (fun _ _ => y_nil rfl) rfl ?_
                          refine m_p rfl rfl (fun _ _ => y_fa rfl) rfl ?_
                          refine m_mv0 [false, false] rfl rfl (by kernel_rfl) fun W1 ds1 ro1 Q1 K1 hK1 => ?_
                          refine o_stv rfl rfl rfl rfl ?_
                          refine hK1  _ _ (PH.le_refl _) trivial ?_
                          refine m_end ?_
                          refine th_n ?_
                          refine k_exit ?_
                          refine th_x ?_
                          refine bl_x rfl ?_
                          refine th_x ?_
                          refine bl_x rfl ?_
                          refine bl_x rfl ?_
                          refine th_x ?_
                          refine bl_x rfl ?_
                          exact k_rqx (hBk) ⟨[bk b34 208 [.one rv, .one (.int .i64 20)]], [bk b4 54 (mS m dv iv lv')], rfl, trivial, rfl, 20, rv, m, dv, iv, lv', by decide, hinv.err hnx (by rw [step_9 (by omega) (by omega), hxn]), inferInstance, rfl, rfl⟩
                        · obtain ⟨hzv, yv', hyv', rfl⟩ := h126
                          haveI := hzv.one
                          haveI := hyv'.one
                          have hzl := runR_len hR
                          try conv => arg 7; dsimp only [List.nil_append, List.cons_append]
                          refine n_y rfl (y_as rfl) rfl ?_
                          refine n_nil ?_
                          refine th_n ?_
                          refine k_seq ?_
                          refine k_seq ?_
                          refine k_region ?_
                          refine n_y rfl (y_mv rfl) rfl ?_
                          refine n_y rfl (y_nil rfl) rfl ?_
                          refine n_y rfl (y_fa rfl) rfl ?_
                          refine n_y rfl (y_ld rfl rfl) rfl ?_
                          refine n_y rfl (y_ne rfl rfl) rfl ?_
                          rw [show decide ((0 : Int) ≠ 0) = false from rfl]
                          refine n_nil ?_
                          refine th_n ?_
                          refine k_condf rfl ?_
                          refine k_skip ?_
                          refine th_n ?_
                          refine k_mix rfl [0, 1, 0, 0, 12, 28, 63, 127, 255] [(0, false), (1, false), (3, false), (2, true), (4, true), (5, true), (6, true), (7, false), (8, true)] (by kernel_rfl) ?_
                          refine m_p rfl rfl (fun _ _ => y_fa rfl) rfl ?_
                          refine m_y rfl rfl (y_ld rfl rfl) rfl ?_
                          refine m_p rfl rfl (fun _ _ => y_mv rfl) rfl ?_
                          refine m_mv1 [true] rfl rfl rfl (by kernel_rfl) fun W1 ds1 ro1 Q1 K1 hK1 => ?_
                          refine o_bs rfl rfl rfl rfl rfl rfl fun b141 => ?_
                          refine k_bkow (sz := 1) b141 0 rfl ?_
                          refine hK1 _ _ _ (PH.le_refl _) ⟨qy_y rfl (y_ld rfl rfl), ⟨⟩⟩ ?_
                          refine m_mv1 [true] rfl rfl rfl (by kernel_rfl) fun W1 ds1 ro1 Q1 K1 hK1 => ?_
                          refine o_app rfl rfl rfl hzv.src rfl rfl (by omega) rfl fun v143 hv143 => ?_
                          refine k_frzw (v := v143) fun B143 hB143 hr143 => ?_
                          replace hr143 : IsB B143 v143 z := by simpa [IsB, flat] using hr143
                          haveI := hv143
                          replace hb := hb.mono hB143
                          replace hqr := hqr.mono hB143
                          replace hv32 := hv32.mono hB143
                          replace hr5 := hr5.mono hB143
                          replace hr6 := hr6.mono hB143
                          replace hc42 := hc42.mono hB143
                          replace hxv := hxv.mono hB143
                          replace hdv := hdv.mono hB143
                          replace hus := hus.mono hB143
                          replace hqr2 := hqr2.mono hB143
                          replace hyv := hyv.mono hB143
                          replace hus' := hus'.mono hB143
                          refine hK1 _ _ _ (hB143) ⟨qy_y rfl (y_ld rfl rfl), ⟨⟩⟩ ?_
                          refine m_mv1 [true] rfl rfl rfl (by kernel_rfl) fun W1 ds1 ro1 Q1 K1 hK1 => ?_
                          refine o_bs rfl rfl rfl rfl rfl rfl fun b144 => ?_
                          refine hK1 _ _ _ (PH.le_refl _) ⟨qy_y rfl (y_ld rfl rfl), ⟨⟩⟩ ?_
                          refine m_mv1 [false] rfl rfl rfl (by kernel_rfl) fun W1 ds1 ro1 Q1 K1 hK1 => ?_
                          refine o_app rfl rfl rfl (src_bk (m := 1) rfl rfl) rfl rfl (by omega) rfl fun v145 hv145 => ?_
                          rw [show us' ++ flat [.one v143] = us' ++ [v143] from rfl, show tot.length + 1 = (tot ++ [z]).length by simp]
                          haveI := hv145
                          refine hK1 _ _ _ (PH.le_refl _) trivial ?_
                          refine m_p rfl rfl (fun _ _ => y_fa rfl) rfl ?_
                          refine m_mv0 [] rfl rfl (by kernel_rfl) fun W1 ds1 ro1 Q1 K1 hK1 => ?_
                          refine o_stv rfl rfl rfl rfl ?_
                          refine hK1  _ _ (PH.le_refl _) trivial ?_
                          refine m_end ?_
                          refine bl_n ?_
                          refine th_n ?_
                          exact k_again2 (r', yv', v145, tot ++ [z], us' ++ [v143], B143) ⟨⟨hyv'.mono hB143, inferInstance, hv145, by dsimp only; rw [hls, lists_some (by omega) hR]; cases lists r' <;> simp, by simp; omega, hus'.snoc hr143, PH.le_trans hBk hB143⟩, by dsimp only; omega⟩ rfl trivial rfl
                      · skip
                        obtain ⟨l0, hxs, hl0⟩ : ∃ l0, lists x = some l0 ∧ m.list ++ l0 = tot := by
                          rw [lists_nil (rest := y) (by omega)] at hls
                          cases hx' : lists x with
                          | none => rw [hx'] at hls; simp at hls
                          | some l0 => rw [hx'] at hls; simp at hls; exact ⟨l0, rfl, hls⟩
                        subst hl0
                        refine k_exit ?_
                        refine th_x ?_
                        refine th_x ?_
                        refine bl_s ?_
                        refine bl_n ?_
                        refine th_n ?_
                        refine k_seq ?_
                        refine k_region ?_
                        refine n_y rfl (y_ldp rfl (hr5.cell (i := 0) rfl)) rfl ?_
                        refine n_y rfl (y_nil rfl) rfl ?_
                        refine n_y rfl (y_fa rfl) rfl ?_
                        refine n_y rfl (y_ld rfl rfl) rfl ?_
                        refine n_y rfl (y_ne rfl rfl) rfl ?_
                        refine n_nil ?_
                        refine th_n ?_
                        refine k_cond rfl (fun c151 => ?_) (fun c151 => ?_)
                        · skip
                          exact absurd c151 (by decide)
                        · skip
                          refine k_skip ?_
                          refine bl_n ?_
                          refine k_rqn (hBk) ⟨[bk b4 54 (mS { m with list := m.list ++ l0 } dv iv lv'), ow 49 32 iv m.ids.length (m.ids.flatMap ID.cs), ow 29 1 lv' (m.list ++ l0).length us'], rfl, { m with list := m.list ++ l0 }, dv, iv, lv', us', hinv.step hnx (by rw [step_9 (by omega) (by omega), hxs]) (by have := (lists_length hxs).1; simp only [List.length_append]; omega) (by dsimp only; omega) (fun z hz => by
                            rcases List.mem_append.1 hz with h | h
                            · exact .inl h
                            · exact .inr ((lists_length hxs).2 z h)), hdv, hus', hiv, inferInstance, rfl⟩
                    · skip
                      omega
        · intro D s O B2 L2 hB2 hfin hJ2
          obtain ⟨m, dv, iv, lv, us, hinv, hdv, hus, hiv, hlv, rfl⟩ := hJ2
          obtain ⟨rv, e, hrv1, rfl, hfe⟩ := hfin
          haveI := hdv.one
          haveI := hiv
          haveI := hlv
          haveI := hrv1
          try conv => arg 7; dsimp only [List.nil_append, List.cons_append]
          replace hb := hb.mono hB2
          replace hqr := hqr.mono hB2
          replace hv32 := hv32.mono hB2
          replace hr5 := hr5.mono hB2
          replace hr6 := hr6.mono hB2
          replace hc42 := hc42.mono hB2
          refine bl_n ?_
          refine th_n ?_
          refine k_seq ?_
          refine k_seq ?_
          refine k_region ?_
          refine n_y rfl (y_ldp rfl (hr5.cell (i := 0) rfl)) rfl ?_
          refine n_y rfl (y_nil rfl) rfl ?_
          refine n_y rfl (y_fa rfl) rfl ?_
          refine n_y rfl (y_ld rfl rfl) rfl ?_
          refine n_y rfl (y_eq rfl rfl) rfl ?_
          refine n_nil ?_
          refine th_n ?_
          refine k_cond rfl (fun c156 => ?_) (fun c156 => ?_)
          · skip
            have hdn : nextF s.1 s.2 = .done := by
              rcases hfe with h | h
              · exact h.1
              · exact absurd c156 (nextF_bad h)
            have hsm : Small m := ⟨by have := hinv.data; simp at this; omega, fun z hz => by have := hinv.list z hz; simp at this; omega⟩
            refine k_frzw (v := iv) fun Bi hBi hri => ?_
            refine k_frzw (v := lv) fun Bl hBl hrl => ?_
            have hM : IsM Bl m dv iv lv := ⟨hdv.mono (PH.le_trans hBi hBl), IsIDs.mono hri hBl, us, hus.one.1, hrl, fun i u x hu hx => ((hus.mono (PH.le_trans hBi hBl)).get).2 i u x hu hx⟩
            replace hb := hb.mono (PH.le_trans hBi hBl)
            replace hqr := hqr.mono (PH.le_trans hBi hBl)
            replace hv32 := hv32.mono (PH.le_trans hBi hBl)
            replace hr5 := hr5.mono (PH.le_trans hBi hBl)
            replace hr6 := hr6.mono (PH.le_trans hBi hBl)
            replace hc42 := hc42.mono (PH.le_trans hBi hBl)
            replace hdv := hdv.mono (PH.le_trans hBi hBl)
            replace hus := hus.mono (PH.le_trans hBi hBl)
            refine k_mix rfl [0, 0, 2, 7, 15, 31] [(0, false), (1, false), (2, true), (3, false), (4, false), (5, true)] (by kernel_rfl) ?_
            refine m_y rfl rfl (y_ldp rfl (hr5.cell (i := 0) rfl)) rfl ?_
            refine m_y rfl rfl (y_lda rfl rfl) rfl ?_
            refine m_mv1 [false, true] rfl rfl rfl (by kernel_rfl) fun W1 ds1 ro1 Q1 K1 hK1 => ?_
            refine o_call rfl (T_pack_check _ m _ _ _ hM hsm) rfl ?_
            rintro v159 B159 L159 hB159 ⟨rfl, rfl, rfl⟩
            try conv => arg 7; dsimp only [List.nil_append, List.cons_append]
            refine hK1 _ _ _ (hB159) ⟨qy_y rfl (y_ldp rfl (hr5.cell (i := 0) rfl)), ⟨⟩⟩ ?_
            refine m_p rfl rfl (fun _ _ => y_nil rfl) rfl ?_
            refine m_p rfl rfl (fun _ _ => y_fa rfl) rfl ?_
            refine m_mv0 [false] rfl rfl (by kernel_rfl) fun W1 ds1 ro1 Q1 K1 hK1 => ?_
            refine o_stv rfl rfl rfl rfl ?_
            refine hK1  _ _ (PH.le_refl _) trivial ?_
            refine m_end ?_
            refine th_n ?_
            refine k_seq ?_
            refine k_seq ?_
            refine k_region ?_
            refine n_y rfl (y_ldp rfl (hr5.cell (i := 0) rfl)) rfl ?_
            refine n_y rfl (y_nil rfl) rfl ?_
            refine n_y rfl (y_fa rfl) rfl ?_
            refine n_y rfl (y_ld rfl rfl) rfl ?_
            refine n_y rfl (y_ne rfl rfl) rfl ?_
            refine n_nil ?_
            refine th_n ?_
            refine k_cond rfl (fun c166 => ?_) (fun c166 => ?_)
            · skip
              refine k_seq ?_
              refine k_mix rfl [0, 0, 2, 6, 14, 1, 63] [(0, false), (1, false), (2, false), (3, false), (4, false), (5, true), (6, false)] (by kernel_rfl) ?_
              refine m_p rfl rfl (fun _ _ => y_bd rfl rfl) rfl ?_
              refine m_y rfl rfl (y_ldp rfl (hr5.cell (i := 0) rfl)) rfl ?_
              refine m_p rfl rfl (fun _ _ => y_nil rfl) rfl ?_
              refine m_p rfl rfl (fun _ _ => y_fa rfl) rfl ?_
              refine m_y rfl rfl (y_ld rfl rfl) rfl ?_
              refine m_mv0 [true, true] rfl rfl (by kernel_rfl) fun W1 ds1 ro1 Q1 K1 hK1 => ?_
              refine o_stv rfl rfl rfl rfl ?_
              refine hK1  _ _ (PH.le_refl _) ⟨qy_y rfl (y_ld rfl rfl), qy_y rfl (y_ldp rfl (hr5.cell (i := 0) rfl)), ⟨⟩⟩ ?_
              refine m_p rfl rfl (fun _ _ => y_as rfl) rfl ?_
              refine m_end ?_
              refine th_n ?_
              refine k_ret ?_
              refine th_r ?_
              refine sc_r ?_
              refine k_unmark ?_
              refine k_retn rfl (rs_c (r_lda rfl rfl) (rs_t rfl (rs_nil))) (PH.le_trans (PH.le_trans (PH.le_trans (PH.le_trans (hB5) hB6) hB42) hB2) (PH.le_trans hBi hBl)) (⟨rfl, by rw [(hrm.trans (by rw [hinv.done hdn]; exact if_pos c166) : readM b = .error (checkM m))]; exact ⟨rfl, c166⟩⟩)
            · skip
              refine k_skip ?_
              refine th_n ?_
              refine k_seq ?_
              refine k_region ?_
              refine n_y rfl (y_lda rfl rfl) rfl ?_
              refine n_op rfl (o_stv rfl rfl rfl rfl ?_)
              refine n_y rfl (y_as rfl) rfl ?_
              refine n_nil ?_
              refine th_n ?_
              refine k_ret ?_
              refine sc_r ?_
              refine k_unmark ?_
              refine k_retn rfl (rs_c (r_lda rfl rfl) (rs_t rfl (rs_nil))) (PH.le_trans (PH.le_trans (PH.le_trans (PH.le_trans (hB5) hB6) hB42) hB2) (PH.le_trans hBi hBl)) (⟨rfl, by rw [(hrm.trans (by rw [hinv.done hdn]; exact if_neg c166) : readM b = .ok m)]; exact ⟨dv, iv, lv, rfl, hM⟩⟩)
          · skip
            try
              have hbd : nextF s.1 s.2 = .bad e := by
                rcases hfe with h | h
                · exact absurd h.2 c156
                · exact h
            refine k_skip ?_
            refine th_n ?_
            refine k_seq ?_
            refine k_seq ?_
            refine k_region ?_
            refine n_y rfl (y_ldp rfl (hr5.cell (i := 0) rfl)) rfl ?_
            refine n_y rfl (y_nil rfl) rfl ?_
            refine n_y rfl (y_fa rfl) rfl ?_
            refine n_y rfl (y_ld rfl rfl) rfl ?_
            refine n_y rfl (y_ne rfl rfl) rfl ?_
            refine n_nil ?_
            refine th_n ?_
            refine k_cond rfl (fun c166 => ?_) (fun c166 => ?_)
            · skip
              refine k_seq ?_
              refine k_mix rfl [0, 0, 2, 6, 14, 1, 63] [(0, false), (1, false), (2, false), (3, false), (4, false), (5, true), (6, false)] (by kernel_rfl) ?_
              refine m_p rfl rfl (fun _ _ => y_bd rfl rfl) rfl ?_
              refine m_y rfl rfl (y_ldp rfl (hr5.cell (i := 0) rfl)) rfl ?_
              refine m_p rfl rfl (fun _ _ => y_nil rfl) rfl ?_
              refine m_p rfl rfl (fun _ _ => y_fa rfl) rfl ?_
              refine m_y rfl rfl (y_ld rfl rfl) rfl ?_
              refine m_mv0 [true, true] rfl rfl (by kernel_rfl) fun W1 ds1 ro1 Q1 K1 hK1 => ?_
              refine o_stv rfl rfl rfl rfl ?_
              refine hK1  _ _ (PH.le_refl _) ⟨qy_y rfl (y_ld rfl rfl), qy_y rfl (y_ldp rfl (hr5.cell (i := 0) rfl)), ⟨⟩⟩ ?_
              refine m_p rfl rfl (fun _ _ => y_as rfl) rfl ?_
              refine m_end ?_
              refine th_n ?_
              refine k_ret ?_
              refine th_r ?_
              refine sc_r ?_
              refine k_unmark ?_
              refine k_retn rfl (rs_c (r_lda rfl rfl) (rs_t rfl (rs_nil))) (PH.le_trans (PH.le_trans (PH.le_trans (hB5) hB6) hB42) hB2) (⟨rfl, by rw [(hrm.trans (by rw [hinv.bad hbd]) : readM b = .error e)]; exact ⟨rfl, nextF_bad hbd⟩⟩)
            · skip
              exact absurd c156 c166
        · intro D c O B2 L2 hB2 hZ2
          try conv => arg 7; dsimp only [List.nil_append, List.cons_append]
          replace hb := hb.mono hB2
          replace hqr := hqr.mono hB2
          replace hv32 := hv32.mono hB2
          replace hr5 := hr5.mono hB2
          replace hr6 := hr6.mono hB2
          replace hc42 := hc42.mono hB2
          obtain ⟨rfl, e, rv, m, dv, iv, lv, he, herr, hrv1, rfl, rfl⟩ := hZ2
          haveI := hrv1
          try conv => arg 7; dsimp only [List.nil_append, List.cons_append]
          refine k_exit ?_
          refine bl_s ?_
          refine th_n ?_
          refine k_seq ?_
          refine k_seq ?_
          refine k_region ?_
          refine n_y rfl (y_ldp rfl (hr5.cell (i := 0) rfl)) rfl ?_
          refine n_y rfl (y_nil rfl) rfl ?_
          refine n_y rfl (y_fa rfl) rfl ?_
          refine n_y rfl (y_ld rfl rfl) rfl ?_
          refine n_y rfl (y_eq rfl rfl) rfl ?_
          refine n_nil ?_
          refine th_n ?_
          refine k_cond rfl (fun c156 => ?_) (fun c156 => ?_)
          · skip
            exact absurd c156 he
          · skip
            try
              have hbd : nextF s.1 s.2 = .bad e := by
                rcases hfe with h | h
                · exact absurd h.2 c156
                · exact h
            refine k_skip ?_
            refine th_n ?_
            refine k_seq ?_
            refine k_seq ?_
            refine k_region ?_
            refine n_y rfl (y_ldp rfl (hr5.cell (i := 0) rfl)) rfl ?_
            refine n_y rfl (y_nil rfl) rfl ?_
            refine n_y rfl (y_fa rfl) rfl ?_
            refine n_y rfl (y_ld rfl rfl) rfl ?_
            refine n_y rfl (y_ne rfl rfl) rfl ?_
            refine n_nil ?_
            refine th_n ?_
            refine k_cond rfl (fun c166 => ?_) (fun c166 => ?_)
            · skip
              refine k_seq ?_
              refine k_mix rfl [0, 0, 2, 6, 14, 1, 63] [(0, false), (1, false), (2, false), (3, false), (4, false), (5, true), (6, false)] (by kernel_rfl) ?_
              refine m_p rfl rfl (fun _ _ => y_bd rfl rfl) rfl ?_
              refine m_y rfl rfl (y_ldp rfl (hr5.cell (i := 0) rfl)) rfl ?_
              refine m_p rfl rfl (fun _ _ => y_nil rfl) rfl ?_
              refine m_p rfl rfl (fun _ _ => y_fa rfl) rfl ?_
              refine m_y rfl rfl (y_ld rfl rfl) rfl ?_
              refine m_mv0 [true, true] rfl rfl (by kernel_rfl) fun W1 ds1 ro1 Q1 K1 hK1 => ?_
              refine o_stv rfl rfl rfl rfl ?_
              refine hK1  _ _ (PH.le_refl _) ⟨qy_y rfl (y_ld rfl rfl), qy_y rfl (y_ldp rfl (hr5.cell (i := 0) rfl)), ⟨⟩⟩ ?_
              refine m_p rfl rfl (fun _ _ => y_as rfl) rfl ?_
              refine m_end ?_
              refine th_n ?_
              refine k_ret ?_
              refine th_r ?_
              refine sc_r ?_
              refine k_unmark ?_
              refine k_retn rfl (rs_c (r_lda rfl rfl) (rs_t rfl (rs_nil))) (PH.le_trans (PH.le_trans (PH.le_trans (hB5) hB6) hB42) hB2) (⟨rfl, by rw [(hrm.trans (by rw [herr]) : readM b = .error e)]; exact ⟨rfl, he⟩⟩)
            · skip
              exact absurd c156 c166
end Go.Proofs.Ytokekdbdnonebaa
