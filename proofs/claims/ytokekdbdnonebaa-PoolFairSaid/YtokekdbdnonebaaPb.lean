/- pack: can a message be written? -/
import Derived.Test.YtokekdbdnonebaaPa
namespace Go.Proofs.Ytokekdbdnonebaa
open Sc Go

theorem T_pack_check (B : PH) (m : Msg) (dv iv lv : Value) (hm : IsM B m dv iv lv) (hs : Small m) : Tri Try.prog F_pack_check [agg (mS m dv iv lv)] B [] fun v B' L' => v = .int .i64 (checkM m) ∧ B' = B ∧ L' = [] := by
  obtain ⟨da, dc, rfl⟩ := hm.data.form
  obtain ⟨ia, ic, rfl⟩ := hm.ids.form
  obtain ⟨us, hul, ⟨la, lc, rfl, hlc, hlr⟩, hus⟩ := hm.list
  refine tri_of fn_pack_check rfl nt_pack_check rfl fun W0 R => ?_
  simp only [argEnv, List.nil_append, List.cons_append]
  refine k_seq ?_
  refine k_region ?_
  refine n_op rfl (o_bx rfl rfl fun b1 => ?_)
  refine n_y rfl (y_as rfl) rfl ?_
  refine n_nil ?_
  refine th_n ?_
  refine k_seq ?_
  refine k_seq ?_
  refine k_region ?_
  refine n_y rfl (y_fa rfl) rfl ?_
  refine n_y rfl (y_ld rfl rfl) rfl ?_
  refine n_y rfl (y_lt rfl rfl) rfl ?_
  refine k_dec (fun c10 => ?_) (fun c10 => ?_)
  · skip
    refine n_y rfl (y_mv rfl) rfl ?_
    refine n_no rfl rfl ?_
    refine n_no rfl rfl ?_
    refine n_no rfl rfl ?_
    refine n_y rfl (y_pt rfl rfl) rfl ?_
    refine n_nil ?_
    refine th_n ?_
    refine k_condt rfl ?_
    refine k_seq ?_
    refine k_region ?_
    refine n_y rfl (y_as rfl) rfl ?_
    refine n_nil ?_
    refine th_n ?_
    refine k_ret ?_
    refine th_r ?_
    refine k_retn rfl (rs_t rfl (rs_nil)) (PH.le_refl _) (⟨by rw [checkM, if_pos (by omega)]; rfl, rfl, rfl⟩)
  · skip
    refine n_y rfl (y_mv rfl) rfl ?_
    refine n_y rfl (y_fa rfl) rfl ?_
    refine n_y rfl (y_ld rfl rfl) rfl ?_
    refine n_y rfl (y_gt rfl rfl) rfl ?_
    refine k_dec (fun c14 => ?_) (fun c14 => ?_)
    · skip
      refine n_y rfl (y_pf rfl rfl) rfl ?_
      refine n_nil ?_
      refine th_n ?_
      refine k_condt rfl ?_
      refine k_seq ?_
      refine k_region ?_
      refine n_y rfl (y_as rfl) rfl ?_
      refine n_nil ?_
      refine th_n ?_
      refine k_ret ?_
      refine th_r ?_
      refine k_retn rfl (rs_t rfl (rs_nil)) (PH.le_refl _) (⟨by rw [checkM, if_pos (by omega)]; rfl, rfl, rfl⟩)
    · skip
      refine n_y rfl (y_pf rfl rfl) rfl ?_
      refine n_nil ?_
      refine th_n ?_
      refine k_condf rfl ?_
      refine k_skip ?_
      refine th_n ?_
      refine k_seq ?_
      refine k_seq ?_
      refine k_region ?_
      refine n_y rfl (y_fa rfl) rfl ?_
      refine n_y rfl (y_ld rfl rfl) rfl ?_
      refine n_y rfl (y_fa rfl) rfl ?_
      refine n_y rfl (y_ld rfl rfl) rfl ?_
      refine n_y rfl (y_fa rfl) rfl ?_
      refine n_y rfl (y_ld rfl rfl) rfl ?_
      refine n_y rfl (y_fa rfl) rfl ?_
      refine n_y rfl (y_ld rfl rfl) rfl ?_
      refine n_y rfl (y_fa rfl) rfl ?_
      refine n_y rfl (y_ld rfl rfl) rfl ?_
      refine n_y rfl (y_bd rfl rfl) rfl ?_
      refine n_y rfl (y_mv rfl) rfl ?_
      refine n_nil ?_
      refine th_n ?_
      refine k_block ?_
      refine k_loop2 (α := Nat) [2, 4, 27, 28, 29, 30, 31, 32, 33, 34, 35, 36] (fun i => i ≤ 5 ∧ ∀ j, j < i → ¬ ((nums m).getD j 0 < 0 ∨ (nums m).getD j 0 > 1099511627776)) (fun i => [(27, .int .i64 (i : Int))]) (fun i => B) (fun i => []) (fun i => 5 - i) 0 ⟨by omega, fun j hj => absurd hj (Nat.not_lt_zero _)⟩ rfl ⟨rfl, trivial⟩ _ rfl ?_
      rintro i ⟨hi, hall⟩
      try conv => arg 7; dsimp only [List.nil_append, List.cons_append]
      try conv => arg 6; dsimp only
      try conv => arg 4; dsimp only [List.nil_append, List.cons_append]
      refine k_seq ?_
      refine k_region ?_
      refine n_y rfl (y_lt rfl rfl) rfl ?_
      refine n_nil ?_
      refine th_n ?_
      refine k_seq ?_
      refine k_cond rfl (fun c28 => ?_) (fun c28 => ?_)
      · skip
        refine k_skip ?_
        refine th_n ?_
        refine k_seq ?_
        refine k_block ?_
        refine k_seq ?_
        refine k_region ?_
        refine n_y rfl (y_ix (v := .int .i64 ((nums m).getD i 0)) rfl rfl i rfl (by omega) (by
          have : i = 0 ∨ i = 1 ∨ i = 2 ∨ i = 3 ∨ i = 4 := by omega
          rcases this with rfl | rfl | rfl | rfl | rfl <;> rfl)) rfl ?_
        refine n_y rfl (y_as rfl) rfl ?_
        refine n_nil ?_
        refine th_n ?_
        refine k_seq ?_
        refine k_region ?_
        refine n_y rfl (y_mv rfl) rfl ?_
        refine n_y rfl (y_lt rfl rfl) rfl ?_
        refine k_dec (fun c31 => ?_) (fun c31 => ?_)
        · skip
          refine n_y rfl (y_mv rfl) rfl ?_
          refine n_no rfl rfl ?_
          refine n_no rfl rfl ?_
          refine n_y rfl (y_pt rfl rfl) rfl ?_
          refine n_nil ?_
          refine th_n ?_
          refine k_condt rfl ?_
          refine k_seq ?_
          refine k_region ?_
          refine n_y rfl (y_as rfl) rfl ?_
          refine n_nil ?_
          refine th_n ?_
          refine k_ret ?_
          refine bl_r ?_
          refine th_r ?_
          refine th_r ?_
          refine bl_r ?_
          refine th_r ?_
          refine k_retn rfl (rs_t rfl (rs_nil)) (PH.le_refl _) (⟨by rw [checkM, if_neg (by omega), if_pos ⟨(nums m).getD i 0, by rw [List.getD_eq_getElem?_getD, List.getElem?_eq_getElem (by show i < 5; omega)]; exact List.getElem_mem _, by omega⟩]; rfl, rfl, rfl⟩)
        · skip
          refine n_y rfl (y_mv rfl) rfl ?_
          refine n_y rfl (y_mv rfl) rfl ?_
          refine n_y rfl (y_gt rfl rfl) rfl ?_
          refine k_dec (fun c34 => ?_) (fun c34 => ?_)
          · skip
            refine n_y rfl (y_pf rfl rfl) rfl ?_
            refine n_nil ?_
            refine th_n ?_
            refine k_condt rfl ?_
            refine k_seq ?_
            refine k_region ?_
            refine n_y rfl (y_as rfl) rfl ?_
            refine n_nil ?_
            refine th_n ?_
            refine k_ret ?_
            refine bl_r ?_
            refine th_r ?_
            refine th_r ?_
            refine bl_r ?_
            refine th_r ?_
            refine k_retn rfl (rs_t rfl (rs_nil)) (PH.le_refl _) (⟨by rw [checkM, if_neg (by omega), if_pos ⟨(nums m).getD i 0, by rw [List.getD_eq_getElem?_getD, List.getElem?_eq_getElem (by show i < 5; omega)]; exact List.getElem_mem _, by omega⟩]; rfl, rfl, rfl⟩)
          · skip
            refine n_y rfl (y_pf rfl rfl) rfl ?_
            refine n_nil ?_
            refine th_n ?_
            refine k_condf rfl ?_
            refine k_skip ?_
            refine bl_n ?_
            refine th_n ?_
            refine k_region ?_
            refine n_y rfl (y_add rfl rfl (by omega)) rfl ?_
            refine n_y rfl (y_mv rfl) rfl ?_
            refine n_nil ?_
            refine th_n ?_
            exact k_again2 (i + 1) ⟨⟨by omega, fun j hj => by
              by_cases e : j = i
              · subst e; omega
              · exact hall j (by omega)⟩, by omega⟩ rfl ⟨rfl, trivial⟩ rfl
      · skip
        obtain rfl : i = 5 := by omega
        have hnums : ¬ ∃ n ∈ nums m, n < 0 ∨ n > 1099511627776 := by
          rintro ⟨n, hn, h⟩
          obtain ⟨j, hj, rfl⟩ := List.mem_iff_getElem.1 hn
          exact hall j hj (by rw [List.getD_eq_getElem?_getD, List.getElem?_eq_getElem hj]; exact h)
        refine k_exit ?_
        refine th_x ?_
        refine th_x ?_
        refine bl_s ?_
        refine th_n ?_
        refine k_seq ?_
        refine k_region ?_
        refine n_y rfl (y_fa rfl) rfl ?_
        refine n_y rfl (y_ld rfl rfl) rfl ?_
        refine n_y rfl (y_len rfl) rfl ?_
        refine n_y rfl (y_as rfl) rfl ?_
        refine n_nil ?_
        refine th_n ?_
        refine k_seq ?_
        refine k_seq ?_
        refine k_region ?_
        refine n_y rfl (y_fa rfl) rfl ?_
        refine n_y rfl (y_ld rfl rfl) rfl ?_
        refine n_y rfl (y_len rfl) rfl ?_
        refine n_y rfl (y_gt rfl rfl) rfl ?_
        refine k_dec (fun c43 => ?_) (fun c43 => ?_)
        · skip
          refine n_y rfl (y_mv rfl) rfl ?_
          refine n_no rfl rfl ?_
          refine n_no rfl rfl ?_
          refine n_no rfl rfl ?_
          refine n_no rfl rfl ?_
          refine n_y rfl (y_pt rfl rfl) rfl ?_
          refine n_y rfl (y_mv rfl) rfl ?_
          refine n_no rfl rfl ?_
          refine n_no rfl rfl ?_
          refine n_y rfl (y_pt rfl rfl) rfl ?_
          refine n_nil ?_
          refine th_n ?_
          refine k_condt rfl ?_
          refine k_seq ?_
          refine k_region ?_
          refine n_y rfl (y_as rfl) rfl ?_
          refine n_nil ?_
          refine th_n ?_
          refine k_ret ?_
          refine th_r ?_
          refine k_retn rfl (rs_t rfl (rs_nil)) (PH.le_refl _) (⟨by rw [checkM, if_neg (by omega), if_neg hnums, if_pos (by omega)]; rfl, rfl, rfl⟩)
        · skip
          refine n_y rfl (y_mv rfl) rfl ?_
          refine n_y rfl (y_fa rfl) rfl ?_
          refine n_y rfl (y_ld rfl rfl) rfl ?_
          refine n_y rfl (y_len rfl) rfl ?_
          refine n_y rfl (y_gt rfl rfl) rfl ?_
          refine k_dec (fun c48 => ?_) (fun c48 => ?_)
          · skip
            refine n_y rfl (y_pf rfl rfl) rfl ?_
            refine n_y rfl (y_mv rfl) rfl ?_
            refine n_no rfl rfl ?_
            refine n_no rfl rfl ?_
            refine n_y rfl (y_pt rfl rfl) rfl ?_
            refine n_nil ?_
            refine th_n ?_
            refine k_condt rfl ?_
            refine k_seq ?_
            refine k_region ?_
            refine n_y rfl (y_as rfl) rfl ?_
            refine n_nil ?_
            refine th_n ?_
            refine k_ret ?_
            refine th_r ?_
            refine k_retn rfl (rs_t rfl (rs_nil)) (PH.le_refl _) (⟨by rw [checkM, if_neg (by omega), if_neg hnums, if_pos (by omega)]; rfl, rfl, rfl⟩)
          · skip
            refine n_y rfl (y_pf rfl rfl) rfl ?_
            refine n_y rfl (y_mv rfl) rfl ?_
            refine n_y rfl (y_mv rfl) rfl ?_
            refine n_y rfl (y_gt rfl rfl) rfl ?_
            refine k_dec (fun c52 => ?_) (fun c52 => ?_)
            · skip
              refine n_y rfl (y_pf rfl rfl) rfl ?_
              refine n_nil ?_
              refine th_n ?_
              refine k_condt rfl ?_
              refine k_seq ?_
              refine k_region ?_
              refine n_y rfl (y_as rfl) rfl ?_
              refine n_nil ?_
              refine th_n ?_
              refine k_ret ?_
              refine th_r ?_
              refine k_retn rfl (rs_t rfl (rs_nil)) (PH.le_refl _) (⟨by rw [checkM, if_neg (by omega), if_neg hnums, if_pos (by omega)]; rfl, rfl, rfl⟩)
            · skip
              refine n_y rfl (y_pf rfl rfl) rfl ?_
              refine n_nil ?_
              refine th_n ?_
              refine k_condf rfl ?_
              refine k_skip ?_
              refine th_n ?_
              refine k_seq ?_
              refine k_seq ?_
              refine k_region ?_
              refine n_y rfl (y_fa rfl) rfl ?_
              refine n_y rfl (y_ld rfl rfl) rfl ?_
              refine n_y rfl (y_len rfl) rfl ?_
              refine n_y rfl (y_mv rfl) rfl ?_
              refine n_nil ?_
              refine th_n ?_
              refine k_block ?_
              refine k_loop2 (α := Nat × Nat) [2, 5, 7, 57, 58, 59, 60, 61, 62, 63, 64, 65, 66, 67, 68, 69, 70, 71, 72] (fun z9 => z9.1 ≤ m.list.length ∧ z9.2 ≤ 131072 ∧ sizeF m.list m.data.length = sizeF (m.list.drop z9.1) z9.2) (fun z9 => [(57, .int .i64 (z9.1 : Int)), (5, .int .i64 (z9.2 : Int))]) (fun z9 => B) (fun z9 => []) (fun z9 => m.list.length - z9.1) (0, m.data.length) ⟨Nat.zero_le _, by dsimp only; omega, by simp⟩ rfl ⟨rfl, rfl, trivial⟩ _ rfl ?_
              rintro ⟨k, s⟩ ⟨hk, hsz, heq⟩
              dsimp only at hk hsz heq
              try conv => arg 7; dsimp only [List.nil_append, List.cons_append]
              try conv => arg 6; dsimp only
              try conv => arg 4; dsimp only [List.nil_append, List.cons_append]
              refine k_seq ?_
              refine k_region ?_
              refine n_y rfl (y_lt rfl rfl) rfl ?_
              refine n_nil ?_
              refine th_n ?_
              refine k_seq ?_
              refine k_cond rfl (fun c58 => ?_) (fun c58 => ?_)
              · skip
                have hk' : k < m.list.length := by omega
                obtain ⟨x, hx⟩ : ∃ x, m.list[k]? = some x := ⟨_, List.getElem?_eq_getElem hk'⟩
                obtain ⟨u, huk⟩ : ∃ u, us[k]? = some u := ⟨_, List.getElem?_eq_getElem (by omega)⟩
                obtain ⟨qb, qo, rfl, hqr⟩ := hlr (by intro e; rw [e] at hul; simp at hul; omega)
                obtain ⟨xa, xc, rfl⟩ := (hus k u x huk hx).form
                have hxl := hs.list x (List.mem_of_getElem? hx)
                refine k_skip ?_
                refine th_n ?_
                refine k_seq ?_
                refine k_block ?_
                refine k_seq ?_
                refine k_region ?_
                refine n_y rfl (y_ia rfl rfl _ rfl (by omega)) rfl ?_
                refine n_y rfl (y_ldi (i := k) rfl hqr (by omega) huk) rfl ?_
                refine n_y rfl (y_as rfl) rfl ?_
                refine n_nil ?_
                refine th_n ?_
                refine k_seq ?_
                refine k_region ?_
                refine n_y rfl (y_mv rfl) rfl ?_
                refine n_y rfl (y_mv rfl) rfl ?_
                refine n_y rfl (y_len rfl) rfl ?_
                refine n_y rfl (y_add rfl rfl (by omega)) rfl ?_
                refine n_y rfl (y_as rfl) rfl ?_
                refine n_nil ?_
                refine th_n ?_
                refine k_seq ?_
                refine k_region ?_
                refine n_y rfl (y_mv rfl) rfl ?_
                refine n_y rfl (y_len rfl) rfl ?_
                refine n_y rfl (y_gt rfl rfl) rfl ?_
                refine k_dec (fun c67 => ?_) (fun c67 => ?_)
                · skip
                  refine n_y rfl (y_mv rfl) rfl ?_
                  refine n_no rfl rfl ?_
                  refine n_no rfl rfl ?_
                  refine n_y rfl (y_pt rfl rfl) rfl ?_
                  refine n_nil ?_
                  refine th_n ?_
                  refine k_condt rfl ?_
                  refine k_seq ?_
                  refine k_region ?_
                  refine n_y rfl (y_as rfl) rfl ?_
                  refine n_nil ?_
                  refine th_n ?_
                  refine k_ret ?_
                  refine bl_r ?_
                  refine th_r ?_
                  refine th_r ?_
                  refine bl_r ?_
                  refine th_r ?_
                  refine k_retn rfl (rs_t rfl (rs_nil)) (PH.le_refl _) (⟨by rw [checkM, if_neg (by omega), if_neg hnums, if_neg (by omega), heq, drop_cons hx, sizeF, if_pos (by omega)]; rfl, rfl, rfl⟩)
                · skip
                  refine n_y rfl (y_mv rfl) rfl ?_
                  refine n_y rfl (y_mv rfl) rfl ?_
                  refine n_y rfl (y_gt rfl rfl) rfl ?_
                  refine k_dec (fun c70 => ?_) (fun c70 => ?_)
                  · skip
                    refine n_y rfl (y_pf rfl rfl) rfl ?_
                    refine n_nil ?_
                    refine th_n ?_
                    refine k_condt rfl ?_
                    refine k_seq ?_
                    refine k_region ?_
                    refine n_y rfl (y_as rfl) rfl ?_
                    refine n_nil ?_
                    refine th_n ?_
                    refine k_ret ?_
                    refine bl_r ?_
                    refine th_r ?_
                    refine th_r ?_
                    refine bl_r ?_
                    refine th_r ?_
                    refine k_retn rfl (rs_t rfl (rs_nil)) (PH.le_refl _) (⟨by rw [checkM, if_neg (by omega), if_neg hnums, if_neg (by omega), heq, drop_cons hx, sizeF, if_pos (by omega)]; rfl, rfl, rfl⟩)
                  · skip
                    refine n_y rfl (y_pf rfl rfl) rfl ?_
                    refine n_nil ?_
                    refine th_n ?_
                    refine k_condf rfl ?_
                    refine k_skip ?_
                    refine bl_n ?_
                    refine th_n ?_
                    refine k_region ?_
                    refine n_y rfl (y_add rfl rfl (by omega)) rfl ?_
                    refine n_y rfl (y_mv rfl) rfl ?_
                    refine n_nil ?_
                    refine th_n ?_
                    exact k_again2 (k + 1, s + x.length) ⟨⟨by dsimp only; omega, by dsimp only; omega, by dsimp only; rw [heq, drop_cons hx, sizeF, if_neg (by omega)]⟩, by dsimp only; omega⟩ rfl ⟨rfl, rfl, trivial⟩ rfl
              · skip
                obtain rfl : k = m.list.length := by omega
                refine k_exit ?_
                refine th_x ?_
                refine th_x ?_
                refine bl_s ?_
                refine th_n ?_
                refine k_seq ?_
                refine k_region ?_
                refine n_y rfl (y_as rfl) rfl ?_
                refine n_nil ?_
                refine th_n ?_
                refine k_ret ?_
                refine k_retn rfl (rs_t rfl (rs_nil)) (PH.le_refl _) (⟨by rw [checkM, if_neg (by omega), if_neg hnums, if_neg (by omega), heq, List.drop_length]; rfl, rfl, rfl⟩)
end Go.Proofs.Ytokekdbdnonebaa
