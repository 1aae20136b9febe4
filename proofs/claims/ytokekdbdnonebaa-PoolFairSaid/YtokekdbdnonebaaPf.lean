/- pack: numbers read. -/
import Derived.Test.YtokekdbdnonebaaPe
namespace Go.Proofs.Ytokekdbdnonebaa
open Sc Go

theorem T_pack_reader_number (B : PH) (rb : Nat) (rv : Value) (e : Int) (bv : Value) (b : List UInt8) (hov : OneC rv) (hb : IsB B bv b) (hn : b.length < 4611686018427387904) : Tri Try.prog F_pack_reader_number [.pointer (some ⟨rb, 0, none⟩), bv] B [bk rb 208 [.one rv, .one (.int .i64 e)]] fun v B' L' => v = .int .i64 (numR b : Int) ∧ B' = B ∧ ((numBad b ∧ L' = [bk rb 208 [.one rv, .one (.int .i64 23)]]) ∨ (¬ numBad b ∧ L' = [bk rb 208 [.one rv, .one (.int .i64 e)]])) := by
  obtain ⟨pa, pc, rfl⟩ := hb.form
  refine tri_of fn_pack_reader_number rfl nt_pack_reader_number rfl fun W0 R => ?_
  simp only [argEnv, List.nil_append, List.cons_append]
  refine k_seq ?_
  refine k_region ?_
  refine n_y rfl (y_as rfl) rfl ?_
  refine n_nil ?_
  refine th_n ?_
  refine k_seq ?_
  refine k_region ?_
  refine n_y rfl (y_as rfl) rfl ?_
  refine n_nil ?_
  refine th_n ?_
  refine k_cutx (α := Nat) [5, 6, 7, 8, 9, 10, 11, 12, 13, 14, 15, 16, 17, 18, 19, 20, 21, 22, 23, 24, 25, 26, 27, 28] (fun n => n = numR b) (fun n => [(5, .int .i64 (n : Int))]) (fun n => B) (fun n => []) [] ?_ fun z hz => ?_
  · try conv => arg 7; dsimp only [List.nil_append, List.cons_append]
    refine k_seq ?_
    refine k_region ?_
    refine n_y rfl (y_mv rfl) rfl ?_
    refine n_y rfl (y_len rfl) rfl ?_
    refine n_y rfl (y_mv rfl) rfl ?_
    refine n_nil ?_
    refine th_n ?_
    refine k_block ?_
    refine k_loop2 (α := Nat) [5, 6, 7, 10, 11, 12, 13, 14, 15, 16, 17, 18, 19, 20, 21, 22, 23, 24, 25, 26, 27, 28] (fun i => i ≤ b.length ∧ i ≤ 6 ∧ (0 < i → gB b 0 ≠ 0)) (fun i => [(10, .int .i64 (i : Int)), (5, .int .i64 (foldN (b.take i) 0 : Int))]) (fun i => B) (fun i => []) (fun i => b.length - i) 0 ⟨by omega, by omega, fun h => absurd h (Nat.lt_irrefl _)⟩ rfl ⟨rfl, rfl, trivial⟩ _ rfl ?_
    rintro i ⟨h1, h2, h0⟩
    try conv => arg 7; dsimp only [List.nil_append, List.cons_append]
    try conv => arg 6; dsimp only
    try conv => arg 4; dsimp only [List.nil_append, List.cons_append]
    refine k_seq ?_
    refine k_region ?_
    refine n_y rfl (y_lt rfl rfl) rfl ?_
    refine n_nil ?_
    refine th_n ?_
    refine k_seq ?_
    refine k_cond rfl (fun c11 => ?_) (fun c11 => ?_)
    · skip
      have hi : i < b.length := by omega
      obtain ⟨qb, qo, qc, hq, hqc, hqr⟩ := hb.row (by omega)
      obtain ⟨rfl, rfl⟩ : pa = some ⟨qb, qo, none⟩ ∧ pc = qc := by simpa using hq
      refine k_skip ?_
      refine th_n ?_
      refine k_seq ?_
      refine k_block ?_
      refine k_seq ?_
      refine k_region ?_
      refine n_y rfl (y_mv rfl) rfl ?_
      refine n_y rfl (y_ia rfl rfl _ rfl (by omega)) rfl ?_
      refine n_y rfl (y_ldi (i := i) rfl hqr (by omega) (cBs_get hi)) rfl ?_
      refine n_y rfl (y_as rfl) rfl ?_
      refine n_y rfl (y_as rfl) rfl ?_
      refine n_nil ?_
      refine th_n ?_
      refine k_seq ?_
      refine k_seq ?_
      refine k_region ?_
      refine n_y rfl (y_mv rfl) rfl ?_
      refine n_y rfl (y_gt rfl rfl) rfl ?_
      refine k_dec (fun c16 => ?_) (fun c16 => ?_)
      · skip
        refine n_y rfl (y_mv rfl) rfl ?_
        refine n_no rfl rfl ?_
        refine n_no rfl rfl ?_
        refine n_no rfl rfl ?_
        refine n_no rfl rfl ?_
        refine n_y rfl (y_pt rfl rfl) rfl ?_
        refine n_nil ?_
        refine th_n ?_
        refine k_condt rfl ?_
        refine k_exit ?_
        refine th_x ?_
        refine bl_x rfl ?_
        refine th_x ?_
        refine th_x ?_
        refine bl_s ?_
        refine th_n ?_
        exact k_again2 (foldN (b.take i) 0) (by rw [numR, if_neg (h0 (by omega)), show i = 6 by omega]) rfl ⟨rfl, trivial⟩ rfl
      · skip
        refine n_y rfl (y_mv rfl) rfl ?_
        refine n_y rfl (y_mv rfl) rfl ?_
        refine n_y rfl (y_ia rfl rfl 0 rfl (by omega)) rfl ?_
        refine n_y rfl (y_ldi (i := 0) rfl hqr (by omega) (cBs_get (by omega))) rfl ?_
        refine n_y rfl (y_eq rfl rfl) rfl ?_
        refine k_dec (fun c21 => ?_) (fun c21 => ?_)
        · skip
          refine n_y rfl (y_pf rfl rfl) rfl ?_
          refine n_nil ?_
          refine th_n ?_
          refine k_condt rfl ?_
          refine k_exit ?_
          refine th_x ?_
          refine bl_x rfl ?_
          refine th_x ?_
          refine th_x ?_
          refine bl_s ?_
          refine th_n ?_
          exact k_again2 (foldN (b.take i) 0) (by
            have e0 := u8_zero.1 c21
            have : i = 0 := by
              rcases Nat.eq_zero_or_pos i with h | h
              · exact h
              · exact absurd e0 (h0 h)
            subst this; rw [numR, if_pos e0]; rfl) rfl ⟨rfl, trivial⟩ rfl
        · skip
          refine n_y rfl (y_pf rfl rfl) rfl ?_
          refine n_nil ?_
          refine th_n ?_
          refine k_condf rfl ?_
          refine k_skip ?_
          refine th_n ?_
          refine k_region ?_
          have h40 : foldN (b.take i) 0 < 2 ^ 40 := Nat.lt_of_lt_of_le (foldN_lt _) (Nat.pow_le_pow_right (by decide) (by rw [List.length_take]; omega))
          have hbi := u8_lt (gB b i)
          refine n_y rfl (y_mv rfl) rfl ?_
          refine n_y rfl (y_shlN (s := 8) rfl rfl (by decide) (by omega)) rfl ?_
          refine n_y rfl (y_mv rfl) rfl ?_
          refine n_y rfl (y_cvBN rfl) rfl ?_
          refine n_y rfl (y_orN rfl rfl (by omega) (by omega)) rfl ?_
          refine n_y rfl (y_as rfl) rfl ?_
          refine n_nil ?_
          refine bl_n ?_
          refine th_n ?_
          refine k_region ?_
          refine n_y rfl (y_add rfl rfl (by omega)) rfl ?_
          refine n_y rfl (y_mv rfl) rfl ?_
          refine n_nil ?_
          refine th_n ?_
          exact k_again2 (i + 1) ⟨⟨by omega, by omega, fun _ e0 => c21 (u8_zero.2 e0)⟩, by omega⟩ rfl ⟨rfl, by rw [foldN_next hi]; rfl, trivial⟩ rfl
    · skip
      have hi : i = b.length := by omega
      refine k_exit ?_
      refine th_x ?_
      refine th_x ?_
      refine bl_s ?_
      refine th_n ?_
      exact k_again2 (foldN (b.take i) 0) (by
        rw [hi]
        rcases Nat.eq_zero_or_pos b.length with h | h
        · have : b = [] := List.eq_nil_of_length_eq_zero h
          subst this; rfl
        · rw [numR, if_neg (h0 (by omega)), List.take_of_length_le (by omega), List.take_of_length_le (by omega)]) rfl ⟨rfl, trivial⟩ rfl
  · obtain rfl := hz
    try conv => arg 7; dsimp only [List.nil_append, List.cons_append]
    try conv => arg 6; dsimp only
    try conv => arg 4; dsimp only [List.nil_append, List.cons_append]
    refine k_seq ?_
    refine k_seq ?_
    refine k_region ?_
    refine n_y rfl (y_mv rfl) rfl ?_
    refine n_y rfl (y_len rfl) rfl ?_
    refine n_y rfl (y_eq rfl rfl) rfl ?_
    refine k_dec (fun c31 => ?_) (fun c31 => ?_)
    · skip
      refine n_y rfl (y_mv rfl) rfl ?_
      refine n_no rfl rfl ?_
      refine n_no rfl rfl ?_
      refine n_no rfl rfl ?_
      refine n_no rfl rfl ?_
      refine n_y rfl (y_pt rfl rfl) rfl ?_
      refine n_y rfl (y_mv rfl) rfl ?_
      refine n_no rfl rfl ?_
      refine n_no rfl rfl ?_
      refine n_no rfl rfl ?_
      refine n_y rfl (y_pt rfl rfl) rfl ?_
      refine n_y rfl (y_mv rfl) rfl ?_
      refine n_no rfl rfl ?_
      refine n_no rfl rfl ?_
      refine n_y rfl (y_pt rfl rfl) rfl ?_
      refine n_nil ?_
      refine th_n ?_
      refine k_condt rfl ?_
      refine k_region ?_
      refine n_y rfl (y_mv rfl) rfl ?_
      refine n_y rfl (y_nil rfl) rfl ?_
      refine n_y rfl (y_fa rfl) rfl ?_
      refine n_op rfl (o_stv rfl rfl rfl rfl ?_)
      refine n_nil ?_
      refine th_n ?_
      refine k_seq ?_
      refine k_region ?_
      refine n_y rfl (y_mv rfl) rfl ?_
      refine n_y rfl (y_as rfl) rfl ?_
      refine n_nil ?_
      refine th_n ?_
      refine k_ret ?_
      refine k_retn rfl (rs_t rfl (rs_nil)) (PH.le_refl _) (⟨rfl, rfl, .inl ⟨.inl (by omega), rfl⟩⟩)
    · skip
      obtain ⟨qb, qo, qc, hq, hqc, hqr⟩ := hb.row (by omega)
      obtain ⟨rfl, rfl⟩ : pa = some ⟨qb, qo, none⟩ ∧ pc = qc := by simpa using hq
      refine n_y rfl (y_mv rfl) rfl ?_
      refine n_y rfl (y_mv rfl) rfl ?_
      refine n_y rfl (y_ia rfl rfl 0 rfl (by omega)) rfl ?_
      refine n_y rfl (y_ldi (i := 0) rfl hqr (by omega) (cBs_get (by omega))) rfl ?_
      refine n_y rfl (y_eq rfl rfl) rfl ?_
      refine k_dec (fun c36 => ?_) (fun c36 => ?_)
      · skip
        refine n_y rfl (y_pf rfl rfl) rfl ?_
        refine n_y rfl (y_mv rfl) rfl ?_
        refine n_no rfl rfl ?_
        refine n_no rfl rfl ?_
        refine n_no rfl rfl ?_
        refine n_y rfl (y_pt rfl rfl) rfl ?_
        refine n_y rfl (y_mv rfl) rfl ?_
        refine n_no rfl rfl ?_
        refine n_no rfl rfl ?_
        refine n_y rfl (y_pt rfl rfl) rfl ?_
        refine n_nil ?_
        refine th_n ?_
        refine k_condt rfl ?_
        refine k_region ?_
        refine n_y rfl (y_mv rfl) rfl ?_
        refine n_y rfl (y_nil rfl) rfl ?_
        refine n_y rfl (y_fa rfl) rfl ?_
        refine n_op rfl (o_stv rfl rfl rfl rfl ?_)
        refine n_nil ?_
        refine th_n ?_
        refine k_seq ?_
        refine k_region ?_
        refine n_y rfl (y_mv rfl) rfl ?_
        refine n_y rfl (y_as rfl) rfl ?_
        refine n_nil ?_
        refine th_n ?_
        refine k_ret ?_
        refine k_retn rfl (rs_t rfl (rs_nil)) (PH.le_refl _) (⟨rfl, rfl, .inl ⟨.inr (.inl (u8_zero.1 c36)), rfl⟩⟩)
      · skip
        refine n_y rfl (y_pf rfl rfl) rfl ?_
        refine n_y rfl (y_mv rfl) rfl ?_
        refine n_y rfl (y_mv rfl) rfl ?_
        refine n_y rfl (y_len rfl) rfl ?_
        refine n_y rfl (y_gt rfl rfl) rfl ?_
        refine k_dec (fun c41 => ?_) (fun c41 => ?_)
        · skip
          refine n_y rfl (y_pf rfl rfl) rfl ?_
          refine n_y rfl (y_mv rfl) rfl ?_
          refine n_no rfl rfl ?_
          refine n_no rfl rfl ?_
          refine n_y rfl (y_pt rfl rfl) rfl ?_
          refine n_nil ?_
          refine th_n ?_
          refine k_condt rfl ?_
          refine k_region ?_
          refine n_y rfl (y_mv rfl) rfl ?_
          refine n_y rfl (y_nil rfl) rfl ?_
          refine n_y rfl (y_fa rfl) rfl ?_
          refine n_op rfl (o_stv rfl rfl rfl rfl ?_)
          refine n_nil ?_
          refine th_n ?_
          refine k_seq ?_
          refine k_region ?_
          refine n_y rfl (y_mv rfl) rfl ?_
          refine n_y rfl (y_as rfl) rfl ?_
          refine n_nil ?_
          refine th_n ?_
          refine k_ret ?_
          refine k_retn rfl (rs_t rfl (rs_nil)) (PH.le_refl _) (⟨rfl, rfl, .inl ⟨.inr (.inr (.inl (by omega))), rfl⟩⟩)
        · skip
          refine n_y rfl (y_pf rfl rfl) rfl ?_
          refine n_y rfl (y_mv rfl) rfl ?_
          refine n_y rfl (y_mv rfl) rfl ?_
          refine n_y rfl (y_gt rfl rfl) rfl ?_
          refine k_dec (fun c45 => ?_) (fun c45 => ?_)
          · skip
            refine n_y rfl (y_pf rfl rfl) rfl ?_
            refine n_nil ?_
            refine th_n ?_
            refine k_condt rfl ?_
            refine k_region ?_
            refine n_y rfl (y_mv rfl) rfl ?_
            refine n_y rfl (y_nil rfl) rfl ?_
            refine n_y rfl (y_fa rfl) rfl ?_
            refine n_op rfl (o_stv rfl rfl rfl rfl ?_)
            refine n_nil ?_
            refine th_n ?_
            refine k_seq ?_
            refine k_region ?_
            refine n_y rfl (y_mv rfl) rfl ?_
            refine n_y rfl (y_as rfl) rfl ?_
            refine n_nil ?_
            refine th_n ?_
            refine k_ret ?_
            refine k_retn rfl (rs_t rfl (rs_nil)) (PH.le_refl _) (⟨rfl, rfl, .inl ⟨.inr (.inr (.inr (by omega))), rfl⟩⟩)
          · skip
            refine n_y rfl (y_pf rfl rfl) rfl ?_
            refine n_nil ?_
            refine th_n ?_
            refine k_condf rfl ?_
            refine k_skip ?_
            refine th_n ?_
            refine k_seq ?_
            refine k_region ?_
            refine n_y rfl (y_mv rfl) rfl ?_
            refine n_y rfl (y_as rfl) rfl ?_
            refine n_nil ?_
            refine th_n ?_
            refine k_ret ?_
            refine k_retn rfl (rs_t rfl (rs_nil)) (PH.le_refl _) (⟨rfl, rfl, .inr ⟨fun h => (by rcases h with h | h | h | h <;> first | omega | exact c36 (u8_zero.2 h)), rfl⟩⟩)
end Go.Proofs.Ytokekdbdnonebaa
