/- pack: bytes read. -/
import Derived.Test.YtokekdbdnonebaaPd
import Derived.Test.YtokekdbdnonebaaEngR
namespace Go.Proofs.Ytokekdbdnonebaa
open Sc Go

theorem T_pack_reader_run (B : PH) (rb : Nat) (rv : Value) (rest : List UInt8) (hr : IsB B rv rest) (hn : rest.length < 4611686018427387904) : Tri Try.prog F_pack_reader_run [.pointer (some ⟨rb, 0, none⟩)] B [bk rb 208 [.one rv, .one (.int .i64 0)]] fun v B' L' => B' = B ∧ match runR rest with
    | some (b, rest') => IsB B v b ∧ ∃ rv', IsB B rv' rest' ∧ L' = [bk rb 208 [.one rv', .one (.int .i64 0)]]
    | none => v = .slice none 0 0 ∧ L' = [bk rb 208 [.one rv, .one (.int .i64 20)]] := by
  haveI := hr.one
  obtain ⟨ra, rc, rfl⟩ := hr.form
  refine tri_of fn_pack_reader_run rfl nt_pack_reader_run rfl fun W0 R => ?_
  simp only [argEnv, List.nil_append, List.cons_append]
  refine k_seq ?_
  refine k_region ?_
  refine n_y rfl (y_as rfl) rfl ?_
  refine n_nil ?_
  refine th_n ?_
  refine k_seq ?_
  refine k_seq ?_
  refine k_region ?_
  refine n_y rfl (y_mv rfl) rfl ?_
  refine n_y rfl (y_nil rfl) rfl ?_
  refine n_y rfl (y_fa rfl) rfl ?_
  refine n_y rfl (y_ld rfl rfl) rfl ?_
  refine n_y rfl (y_eq rfl rfl) rfl ?_
  rw [show decide ((0 : Int) = 0) = true from rfl]
  refine n_y rfl (y_mv rfl) rfl ?_
  refine n_y rfl (y_mv rfl) rfl ?_
  refine n_y rfl (y_nil rfl) rfl ?_
  refine n_y rfl (y_fa rfl) rfl ?_
  refine n_y rfl (y_ld rfl rfl) rfl ?_
  refine n_y rfl (y_len rfl) rfl ?_
  refine n_y rfl (y_lt rfl rfl) rfl ?_
  refine k_dec (fun c16 => ?_) (fun c16 => ?_)
  · skip
    refine n_y rfl (y_pt rfl rfl) rfl ?_
    refine n_nil ?_
    refine th_n ?_
    refine k_condt rfl ?_
    refine k_region ?_
    refine n_y rfl (y_mv rfl) rfl ?_
    refine n_y rfl (y_nil rfl) rfl ?_
    refine n_y rfl (y_fa rfl) rfl ?_
    refine n_op rfl (o_stv rfl rfl rfl rfl ?_)
    refine n_nil ?_
    refine th_n ?_
    refine k_seq ?_
    refine k_seq ?_
    refine k_region ?_
    refine n_y rfl (y_mv rfl) rfl ?_
    refine n_y rfl (y_nil rfl) rfl ?_
    refine n_y rfl (y_fa rfl) rfl ?_
    refine n_y rfl (y_ld rfl rfl) rfl ?_
    refine n_y rfl (y_ne rfl rfl) rfl ?_
    refine n_nil ?_
    refine th_n ?_
    refine k_cond rfl (fun c25 => ?_) (fun c25 => ?_)
    · skip
      refine k_seq ?_
      refine k_region ?_
      refine n_y rfl (y_as rfl) rfl ?_
      refine n_nil ?_
      refine th_n ?_
      refine k_ret ?_
      refine th_r ?_
      refine k_retn rfl (rs_t rfl (rs_nil)) (PH.le_refl _) (⟨rfl, by rw [runR, if_pos (by omega)]; exact ⟨rfl, rfl⟩⟩)
    · skip
      exact absurd c25 (by decide)
  · skip
    refine n_y rfl (y_pt rfl rfl) rfl ?_
    refine n_nil ?_
    refine th_n ?_
    refine k_condf rfl ?_
    refine k_skip ?_
    refine th_n ?_
    refine k_seq ?_
    refine k_seq ?_
    refine k_region ?_
    refine n_y rfl (y_mv rfl) rfl ?_
    refine n_y rfl (y_nil rfl) rfl ?_
    refine n_y rfl (y_fa rfl) rfl ?_
    refine n_y rfl (y_ld rfl rfl) rfl ?_
    refine n_y rfl (y_ne rfl rfl) rfl ?_
    refine n_nil ?_
    refine th_n ?_
    refine k_cond rfl (fun c25 => ?_) (fun c25 => ?_)
    · skip
      exact absurd c25 (by decide)
    · skip
      obtain ⟨qb, qo, qc, hq, hqc, hqr⟩ := hr.row (by omega)
      obtain ⟨rfl, rfl⟩ : ra = some ⟨qb, qo, none⟩ ∧ rc = qc := by simpa using hq
      have h0 := u8_lt (gB rest 0)
      have h1 := u8_lt (gB rest 1)
      have h2 := u8_lt (gB rest 2)
      have hrn := runLen_lt rest
      refine k_skip ?_
      refine th_n ?_
      refine k_seq ?_
      refine k_mix rfl [0, 1, 3, 7, 15, 31, 63, 127, 0, 256, 768, 1792, 3840, 7936, 16128, 32512, 65535, 0, 131072, 393216, 917504, 1966080, 4063232, 8257536, 16777215, 33554431] [(0, false), (1, false), (2, false), (3, false), (4, false), (5, false), (6, false), (7, false), (8, false), (9, false), (10, false), (11, false), (12, false), (13, false), (14, false), (15, false), (16, false), (17, false), (18, false), (19, false), (20, false), (21, false), (22, false), (23, false), (24, false), (25, false)] (by kernel_rfl) ?_
      refine m_p rfl rfl (fun _ _ => y_mv rfl) rfl ?_
      refine m_p rfl rfl (fun _ _ => y_nil rfl) rfl ?_
      refine m_p rfl rfl (fun _ _ => y_fa rfl) rfl ?_
      refine m_y rfl rfl (y_ld rfl rfl) rfl ?_
      refine m_p rfl rfl (fun _ _ => y_ia rfl rfl 0 rfl (by omega)) rfl ?_
      refine m_y rfl rfl (y_ldi (i := 0) rfl hqr (by omega) (cBs_get (by omega))) rfl ?_
      refine m_p rfl rfl (fun _ _ => y_cvBN rfl) rfl ?_
      refine m_p rfl rfl (fun _ _ => y_shlN (s := 16) rfl rfl (by decide) (by omega)) rfl ?_
      refine m_p rfl rfl (fun _ _ => y_mv rfl) rfl ?_
      refine m_p rfl rfl (fun _ _ => y_nil rfl) rfl ?_
      refine m_p rfl rfl (fun _ _ => y_fa rfl) rfl ?_
      refine m_y rfl rfl (y_ld rfl rfl) rfl ?_
      refine m_p rfl rfl (fun _ _ => y_ia rfl rfl 1 rfl (by omega)) rfl ?_
      refine m_y rfl rfl (y_ldi (i := 1) rfl hqr (by omega) (cBs_get (by omega))) rfl ?_
      refine m_p rfl rfl (fun _ _ => y_cvBN rfl) rfl ?_
      refine m_p rfl rfl (fun _ _ => y_shlN (s := 8) rfl rfl (by decide) (by omega)) rfl ?_
      refine m_p rfl rfl (fun _ _ => y_orN rfl rfl (by omega) (by omega)) rfl ?_
      refine m_p rfl rfl (fun _ _ => y_mv rfl) rfl ?_
      refine m_p rfl rfl (fun _ _ => y_nil rfl) rfl ?_
      refine m_p rfl rfl (fun _ _ => y_fa rfl) rfl ?_
      refine m_y rfl rfl (y_ld rfl rfl) rfl ?_
      refine m_p rfl rfl (fun _ _ => y_ia rfl rfl 2 rfl (by omega)) rfl ?_
      refine m_y rfl rfl (y_ldi (i := 2) rfl hqr (by omega) (cBs_get (by omega))) rfl ?_
      refine m_p rfl rfl (fun _ _ => y_cvBN rfl) rfl ?_
      refine m_p rfl rfl (fun _ _ => y_orN rfl rfl (Nat.lt_of_lt_of_le (Nat.or_lt_two_pow (n := 24) (by omega) (by omega)) (by decide)) (by omega)) rfl ?_
      refine m_p rfl rfl (fun _ _ => y_as rfl) rfl ?_
      rw [show ((gB rest 0).toNat * 2 ^ 16 ||| (gB rest 1).toNat * 2 ^ 8) ||| (gB rest 2).toNat = runLen rest from rfl]
      refine m_end ?_
      refine th_n ?_
      refine k_seq ?_
      refine k_seq ?_
      refine k_region ?_
      refine n_y rfl (y_mv rfl) rfl ?_
      refine n_y rfl (y_mv rfl) rfl ?_
      refine n_y rfl (y_nil rfl) rfl ?_
      refine n_y rfl (y_fa rfl) rfl ?_
      refine n_y rfl (y_ld rfl rfl) rfl ?_
      refine n_y rfl (y_len rfl) rfl ?_
      refine n_y rfl (y_sub rfl rfl (by omega)) rfl ?_
      refine n_y rfl (y_gt rfl rfl) rfl ?_
      refine n_nil ?_
      refine th_n ?_
      refine k_cond rfl (fun c58 => ?_) (fun c58 => ?_)
      · skip
        refine k_seq ?_
        refine k_region ?_
        refine n_y rfl (y_mv rfl) rfl ?_
        refine n_y rfl (y_nil rfl) rfl ?_
        refine n_y rfl (y_fa rfl) rfl ?_
        refine n_op rfl (o_stv rfl rfl rfl rfl ?_)
        refine n_nil ?_
        refine th_n ?_
        refine k_seq ?_
        refine k_region ?_
        refine n_y rfl (y_as rfl) rfl ?_
        refine n_nil ?_
        refine th_n ?_
        refine k_ret ?_
        refine th_r ?_
        refine k_retn rfl (rs_t rfl (rs_nil)) (PH.le_refl _) (⟨rfl, by rw [runR, if_neg (by omega), if_pos (by omega)]; exact ⟨rfl, rfl⟩⟩)
      · skip
        refine k_skip ?_
        refine th_n ?_
        refine k_seq ?_
        refine k_region ?_
        refine n_y rfl (y_mv rfl) rfl ?_
        refine n_y rfl (y_nil rfl) rfl ?_
        refine n_y rfl (y_fa rfl) rfl ?_
        refine n_y rfl (y_ld rfl rfl) rfl ?_
        refine n_y rfl (y_mv rfl) rfl ?_
        refine n_y rfl (y_add rfl rfl (by omega)) rfl ?_
        refine n_y rfl (y_sl rfl rfl rfl (i := 3) (j := 3 + runLen rest) rfl (by omega) (by omega) (by omega) rfl) rfl ?_
        refine n_y rfl (y_as rfl) rfl ?_
        refine n_nil ?_
        refine th_n ?_
        refine k_seq ?_
        refine k_region ?_
        refine n_y rfl (y_mv rfl) rfl ?_
        refine n_y rfl (y_mv rfl) rfl ?_
        refine n_y rfl (y_nil rfl) rfl ?_
        refine n_y rfl (y_fa rfl) rfl ?_
        refine n_y rfl (y_ld rfl rfl) rfl ?_
        refine n_y rfl (y_mv rfl) rfl ?_
        refine n_y rfl (y_add rfl rfl (by omega)) rfl ?_
        refine n_y rfl (y_sll rfl rfl (i := 3 + runLen rest) (by omega) (by omega) rfl) rfl ?_
        refine n_y rfl (y_nil rfl) rfl ?_
        refine n_y rfl (y_fa rfl) rfl ?_
        refine n_op rfl (o_stv rfl rfl rfl rfl ?_)
        refine n_nil ?_
        refine th_n ?_
        refine k_seq ?_
        refine k_region ?_
        refine n_y rfl (y_mv rfl) rfl ?_
        refine n_y rfl (y_as rfl) rfl ?_
        refine n_nil ?_
        refine th_n ?_
        refine k_ret ?_
        refine k_retn rfl (rs_t rfl (rs_nil)) (PH.le_refl _) (⟨rfl, by
          rw [runR, if_neg (by omega), if_neg (by omega)]
          have h3 := hr.sl (i := 3) (j := 3 + runLen rest) (by omega) (by omega)
          rw [Nat.add_sub_cancel_left] at h3
          refine ⟨?_, _, hr.drop (i := 3 + runLen rest) (by omega), rfl⟩
          rw [Nat.add_sub_cancel_left]
          exact h3⟩)
end Go.Proofs.Ytokekdbdnonebaa
