/- pack: numbers and runs. -/
import Derived.Test.YtokekdbdnonebaaSc
import Derived.Test.YtokekdbdnonebaaMc
namespace Go.Proofs.Ytokekdbdnonebaa
open Sc Go

theorem T_pack_number (B : PH) (n0 : Nat) (hn : n0 ≤ 9223372036854775807) : Tri Try.prog F_pack_number [.int .i64 (n0 : Int)] B [] fun v B' L' => IsB B' v (numB n0) ∧ L' = [] := by
  refine tri_of fn_pack_number rfl nt_pack_number rfl fun W0 R => ?_
  simp only [argEnv, List.nil_append, List.cons_append]
  refine k_seq ?_
  refine k_region ?_
  refine n_y rfl (y_as rfl) rfl ?_
  refine n_nil ?_
  refine th_n ?_
  refine k_seq ?_
  refine k_region ?_
  refine n_y rfl (y_as rfl) rfl ?_
  refine n_nil ?_
  refine th_n ?_
  refine k_seq ?_
  refine k_block ?_
  refine k_ownil 5 1 ?_
  refine k_loop2 (α := Nat × Value × List UInt8) [0, 3, 4, 5, 6, 7, 8, 9, 10, 11, 12] (fun z9 => numB n0 = numB z9.1 ++ z9.2.2 ∧ z9.1 ≤ 9223372036854775807 ∧ z9.2.2.length ≤ 8) (fun z9 => [(0, .int .i64 (z9.1 : Int)), (3, z9.2.1)]) (fun z9 => B) (fun z9 => [ow 5 1 z9.2.1 z9.2.2.length (cBs z9.2.2)]) (fun z9 => z9.1) (n0, .slice none 0 0, []) ⟨by simp, hn, by simp⟩ rfl ⟨rfl, rfl, trivial⟩ [ow 5 1 (.slice none 0 0) 0 []] rfl ?_
  rintro ⟨n, v, out⟩ ⟨h1, h2, h3⟩
  dsimp only at h1 h2 h3
  try conv => arg 7; dsimp only [List.nil_append, List.cons_append]
  try conv => arg 6; dsimp only
  try conv => arg 4; dsimp only [List.nil_append, List.cons_append]
  refine k_seq ?_
  refine k_seq ?_
  refine k_region ?_
  refine n_y rfl (y_mv rfl) rfl ?_
  refine n_y rfl (y_gt rfl rfl) rfl ?_
  refine n_nil ?_
  refine th_n ?_
  refine k_cond rfl (fun c5 => ?_) (fun c5 => ?_)
  · skip
    refine k_skip ?_
    refine th_n ?_
    refine k_seq ?_
    refine k_block ?_
    refine k_region ?_
    refine n_y rfl (y_mv rfl) rfl ?_
    refine n_y rfl (y_cvNB rfl) rfl ?_
    refine n_op rfl (o_bs rfl rfl rfl rfl rfl rfl fun b10 => ?_)
    refine k_bkow (sz := 1) b10 1 rfl ?_
    refine k_owf (v := v) fun hform hcl hco => ?_
    refine n_y rfl (y_mv rfl) rfl ?_
    refine n_op rfl (o_app rfl rfl rfl (src_ow (.inr trivial) hform hcl hco) rfl rfl (by omega) rfl fun v12 hv12 => ?_)
    rw [show flat [.one (cB (UInt8.ofNat n))] ++ cBs out = cBs (UInt8.ofNat n :: out) from rfl, show 1 + out.length = (UInt8.ofNat n :: out).length from Nat.add_comm _ _]
    refine n_y rfl (y_as rfl) rfl ?_
    refine n_nil ?_
    refine bl_n ?_
    refine th_n ?_
    refine k_region ?_
    refine n_y rfl (y_mv rfl) rfl ?_
    refine n_y rfl (y_shrN (s := 8) rfl rfl (by decide)) rfl ?_
    refine n_y rfl (y_as rfl) rfl ?_
    refine n_nil ?_
    refine th_n ?_
    exact k_again2 (n / 2 ^ 8, v12, UInt8.ofNat n :: out) ⟨⟨by dsimp only; rw [h1, numB_pos (by omega)]; simp, by dsimp only; omega, by
      have h4 := numB_length 8 n0 (by omega)
      rw [h1, numB_pos (by omega)] at h4
      simp at h4 ⊢; omega⟩, by dsimp only; omega⟩ rfl ⟨rfl, rfl, trivial⟩ rfl
  · skip
    obtain rfl : n = 0 := by omega
    rw [numB_zero, List.nil_append] at h1
    subst h1
    refine k_exit ?_
    refine th_x ?_
    refine th_x ?_
    refine bl_s ?_
    refine th_n ?_
    refine k_seq ?_
    refine k_region ?_
    refine n_y rfl (y_mv rfl) rfl ?_
    refine n_y rfl (y_as rfl) rfl ?_
    refine n_nil ?_
    refine th_n ?_
    refine k_ret ?_
    refine k_frzw (v := v) fun Bf hBf hrf => ?_
    refine k_retn rfl (rs_t rfl (rs_nil)) (hBf) (⟨hrf, rfl⟩)
theorem T_pack_run (B : PH) (pv : Value) (x : List UInt8) (hp : IsB B pv x) (hn : x.length < 1099511627776) : Tri Try.prog F_pack_run [pv] B [] fun v B' L' => IsB B' v (runB x) ∧ L' = [] := by
  obtain ⟨pa, pc, rfl⟩ := hp.form
  refine tri_of fn_pack_run rfl nt_pack_run rfl fun W0 R => ?_
  simp only [argEnv, List.nil_append, List.cons_append]
  refine k_seq ?_
  refine k_region ?_
  refine n_y rfl (y_as rfl) rfl ?_
  refine n_nil ?_
  refine th_n ?_
  refine k_seq ?_
  refine k_region ?_
  refine n_y rfl (y_mv rfl) rfl ?_
  refine n_y rfl (y_len rfl) rfl ?_
  refine n_y rfl (y_shrN (s := 16) rfl rfl (by decide)) rfl ?_
  refine n_y rfl (y_cvNB rfl) rfl ?_
  refine n_y rfl (y_mv rfl) rfl ?_
  refine n_y rfl (y_len rfl) rfl ?_
  refine n_y rfl (y_shrN (s := 8) rfl rfl (by decide)) rfl ?_
  refine n_y rfl (y_cvNB rfl) rfl ?_
  refine n_y rfl (y_mv rfl) rfl ?_
  refine n_y rfl (y_len rfl) rfl ?_
  refine n_y rfl (y_cvNB rfl) rfl ?_
  refine n_op rfl (o_bs rfl rfl rfl rfl rfl rfl fun b14 => ?_)
  refine k_bkow (sz := 1) b14 3 rfl ?_
  refine n_y rfl (y_mv rfl) rfl ?_
  refine n_op rfl (o_app rfl rfl rfl hp.src rfl rfl (by omega) rfl fun v16 hv16 => ?_)
  rw [show ∀ a b c : UInt8, flat [.one (cB a), .one (cB b), .one (cB c)] ++ cBs x = cBs ([a, b, c] ++ x) from fun _ _ _ => rfl, show 3 + x.length = ([UInt8.ofNat (x.length / 2 ^ 16), UInt8.ofNat (x.length / 2 ^ 8), UInt8.ofNat x.length] ++ x).length by simp; omega]
  refine n_y rfl (y_as rfl) rfl ?_
  refine n_nil ?_
  refine th_n ?_
  refine k_ret ?_
  refine k_frzw (v := v16) fun Bf hBf hrf => ?_
  refine k_retn rfl (rs_t rfl (rs_nil)) (hBf) (⟨hrf, rfl⟩)
end Go.Proofs.Ytokekdbdnonebaa
