/- sum: a block taken in. -/
import Derived.Test.YtokekdbdnonebaaTy
import Derived.Test.YtokekdbdnonebaaMa
namespace Go.Proofs.Ytokekdbdnonebaa
open Sc Go

theorem T_math_bits_RotateLeft32 (B : PH) (x : UInt32) (j : Nat) (h1 : 1 ≤ j) (h2 : j ≤ 31) : Tri Try.prog F_math_bits_RotateLeft32 [cW x, .int .i64 (-(j : Int))] B [] fun v B' L' => v = cW (rot x j) ∧ B' = B ∧ L' = [] := by
  refine tri_of fn_math_bits_RotateLeft32 rfl nt_math_bits_RotateLeft32 rfl fun W0 R => ?_
  simp only [argEnv, List.nil_append, List.cons_append]
  refine k_seq ?_
  refine k_region ?_
  refine n_y rfl (y_as rfl) rfl ?_
  refine n_nil ?_
  refine th_n ?_
  refine k_seq ?_
  refine k_region ?_
  refine n_y rfl (y_mv rfl) rfl ?_
  refine n_y rfl (y_cv (k := .u64) rfl) rfl ?_
  have e1 : IntKind.u64.wrap (-(j : Int)) = ((18446744073709551616 - j : Nat) : Int) := by
    rw [wrapU _ rfl, show (2 : Int) ^ IntKind.u64.bits = 18446744073709551616 from rfl]
    omega
  rw [e1]
  refine n_y rfl (y_andU (q := 31) rfl rfl rfl (by show _ < 2 ^ 64; omega) (by decide)) rfl ?_
  have e2 : (18446744073709551616 - j) &&& 31 = 32 - j := by
    rw [show (31 : Nat) = 2 ^ 5 - 1 from rfl, Nat.and_two_pow_sub_one_eq_mod]; omega
  rw [e2]
  refine n_y rfl (y_as rfl) rfl ?_
  refine n_nil ?_
  refine th_n ?_
  refine k_seq ?_
  refine k_region ?_
  refine n_y rfl (y_mv rfl) rfl ?_
  refine n_y rfl (y_mv rfl) rfl ?_
  refine n_y rfl (y_shlW rfl rfl (by omega)) rfl ?_
  refine n_y rfl (y_mv rfl) rfl ?_
  refine n_y rfl (y_mv rfl) rfl ?_
  refine n_y rfl (y_subw (m := 32) rfl rfl) rfl ?_
  have e3 : IntKind.u64.wrap ((32 : Int) - ((32 - j : Nat) : Int)) = ((j : Nat) : Int) := by
    rw [wrapU _ rfl, show (2 : Int) ^ IntKind.u64.bits = 18446744073709551616 from rfl]
    omega
  rw [e3]
  refine n_y rfl (y_shrW rfl rfl (by omega)) rfl ?_
  refine n_y rfl (y_orW rfl rfl) rfl ?_
  refine n_y rfl (y_as rfl) rfl ?_
  refine n_nil ?_
  refine th_n ?_
  refine k_ret ?_
  refine k_retn rfl (rs_t rfl (rs_nil)) (PH.le_refl _) (⟨rfl, rfl, rfl⟩)
theorem T_sum_state_take (B : PH) (bs bb : Nat) (st : List UInt32) (b : List UInt8) (hs : st.length = 8) (hb : b.length = 64) : Tri Try.prog F_sum_state_take [.pointer (some ⟨bs, 0, none⟩), .pointer (some ⟨bb, 0, none⟩)] B [bk bs 216 [.row 8 (cWs st)], bk bb 220 [.row 64 (cBs b)]] fun v B' L' => v = .tuple #[] ∧ B' = B ∧ L' = [bk bs 216 [.row 8 (cWs (takeB st b))], bk bb 220 [.row 64 (cBs b)]] := by
  haveI := rowW hs
  haveI := rowB hb
  refine tri_of fn_sum_state_take rfl nt_sum_state_take rfl fun W0 R => ?_
  simp only [argEnv, List.nil_append, List.cons_append]
  refine k_seq ?_
  refine k_region ?_
  refine n_y rfl (y_bdw rfl rfl (cWs kK) (by kernel_rfl) rfl (by kernel_rfl)) rfl ?_
  refine n_op rfl (o_al rfl fun b4 => ?_)
  refine n_op rfl (o_stv rfl rfl rfl rfl ?_)
  refine n_nil ?_
  refine th_n ?_
  refine k_seq ?_
  refine k_region ?_
  refine n_op rfl (o_al rfl fun b5 => ?_)
  refine k_reseg b5 [.row 64 (cWs (sched b 0))] (by kernel_rfl) (ho := oks_rowW rfl) ?_
  refine n_nil ?_
  refine th_n ?_
  refine k_seq ?_
  refine k_seq ?_
  refine k_region ?_
  refine n_y rfl (y_mv rfl) rfl ?_
  refine n_nil ?_
  refine th_n ?_
  refine k_block ?_
  refine k_loop2 (α := Nat) [6, 7, 8, 9, 10, 19, 20, 21, 22, 23, 24, 25, 26, 27, 28, 29, 30, 31, 32, 33, 34, 35, 36, 37, 38, 39, 40, 41, 42, 43, 44, 45, 46, 47, 48, 49, 50, 51, 52, 53, 54, 55, 56, 57, 58, 59, 60, 61, 62, 63, 64, 65, 66, 67, 68, 69, 70, 71, 72, 73, 74, 75, 76, 77, 78, 79, 80, 81, 82, 83, 84, 85, 86, 87, 88, 89, 90, 91, 92, 93, 94, 95, 96, 97, 98, 99, 100, 101, 102] (fun i => i ≤ 64) (fun i => [(19, .int .i64 (i : Int))]) (fun i => B) (fun i => [bk b5 236 [.row 64 (cWs (sched b i))]]) (fun i => 64 - i) 0 (by omega) rfl ⟨rfl, trivial⟩ _ rfl ?_
  rintro i hi
  have hsl := sched_length b i
  try conv => arg 7; dsimp only [List.nil_append, List.cons_append]
  try conv => arg 6; dsimp only
  try conv => arg 4; dsimp only [List.nil_append, List.cons_append]
  refine k_seq ?_
  refine k_region ?_
  refine n_y rfl (y_lt rfl rfl) rfl ?_
  refine n_nil ?_
  refine th_n ?_
  refine k_seq ?_
  refine k_cond rfl (fun c20 => ?_) (fun c20 => ?_)
  · skip
    refine k_skip ?_
    refine th_n ?_
    refine k_seq ?_
    refine k_block ?_
    refine k_seq ?_
    refine k_region ?_
    refine n_y rfl (y_mv rfl) rfl ?_
    refine n_y rfl (y_as rfl) rfl ?_
    refine n_nil ?_
    refine th_n ?_
    refine k_seq ?_
    refine k_seq ?_
    refine k_region ?_
    refine n_y rfl (y_mv rfl) rfl ?_
    refine n_y rfl (y_lt rfl rfl) rfl ?_
    refine n_nil ?_
    refine th_n ?_
    refine k_cond rfl (fun c23 => ?_) (fun c23 => ?_)
    · skip
      refine k_seq ?_
      refine k_mix rfl [0, 0, 0, 4, 2, 30, 62, 126, 254, 0, 0, 1024, 3072, 512, 15872, 32256, 65024, 130560, 262142, 0, 0, 1048576, 3145728, 524288, 16252928, 33030144, 66584576, 133693440, 268435454, 0, 0, 1073741824, 3221225472, 536870912, 16642998272, 33822867456, 68182605824, 137438953470, 274877906943, 549755813887] [(0, false), (1, false), (2, false), (3, false), (4, false), (5, false), (6, false), (7, false), (8, false), (9, false), (10, false), (11, false), (12, false), (13, false), (14, false), (15, false), (16, false), (17, false), (18, false), (19, false), (20, false), (21, false), (22, false), (23, false), (24, false), (25, false), (26, false), (27, false), (28, false), (29, false), (30, false), (31, false), (32, false), (33, false), (34, false), (35, false), (36, false), (37, false), (38, false), (39, true)] (by kernel_rfl) ?_
      refine m_p rfl rfl (fun _ _ => y_mv rfl) rfl ?_
      refine m_p rfl rfl (fun _ _ => y_mv rfl) rfl ?_
      refine m_p rfl rfl (fun _ _ => y_mv rfl) rfl ?_
      refine m_p rfl rfl (fun _ _ => y_mul rfl rfl (by omega)) rfl ?_
      refine m_p rfl rfl (fun _ _ => y_nil rfl) rfl ?_
      refine m_p rfl rfl (fun _ _ => y_iaa rfl rfl (4 * i) (by omega) (by omega)) rfl ?_
      refine m_y rfl rfl (y_ldB (d := 4 * i) rfl (by omega) (by omega)) rfl ?_
      refine m_p rfl rfl (fun _ _ => y_cvBW rfl) rfl ?_
      refine m_p rfl rfl (fun _ _ => y_shlW (s := 24) rfl rfl (by decide)) rfl ?_
      refine m_p rfl rfl (fun _ _ => y_mv rfl) rfl ?_
      refine m_p rfl rfl (fun _ _ => y_mv rfl) rfl ?_
      refine m_p rfl rfl (fun _ _ => y_mul rfl rfl (by omega)) rfl ?_
      refine m_p rfl rfl (fun _ _ => y_add rfl rfl (by omega)) rfl ?_
      refine m_p rfl rfl (fun _ _ => y_nil rfl) rfl ?_
      refine m_p rfl rfl (fun _ _ => y_iaa rfl rfl (4 * i + 1) (by omega) (by omega)) rfl ?_
      refine m_y rfl rfl (y_ldB (d := 4 * i + 1) rfl (by omega) (by omega)) rfl ?_
      refine m_p rfl rfl (fun _ _ => y_cvBW rfl) rfl ?_
      refine m_p rfl rfl (fun _ _ => y_shlW (s := 16) rfl rfl (by decide)) rfl ?_
      refine m_p rfl rfl (fun _ _ => y_orW rfl rfl) rfl ?_
      refine m_p rfl rfl (fun _ _ => y_mv rfl) rfl ?_
      refine m_p rfl rfl (fun _ _ => y_mv rfl) rfl ?_
      refine m_p rfl rfl (fun _ _ => y_mul rfl rfl (by omega)) rfl ?_
      refine m_p rfl rfl (fun _ _ => y_add rfl rfl (by omega)) rfl ?_
      refine m_p rfl rfl (fun _ _ => y_nil rfl) rfl ?_
      refine m_p rfl rfl (fun _ _ => y_iaa rfl rfl (4 * i + 2) (by omega) (by omega)) rfl ?_
      refine m_y rfl rfl (y_ldB (d := 4 * i + 2) rfl (by omega) (by omega)) rfl ?_
      refine m_p rfl rfl (fun _ _ => y_cvBW rfl) rfl ?_
      refine m_p rfl rfl (fun _ _ => y_shlW (s := 8) rfl rfl (by decide)) rfl ?_
      refine m_p rfl rfl (fun _ _ => y_orW rfl rfl) rfl ?_
      refine m_p rfl rfl (fun _ _ => y_mv rfl) rfl ?_
      refine m_p rfl rfl (fun _ _ => y_mv rfl) rfl ?_
      refine m_p rfl rfl (fun _ _ => y_mul rfl rfl (by omega)) rfl ?_
      refine m_p rfl rfl (fun _ _ => y_add rfl rfl (by omega)) rfl ?_
      refine m_p rfl rfl (fun _ _ => y_nil rfl) rfl ?_
      refine m_p rfl rfl (fun _ _ => y_iaa rfl rfl (4 * i + 3) (by omega) (by omega)) rfl ?_
      refine m_y rfl rfl (y_ldB (d := 4 * i + 3) rfl (by omega) (by omega)) rfl ?_
      refine m_p rfl rfl (fun _ _ => y_cvBW rfl) rfl ?_
      refine m_p rfl rfl (fun _ _ => y_orW rfl rfl) rfl ?_
      refine m_p rfl rfl (fun _ _ => y_iaa rfl rfl _ rfl (by omega)) rfl ?_
      refine m_mv0 [false, false, false, false] rfl rfl (by kernel_rfl) fun W1 ds1 ro1 Q1 K1 hK1 => ?_
      refine o_stW (d := i) rfl rfl (by omega) (by omega) (by omega) ?_
      rw [show (sched b i).set i _ = sched b (i + 1) by rw [sched, wstep, if_pos (by omega)]]
      refine hK1  _ _ (PH.le_refl _) trivial ?_
      refine m_end ?_
      refine th_n ?_
      refine k_exit ?_
      refine th_x ?_
      refine bl_s ?_
      refine th_n ?_
      refine k_region ?_
      refine n_y rfl (y_add rfl rfl (by omega)) rfl ?_
      refine n_y rfl (y_mv rfl) rfl ?_
      refine n_nil ?_
      refine th_n ?_
      exact k_again2 (i + 1) ⟨by omega, by omega⟩ rfl ⟨rfl, trivial⟩ rfl
    · skip
      refine k_skip ?_
      refine th_n ?_
      refine k_seq ?_
      refine k_mix rfl [0, 1, 3, 7, 0, 16, 48, 112, 15, 511] [(0, false), (1, false), (2, false), (3, false), (4, false), (5, false), (6, false), (7, false), (8, false), (9, false)] (by kernel_rfl) ?_
      refine m_p rfl rfl (fun _ _ => y_mv rfl) rfl ?_
      refine m_p rfl rfl (fun _ _ => y_sub rfl rfl (by omega)) rfl ?_
      refine m_p rfl rfl (fun _ _ => y_iaa rfl rfl (i - 15) (by omega) (by omega)) rfl ?_
      refine m_y rfl rfl (y_ldW (d := i - 15) rfl (by omega) (by omega)) rfl ?_
      refine m_p rfl rfl (fun _ _ => y_mv rfl) rfl ?_
      refine m_p rfl rfl (fun _ _ => y_sub rfl rfl (by omega)) rfl ?_
      refine m_p rfl rfl (fun _ _ => y_iaa rfl rfl (i - 2) (by omega) (by omega)) rfl ?_
      refine m_y rfl rfl (y_ldW (d := i - 2) rfl (by omega) (by omega)) rfl ?_
      refine m_p rfl rfl (fun _ _ => y_as rfl) rfl ?_
      refine m_p rfl rfl (fun _ _ => y_as rfl) rfl ?_
      refine m_end ?_
      refine th_n ?_
      refine k_seq ?_
      refine k_region ?_
      refine n_y rfl (y_mv rfl) rfl ?_
      refine n_op rfl (o_call rfl (T_math_bits_RotateLeft32 _ _ 7 (by decide) (by decide)) rfl ?_)
      rintro v72 B72 L72 hB72 ⟨rfl, rfl, rfl⟩
      try conv => arg 7; dsimp only [List.nil_append, List.cons_append]
      refine n_y rfl (y_mv rfl) rfl ?_
      refine n_op rfl (o_call rfl (T_math_bits_RotateLeft32 _ _ 18 (by decide) (by decide)) rfl ?_)
      rintro v74 B74 L74 hB74 ⟨rfl, rfl, rfl⟩
      try conv => arg 7; dsimp only [List.nil_append, List.cons_append]
      refine n_y rfl (y_xorW rfl rfl) rfl ?_
      refine n_y rfl (y_mv rfl) rfl ?_
      refine n_y rfl (y_shrW (s := 3) rfl rfl (by decide)) rfl ?_
      refine n_y rfl (y_xorW rfl rfl) rfl ?_
      refine n_y rfl (y_as rfl) rfl ?_
      refine n_nil ?_
      refine th_n ?_
      refine k_seq ?_
      refine k_region ?_
      refine n_y rfl (y_mv rfl) rfl ?_
      refine n_op rfl (o_call rfl (T_math_bits_RotateLeft32 _ _ 17 (by decide) (by decide)) rfl ?_)
      rintro v80 B80 L80 hB80 ⟨rfl, rfl, rfl⟩
      try conv => arg 7; dsimp only [List.nil_append, List.cons_append]
      refine n_y rfl (y_mv rfl) rfl ?_
      refine n_op rfl (o_call rfl (T_math_bits_RotateLeft32 _ _ 19 (by decide) (by decide)) rfl ?_)
      rintro v82 B82 L82 hB82 ⟨rfl, rfl, rfl⟩
      try conv => arg 7; dsimp only [List.nil_append, List.cons_append]
      refine n_y rfl (y_xorW rfl rfl) rfl ?_
      refine n_y rfl (y_mv rfl) rfl ?_
      refine n_y rfl (y_shrW (s := 10) rfl rfl (by decide)) rfl ?_
      refine n_y rfl (y_xorW rfl rfl) rfl ?_
      refine n_y rfl (y_as rfl) rfl ?_
      refine n_nil ?_
      refine th_n ?_
      refine k_mix rfl [0, 0, 2, 6, 14, 0, 62, 0, 128, 384, 896, 2046, 0, 8190, 16383, 32767] [(0, false), (1, false), (2, false), (3, false), (4, false), (5, false), (6, false), (7, false), (8, false), (9, false), (10, false), (11, false), (12, false), (13, false), (14, false), (15, true)] (by kernel_rfl) ?_
      refine m_p rfl rfl (fun _ _ => y_mv rfl) rfl ?_
      refine m_p rfl rfl (fun _ _ => y_mv rfl) rfl ?_
      refine m_p rfl rfl (fun _ _ => y_sub rfl rfl (by omega)) rfl ?_
      refine m_p rfl rfl (fun _ _ => y_iaa rfl rfl (i - 16) (by omega) (by omega)) rfl ?_
      refine m_y rfl rfl (y_ldW (d := i - 16) rfl (by omega) (by omega)) rfl ?_
      refine m_p rfl rfl (fun _ _ => y_mv rfl) rfl ?_
      refine m_p rfl rfl (fun _ _ => y_addW rfl rfl) rfl ?_
      refine m_p rfl rfl (fun _ _ => y_mv rfl) rfl ?_
      refine m_p rfl rfl (fun _ _ => y_sub rfl rfl (by omega)) rfl ?_
      refine m_p rfl rfl (fun _ _ => y_iaa rfl rfl (i - 7) (by omega) (by omega)) rfl ?_
      refine m_y rfl rfl (y_ldW (d := i - 7) rfl (by omega) (by omega)) rfl ?_
      refine m_p rfl rfl (fun _ _ => y_addW rfl rfl) rfl ?_
      refine m_p rfl rfl (fun _ _ => y_mv rfl) rfl ?_
      refine m_p rfl rfl (fun _ _ => y_addW rfl rfl) rfl ?_
      refine m_p rfl rfl (fun _ _ => y_iaa rfl rfl _ rfl (by omega)) rfl ?_
      refine m_mv0 [false, false] rfl rfl (by kernel_rfl) fun W1 ds1 ro1 Q1 K1 hK1 => ?_
      refine o_stW (d := i) rfl rfl (by omega) (by omega) (by omega) ?_
      rw [show (sched b i).set i _ = sched b (i + 1) by rw [sched, wstep, if_neg (by omega)]]
      refine hK1  _ _ (PH.le_refl _) trivial ?_
      refine m_end ?_
      refine bl_n ?_
      refine th_n ?_
      refine k_region ?_
      refine n_y rfl (y_add rfl rfl (by omega)) rfl ?_
      refine n_y rfl (y_mv rfl) rfl ?_
      refine n_nil ?_
      refine th_n ?_
      exact k_again2 (i + 1) ⟨by omega, by omega⟩ rfl ⟨rfl, trivial⟩ rfl
  · skip
    obtain rfl : i = 64 := by omega
    refine k_exit ?_
    refine th_x ?_
    refine th_x ?_
    refine bl_s ?_
    refine th_n ?_
    refine k_seq ?_
    refine k_region ?_
    refine n_y rfl (y_mv rfl) rfl ?_
    refine n_y rfl (y_nil rfl) rfl ?_
    refine n_y rfl (y_lda rfl rfl) rfl ?_
    refine n_op rfl (o_al rfl fun b11 => ?_)
    refine n_op rfl (o_stv rfl rfl rfl rfl ?_)
    refine n_nil ?_
    refine th_n ?_
    refine k_seq ?_
    refine k_seq ?_
    refine k_region ?_
    refine n_y rfl (y_mv rfl) rfl ?_
    refine n_nil ?_
    refine th_n ?_
    refine k_block ?_
    refine k_loop2 (α := Nat) [12, 13, 14, 15, 16, 106, 107, 108, 109, 110, 111, 112, 113, 114, 115, 116, 117, 118, 119, 120, 121, 122, 123, 124, 125, 126, 127, 128, 129, 130, 131, 132, 133, 134, 135, 136, 137, 138, 139, 140, 141, 142, 143, 144, 145, 146, 147, 148, 149, 150, 151, 152, 153, 154, 155, 156, 157, 158, 159, 160, 161, 162, 163, 164, 165, 166, 167, 168, 169, 170, 171, 172, 173, 174, 175, 176, 177, 178, 179, 180, 181, 182] (fun i => i ≤ 64) (fun i => [(106, .int .i64 (i : Int))]) (fun i => B) (fun i => [bk b11 216 [.row 8 (cWs (vrun (sched b 64) st i))]]) (fun i => 64 - i) 0 (by omega) rfl ⟨rfl, trivial⟩ [bk b11 216 [.row 8 (cWs st)]] rfl ?_
    rintro i hi
    have hvl := vrun_length (sched b 64) st hs i
    have hsl := sched_length b 64
    have hkl : kK.length = 64 := rfl
    try conv => arg 7; dsimp only [List.nil_append, List.cons_append]
    try conv => arg 6; dsimp only
    try conv => arg 4; dsimp only [List.nil_append, List.cons_append]
    refine k_seq ?_
    refine k_region ?_
    refine n_y rfl (y_lt rfl rfl) rfl ?_
    refine n_nil ?_
    refine th_n ?_
    refine k_seq ?_
    refine k_cond rfl (fun c107 => ?_) (fun c107 => ?_)
    · skip
      refine k_skip ?_
      refine th_n ?_
      refine k_seq ?_
      refine k_block ?_
      refine k_seq ?_
      refine k_region ?_
      refine n_y rfl (y_mv rfl) rfl ?_
      refine n_y rfl (y_as rfl) rfl ?_
      refine n_nil ?_
      refine th_n ?_
      refine k_seq ?_
      refine k_mix rfl [0, 1, 0, 4, 3, 31] [(0, false), (1, false), (2, false), (3, false), (4, false), (5, false)] (by kernel_rfl) ?_
      refine m_p rfl rfl (fun _ _ => y_iaa rfl rfl 4 rfl (by decide)) rfl ?_
      refine m_y rfl rfl (y_ldW (d := 4) rfl (by omega) (by omega)) rfl ?_
      refine m_p rfl rfl (fun _ _ => y_iaa rfl rfl 0 rfl (by decide)) rfl ?_
      refine m_y rfl rfl (y_ldW (d := 0) rfl (by omega) (by omega)) rfl ?_
      refine m_p rfl rfl (fun _ _ => y_as rfl) rfl ?_
      refine m_p rfl rfl (fun _ _ => y_as rfl) rfl ?_
      refine m_end ?_
      refine th_n ?_
      refine k_seq ?_
      refine k_mix rfl [0, 1, 0, 4, 0, 28, 60, 0, 188, 508, 1023, 0, 2048, 0, 0, 16384, 0, 65536, 245760, 516096, 1046528, 2097151, 0, 4194304, 12582912, 33554431, 0, 67108864, 201326592, 536870911, 1073741823] [(0, false), (1, false), (2, false), (4, false), (7, false), (11, false), (12, false), (13, false), (14, false), (15, false), (16, false), (17, false), (18, false), (19, false), (20, false), (22, false), (23, false), (24, false), (26, false), (27, false), (28, false), (3, true), (5, true), (6, false), (8, true), (9, false), (10, false), (21, false), (25, false), (29, false), (30, false)] (by kernel_rfl) ?_
      refine m_p rfl rfl (fun _ _ => y_iaa rfl rfl 7 rfl (by decide)) rfl ?_
      refine m_y rfl rfl (y_ldW (d := 7) rfl (by omega) (by omega)) rfl ?_
      refine m_p rfl rfl (fun _ _ => y_mv rfl) rfl ?_
      refine m_p rfl rfl (fun _ _ => y_mv rfl) rfl ?_
      refine m_p rfl rfl (fun _ _ => y_mv rfl) rfl ?_
      refine m_p rfl rfl (fun _ _ => y_iaa rfl rfl 6 rfl (by decide)) rfl ?_
      refine m_y rfl rfl (y_ldW (d := 6) rfl (by omega) (by omega)) rfl ?_
      refine m_p rfl rfl (fun _ _ => y_mv rfl) rfl ?_
      refine m_p rfl rfl (fun _ _ => y_iaa rfl rfl 5 rfl (by decide)) rfl ?_
      refine m_y rfl rfl (y_ldW (d := 5) rfl (by omega) (by omega)) rfl ?_
      refine m_p rfl rfl (fun _ _ => y_iaa rfl rfl 6 rfl (by decide)) rfl ?_
      refine m_y rfl rfl (y_ldW (d := 6) rfl (by omega) (by omega)) rfl ?_
      refine m_p rfl rfl (fun _ _ => y_xorW rfl rfl) rfl ?_
      refine m_p rfl rfl (fun _ _ => y_andW rfl rfl) rfl ?_
      refine m_p rfl rfl (fun _ _ => y_xorW rfl rfl) rfl ?_
      refine m_p rfl rfl (fun _ _ => y_mv rfl) rfl ?_
      refine m_p rfl rfl (fun _ _ => y_iaa rfl rfl _ rfl (by omega)) rfl ?_
      refine m_y rfl rfl (y_ldW (d := i) rfl (by omega) (by omega)) rfl ?_
      refine m_p rfl rfl (fun _ _ => y_mv rfl) rfl ?_
      refine m_p rfl rfl (fun _ _ => y_iaa rfl rfl _ rfl (by omega)) rfl ?_
      refine m_y rfl rfl (y_ldW (d := i) rfl (by omega) (by omega)) rfl ?_
      refine m_mv1 [true, true, true, true, true, true] rfl rfl rfl (by kernel_rfl) fun W1 ds1 ro1 Q1 K1 hK1 => ?_
      refine o_call rfl (T_math_bits_RotateLeft32 _ _ 6 (by decide) (by decide)) rfl ?_
      rintro v116 B116 L116 hB116 ⟨rfl, rfl, rfl⟩
      try conv => arg 7; dsimp only [List.nil_append, List.cons_append]
      refine hK1 _ _ _ (hB116) ⟨qy_y rfl (y_ldW (d := i) rfl (by omega) (by omega)), qy_y rfl (y_ldW (d := i) rfl (by omega) (by omega)), qy_y rfl (y_ldW (d := 6) rfl (by omega) (by omega)), qy_y rfl (y_ldW (d := 5) rfl (by omega) (by omega)), qy_y rfl (y_ldW (d := 6) rfl (by omega) (by omega)), qy_y rfl (y_ldW (d := 7) rfl (by omega) (by omega)), ⟨⟩⟩ ?_
      refine m_mv1 [true, true, true, true, true, true] rfl rfl rfl (by kernel_rfl) fun W1 ds1 ro1 Q1 K1 hK1 => ?_
      refine o_call rfl (T_math_bits_RotateLeft32 _ _ 11 (by decide) (by decide)) rfl ?_
      rintro v118 B118 L118 hB118 ⟨rfl, rfl, rfl⟩
      try conv => arg 7; dsimp only [List.nil_append, List.cons_append]
      refine hK1 _ _ _ (hB118) ⟨qy_y rfl (y_ldW (d := i) rfl (by omega) (by omega)), qy_y rfl (y_ldW (d := i) rfl (by omega) (by omega)), qy_y rfl (y_ldW (d := 6) rfl (by omega) (by omega)), qy_y rfl (y_ldW (d := 5) rfl (by omega) (by omega)), qy_y rfl (y_ldW (d := 6) rfl (by omega) (by omega)), qy_y rfl (y_ldW (d := 7) rfl (by omega) (by omega)), ⟨⟩⟩ ?_
      refine m_p rfl rfl (fun _ _ => y_xorW rfl rfl) rfl ?_
      refine m_mv1 [true, true, true, true, true, true] rfl rfl rfl (by kernel_rfl) fun W1 ds1 ro1 Q1 K1 hK1 => ?_
      refine o_call rfl (T_math_bits_RotateLeft32 _ _ 25 (by decide) (by decide)) rfl ?_
      rintro v121 B121 L121 hB121 ⟨rfl, rfl, rfl⟩
      try conv => arg 7; dsimp only [List.nil_append, List.cons_append]
      refine hK1 _ _ _ (hB121) ⟨qy_y rfl (y_ldW (d := i) rfl (by omega) (by omega)), qy_y rfl (y_ldW (d := i) rfl (by omega) (by omega)), qy_y rfl (y_ldW (d := 6) rfl (by omega) (by omega)), qy_y rfl (y_ldW (d := 5) rfl (by omega) (by omega)), qy_y rfl (y_ldW (d := 6) rfl (by omega) (by omega)), qy_y rfl (y_ldW (d := 7) rfl (by omega) (by omega)), ⟨⟩⟩ ?_
      refine m_p rfl rfl (fun _ _ => y_xorW rfl rfl) rfl ?_
      refine m_p rfl rfl (fun _ _ => y_addW rfl rfl) rfl ?_
      refine m_p rfl rfl (fun _ _ => y_addW rfl rfl) rfl ?_
      refine m_p rfl rfl (fun _ _ => y_addW rfl rfl) rfl ?_
      refine m_p rfl rfl (fun _ _ => y_addW rfl rfl) rfl ?_
      refine m_p rfl rfl (fun _ _ => y_as rfl) rfl ?_
      refine m_end ?_
      refine th_n ?_
      refine k_seq ?_
      refine k_mix rfl [0, 1, 0, 7, 15, 0, 47, 127, 0, 0, 512, 1792, 0, 4096, 0, 0, 32768, 114688, 258048, 524032, 1048575, 2097151] [(0, false), (2, false), (5, false), (8, false), (9, false), (10, false), (11, false), (12, false), (13, false), (14, false), (15, false), (16, false), (17, false), (18, false), (19, false), (1, true), (3, true), (4, false), (6, true), (7, false), (20, false), (21, false)] (by kernel_rfl) ?_
      refine m_p rfl rfl (fun _ _ => y_mv rfl) rfl ?_
      refine m_p rfl rfl (fun _ _ => y_mv rfl) rfl ?_
      refine m_p rfl rfl (fun _ _ => y_mv rfl) rfl ?_
      refine m_p rfl rfl (fun _ _ => y_mv rfl) rfl ?_
      refine m_p rfl rfl (fun _ _ => y_iaa rfl rfl 1 rfl (by decide)) rfl ?_
      refine m_y rfl rfl (y_ldW (d := 1) rfl (by omega) (by omega)) rfl ?_
      refine m_p rfl rfl (fun _ _ => y_andW rfl rfl) rfl ?_
      refine m_p rfl rfl (fun _ _ => y_iaa rfl rfl 2 rfl (by decide)) rfl ?_
      refine m_y rfl rfl (y_ldW (d := 2) rfl (by omega) (by omega)) rfl ?_
      refine m_p rfl rfl (fun _ _ => y_mv rfl) rfl ?_
      refine m_p rfl rfl (fun _ _ => y_iaa rfl rfl 1 rfl (by decide)) rfl ?_
      refine m_y rfl rfl (y_ldW (d := 1) rfl (by omega) (by omega)) rfl ?_
      refine m_p rfl rfl (fun _ _ => y_orW rfl rfl) rfl ?_
      refine m_p rfl rfl (fun _ _ => y_andW rfl rfl) rfl ?_
      refine m_p rfl rfl (fun _ _ => y_orW rfl rfl) rfl ?_
      refine m_mv1 [true, true, true] rfl rfl rfl (by kernel_rfl) fun W1 ds1 ro1 Q1 K1 hK1 => ?_
      refine o_call rfl (T_math_bits_RotateLeft32 _ _ 2 (by decide) (by decide)) rfl ?_
      rintro v144 B144 L144 hB144 ⟨rfl, rfl, rfl⟩
      try conv => arg 7; dsimp only [List.nil_append, List.cons_append]
      refine hK1 _ _ _ (hB144) ⟨qy_y rfl (y_ldW (d := 1) rfl (by omega) (by omega)), qy_y rfl (y_ldW (d := 2) rfl (by omega) (by omega)), qy_y rfl (y_ldW (d := 1) rfl (by omega) (by omega)), ⟨⟩⟩ ?_
      refine m_mv1 [true, true, true] rfl rfl rfl (by kernel_rfl) fun W1 ds1 ro1 Q1 K1 hK1 => ?_
      refine o_call rfl (T_math_bits_RotateLeft32 _ _ 13 (by decide) (by decide)) rfl ?_
      rintro v146 B146 L146 hB146 ⟨rfl, rfl, rfl⟩
      try conv => arg 7; dsimp only [List.nil_append, List.cons_append]
      refine hK1 _ _ _ (hB146) ⟨qy_y rfl (y_ldW (d := 1) rfl (by omega) (by omega)), qy_y rfl (y_ldW (d := 2) rfl (by omega) (by omega)), qy_y rfl (y_ldW (d := 1) rfl (by omega) (by omega)), ⟨⟩⟩ ?_
      refine m_p rfl rfl (fun _ _ => y_xorW rfl rfl) rfl ?_
      refine m_mv1 [true, true, true] rfl rfl rfl (by kernel_rfl) fun W1 ds1 ro1 Q1 K1 hK1 => ?_
      refine o_call rfl (T_math_bits_RotateLeft32 _ _ 22 (by decide) (by decide)) rfl ?_
      rintro v149 B149 L149 hB149 ⟨rfl, rfl, rfl⟩
      try conv => arg 7; dsimp only [List.nil_append, List.cons_append]
      refine hK1 _ _ _ (hB149) ⟨qy_y rfl (y_ldW (d := 1) rfl (by omega) (by omega)), qy_y rfl (y_ldW (d := 2) rfl (by omega) (by omega)), qy_y rfl (y_ldW (d := 1) rfl (by omega) (by omega)), ⟨⟩⟩ ?_
      refine m_p rfl rfl (fun _ _ => y_xorW rfl rfl) rfl ?_
      refine m_p rfl rfl (fun _ _ => y_addW rfl rfl) rfl ?_
      refine m_p rfl rfl (fun _ _ => y_as rfl) rfl ?_
      refine m_end ?_
      refine th_n ?_
      refine k_region ?_
      refine n_y rfl (y_mv rfl) rfl ?_
      refine n_y rfl (y_mv rfl) rfl ?_
      refine n_y rfl (y_addW rfl rfl) rfl ?_
      refine n_y rfl (y_mv rfl) rfl ?_
      refine n_y rfl (y_iaa rfl rfl 1 rfl (by decide)) rfl ?_
      refine n_y rfl (y_ldW (d := 1) rfl (by omega) (by omega)) rfl ?_
      refine n_y rfl (y_iaa rfl rfl 2 rfl (by decide)) rfl ?_
      refine n_y rfl (y_ldW (d := 2) rfl (by omega) (by omega)) rfl ?_
      refine n_y rfl (y_iaa rfl rfl 3 rfl (by decide)) rfl ?_
      refine n_y rfl (y_ldW (d := 3) rfl (by omega) (by omega)) rfl ?_
      refine n_y rfl (y_mv rfl) rfl ?_
      refine n_y rfl (y_addW rfl rfl) rfl ?_
      refine n_y rfl (y_mv rfl) rfl ?_
      refine n_y rfl (y_iaa rfl rfl 5 rfl (by decide)) rfl ?_
      refine n_y rfl (y_ldW (d := 5) rfl (by omega) (by omega)) rfl ?_
      refine n_y rfl (y_iaa rfl rfl 6 rfl (by decide)) rfl ?_
      refine n_y rfl (y_ldW (d := 6) rfl (by omega) (by omega)) rfl ?_
      refine n_y rfl (y_bd rfl rfl) rfl ?_
      refine n_op rfl (o_stv rfl rfl rfl rfl ?_)
      refine k_reseg b11 [.row 8 (cWs (vrun (sched b 64) st (i + 1)))] (by rfl) (ho := oks_rowW (vrun_length _ _ hs _)) ?_
      refine n_nil ?_
      refine bl_n ?_
      refine th_n ?_
      refine k_region ?_
      refine n_y rfl (y_add rfl rfl (by omega)) rfl ?_
      refine n_y rfl (y_mv rfl) rfl ?_
      refine n_nil ?_
      refine th_n ?_
      exact k_again2 (i + 1) ⟨by omega, by omega⟩ rfl ⟨rfl, trivial⟩ rfl
    · skip
      obtain rfl : i = 64 := by omega
      refine k_exit ?_
      refine th_x ?_
      refine th_x ?_
      refine bl_s ?_
      refine th_n ?_
      refine k_seq ?_
      refine k_region ?_
      refine n_y rfl (y_mv rfl) rfl ?_
      refine n_nil ?_
      refine th_n ?_
      refine k_block ?_
      refine k_loop2 (α := Nat) [17, 183, 184, 185, 186, 187, 188, 189, 190, 191, 192, 193, 194, 195, 196, 197] (fun i => i ≤ 8) (fun i => [(183, .int .i64 (i : Int))]) (fun i => B) (fun i => [bk bs 216 [.row 8 (cWs (vadd st (vrun (sched b 64) st 64) i))]]) (fun i => 8 - i) 0 (by omega) rfl ⟨rfl, trivial⟩ [bk bs 216 [.row 8 (cWs st)]] rfl ?_
      rintro i hi
      have hvl := vrun_length (sched b 64) st hs 64
      have hal := vadd_length st (vrun (sched b 64) st 64) hs i
      try conv => arg 7; dsimp only [List.nil_append, List.cons_append]
      try conv => arg 6; dsimp only
      try conv => arg 4; dsimp only [List.nil_append, List.cons_append]
      refine k_seq ?_
      refine k_region ?_
      refine n_y rfl (y_lt rfl rfl) rfl ?_
      refine n_nil ?_
      refine th_n ?_
      refine k_seq ?_
      refine k_cond rfl (fun c184 => ?_) (fun c184 => ?_)
      · skip
        refine k_skip ?_
        refine th_n ?_
        refine k_seq ?_
        refine k_block ?_
        refine k_seq ?_
        refine k_region ?_
        refine n_y rfl (y_mv rfl) rfl ?_
        refine n_y rfl (y_as rfl) rfl ?_
        refine n_nil ?_
        refine th_n ?_
        refine k_mix rfl [0, 0, 1, 7, 15, 0, 32, 96, 255, 1, 1023, 2047] [(0, false), (1, false), (2, false), (3, false), (4, false), (5, false), (6, false), (7, false), (8, false), (9, false), (10, false), (11, true)] (by kernel_rfl) ?_
        refine m_p rfl rfl (fun _ _ => y_mv rfl) rfl ?_
        refine m_p rfl rfl (fun _ _ => y_mv rfl) rfl ?_
        refine m_p rfl rfl (fun _ _ => y_nil rfl) rfl ?_
        refine m_p rfl rfl (fun _ _ => y_iaa rfl rfl _ rfl (by omega)) rfl ?_
        refine m_y rfl rfl (y_ldW (d := i) rfl (by omega) (by omega)) rfl ?_
        refine m_p rfl rfl (fun _ _ => y_mv rfl) rfl ?_
        refine m_p rfl rfl (fun _ _ => y_iaa rfl rfl _ rfl (by omega)) rfl ?_
        refine m_y rfl rfl (y_ldW (d := i) rfl (by omega) (by omega)) rfl ?_
        refine m_p rfl rfl (fun _ _ => y_addW rfl rfl) rfl ?_
        refine m_p rfl rfl (fun _ _ => y_nil rfl) rfl ?_
        refine m_p rfl rfl (fun _ _ => y_iaa rfl rfl _ rfl (by omega)) rfl ?_
        refine m_mv0 [false, false] rfl rfl (by kernel_rfl) fun W1 ds1 ro1 Q1 K1 hK1 => ?_
        refine o_stW (d := i) rfl rfl (by omega) (by omega) (by omega) ?_
        rw [show (vadd st (vrun (sched b 64) st 64) i).set i _ = vadd st (vrun (sched b 64) st 64) (i + 1) from rfl]
        refine hK1  _ _ (PH.le_refl _) trivial ?_
        refine m_end ?_
        refine bl_n ?_
        refine th_n ?_
        refine k_region ?_
        refine n_y rfl (y_add rfl rfl (by omega)) rfl ?_
        refine n_y rfl (y_mv rfl) rfl ?_
        refine n_nil ?_
        refine th_n ?_
        exact k_again2 (i + 1) ⟨by omega, by omega⟩ rfl ⟨rfl, trivial⟩ rfl
      · skip
        obtain rfl : i = 8 := by omega
        refine k_exit ?_
        refine th_x ?_
        refine th_x ?_
        refine bl_s ?_
        refine k_retf ?_
        rw [show vadd st (vrun (sched b 64) st 64) 8 = takeB st b from rfl]
        refine k_retn rfl (rs_nil) (PH.le_refl _) (⟨rfl, rfl, rfl⟩)
end Go.Proofs.Ytokekdbdnonebaa
