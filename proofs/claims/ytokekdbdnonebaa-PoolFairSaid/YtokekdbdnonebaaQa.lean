/- The statements of layer 12: what waits has a quota. -/
import Derived.Test.YtokekdbdnonebaaOa
import Derived.Test.YtokekdbdnonebaaMj
import Derived.Test.YtokekdbdnonebaaEngW
namespace Go.Proofs.Ytokekdbdnonebaa
open Sc Go
def mpI (b : Nat) (m : List (Int × Int)) : Asrt := mp (fun x : Int => Value.int .i64 x) b (m.map fun p => (p.1, .int .i64 p.2))

theorem T_scrivenerlaw12_waits (B : PH) : Tri Try.prog F_scrivenerlaw12_waits [] B [] fun v B' L' => v = .bool true ∧ L' = [] := by
  refine tri_of fn_scrivenerlaw12_waits rfl nt_scrivenerlaw12_waits rfl fun W0 R => ?_
  simp only [argEnv, List.nil_append, List.cons_append]
  refine k_seq ?_
  refine k_region ?_
  refine n_y rfl (y_as rfl) rfl ?_
  refine n_nil ?_
  refine th_n ?_
  refine k_seq ?_
  refine k_region ?_
  refine n_op rfl (o_bs rfl rfl rfl rfl rfl rfl fun b5 => ?_)
  refine n_op rfl (o_cvs rfl rfl fun B6 hB6 hr6 => ?_)
  refine n_op rfl (o_call rfl (T_book_Entry _ 1 2 _ [120] (isB_row (l := [120]) hr6 rfl (Nat.le_refl _)) (by decide)) rfl ?_)
  rintro v7 B7 L7 hB7 ⟨bv7, e7, rfl, rfl, h7⟩
  try conv => arg 7; dsimp only [List.nil_append, List.cons_append]
  have he7 := (entry_ok (who := 1) (num := 2) (text := [120]) (by omega) (by omega) (by decide)).2
  obtain ⟨hbx, rfl⟩ : IsB B7 bv7 (writeM (eM 1 2 [120])) ∧ e7 = 0 := by
    rcases h7 with ⟨x, h1, h2, h3⟩ | ⟨h1, _⟩
    · rw [he7] at h1; cases h1; exact ⟨h3, h2⟩
    · rw [he7] at h1; cases h1
  obtain ⟨va, vc, rfl⟩ := hbx.form
  have hce := (entry_ok (who := 1) (num := 2) (text := [120]) (by omega) (by omega) (by decide)).1
  have hck := eM_check (who := 1) (num := 2) (text := [120]) (by omega) (by omega) (by decide)
  have hwl := outM_length hck (fieldsM (eM 1 2 [120])).length
  rw [outM_all] at hwl
  have hpos : 0 < (writeM (eM 1 2 [120])).length := by simp [writeM]
  obtain ⟨x0, hx0⟩ : ∃ x0, x0 = writeM (eM 1 2 [120]) := ⟨_, rfl⟩
  rw [← hx0] at hbx hce hwl hpos ⊢
  have hp1 : putE [] x0 = (0, [(1, 2, x0)]) := by rw [putE_ok hce]; rfl
  have hp2 : putE [(1, 2, x0)] x0 = (5, [(1, 2, x0)]) := by rw [putE_ok hce, if_pos ⟨(1, 2, x0), List.mem_singleton.2 rfl, rfl, rfl⟩]
  refine n_y rfl (y_mv rfl) rfl ?_
  refine n_y rfl (y_ex0 rfl) rfl ?_
  refine n_y rfl (y_ex1 rfl) rfl ?_
  refine n_y rfl (y_as rfl) rfl ?_
  refine n_y rfl (y_as rfl) rfl ?_
  refine n_nil ?_
  refine th_n ?_
  refine k_seq ?_
  refine k_region ?_
  refine n_op rfl (o_call rfl (T_pool_New _) rfl ?_)
  rintro v10 B10 L10 hB10 ⟨b10, rfl, rfl, rfl⟩
  try conv => arg 7; dsimp only [List.nil_append, List.cons_append]
  refine n_y rfl (y_as rfl) rfl ?_
  refine n_nil ?_
  refine th_n ?_
  refine k_seq ?_
  refine k_region ?_
  refine n_y rfl (y_mv rfl) rfl ?_
  refine n_y rfl (y_nepnil rfl rfl) rfl ?_
  refine n_y rfl (y_mv rfl) rfl ?_
  refine n_y rfl (y_mv rfl) rfl ?_
  refine n_y rfl (y_len rfl) rfl ?_
  refine n_y rfl (y_gt rfl rfl) rfl ?_
  rw [decide_eq_true (show ((x0.length : Nat) : Int) > 0 by omega)]
  refine n_y rfl (y_pt rfl rfl) rfl ?_
  refine n_y rfl (y_mv rfl) rfl ?_
  refine n_y rfl (y_mv rfl) rfl ?_
  refine n_y rfl (y_mv rfl) rfl ?_
  refine n_op rfl (o_call rfl (T_pool_Pool_Put _ b10 [] _ x0 (fun a ha => by cases ha) (by simp) hbx (by omega)) rfl ?_)
  rintro v21 B21 L21 hB21 ⟨l21, rfl, ha21, hl21, rfl⟩
  try conv => arg 7; dsimp only [List.nil_append, List.cons_append]
  replace hbx := hbx.mono hB21
  rw [show (putE (([] : List PW).map PW.abs) x0).1 = 0 by rw [List.map_nil, hp1]]
  rw [List.map_nil, hp1] at ha21
  dsimp only at ha21
  have hll : l21.length = 1 := by simpa using congrArg List.length ha21
  refine n_y rfl (y_eq rfl rfl) rfl ?_
  rw [show decide ((0 : Int) = 0) = true from rfl]
  refine n_y rfl (y_pt rfl rfl) rfl ?_
  refine n_y rfl (y_mv rfl) rfl ?_
  refine n_y rfl (y_mv rfl) rfl ?_
  refine n_y rfl (y_mv rfl) rfl ?_
  refine n_op rfl (o_call rfl (T_pool_Pool_Put _ b10 l21 _ x0 hl21 (by omega) hbx (by omega)) rfl ?_)
  rintro v27 B27 L27 hB27 ⟨l27, rfl, ha27, hl27, rfl⟩
  try conv => arg 7; dsimp only [List.nil_append, List.cons_append]
  replace hbx := hbx.mono hB27
  replace hl21 := hl21.mono hB27
  rw [show (putE (l21.map PW.abs) x0).1 = 5 by rw [ha21, hp2]]
  rw [ha21, hp2] at ha27
  dsimp only at ha27
  have hll2 : l27.length = 1 := by simpa using congrArg List.length ha27
  refine n_y rfl (y_eq rfl rfl) rfl ?_
  rw [show decide ((5 : Int) = 5) = true from rfl]
  refine n_y rfl (y_pt rfl rfl) rfl ?_
  refine n_y rfl (y_mv rfl) rfl ?_
  refine n_y rfl (y_mv rfl) rfl ?_
  refine n_op rfl (o_call rfl (T_pool_Pool_Len _ b10 l27) rfl ?_)
  rintro v32 B32 L32 hB32 ⟨rfl, rfl, rfl⟩
  try conv => arg 7; dsimp only [List.nil_append, List.cons_append]
  refine n_y rfl (y_eq rfl rfl) rfl ?_
  rw [decide_eq_true (show ((l27.length : Nat) : Int) = 1 by omega)]
  refine n_y rfl (y_pt rfl rfl) rfl ?_
  refine n_y rfl (y_mv rfl) rfl ?_
  refine n_y rfl (y_pt rfl rfl) rfl ?_
  refine n_y rfl (y_mv rfl) rfl ?_
  refine n_y rfl (y_pt rfl rfl) rfl ?_
  refine n_y rfl (y_as rfl) rfl ?_
  refine n_nil ?_
  refine th_n ?_
  refine k_ret ?_
  refine k_retn rfl (rs_t rfl (rs_nil)) (PH.le_trans (PH.le_trans (PH.le_trans (hB6) hB7) hB21) hB27) (⟨rfl, rfl⟩)
theorem T_scrivenerlaw12_PoolQuota (B : PH) (wv : Value) (who : List Int) (hw : prd B wv who.length (who.map fun x => Value.int .i64 x)) : Tri Try.prog F_scrivenerlaw12_PoolQuota [wv] B [] fun v B' L' => v = .bool true ∧ L' = [] := by
  obtain ⟨wa, wc, rfl, hwc, hwr⟩ := hw
  refine tri_of fn_scrivenerlaw12_PoolQuota rfl nt_scrivenerlaw12_PoolQuota rfl fun W0 R => ?_
  simp only [argEnv, List.nil_append, List.cons_append]
  refine k_seq ?_
  refine k_region ?_
  refine n_y rfl (y_as rfl) rfl ?_
  refine n_nil ?_
  refine th_n ?_
  refine k_seq ?_
  refine k_seq ?_
  refine k_region ?_
  refine n_op rfl (o_call rfl (T_scrivenerlaw12_waits _) rfl ?_)
  rintro v15 B15 L15 hB15 ⟨rfl, rfl⟩
  try conv => arg 7; dsimp only [List.nil_append, List.cons_append]
  refine n_y rfl (y_notb rfl) rfl ?_
  refine n_nil ?_
  refine th_n ?_
  refine k_condf rfl ?_
  refine k_skip ?_
  refine th_n ?_
  refine k_seq ?_
  refine k_seq ?_
  refine k_region ?_
  refine n_y rfl (y_mv rfl) rfl ?_
  refine n_y rfl (y_len rfl) rfl ?_
  refine n_y rfl (y_gt rfl rfl) rfl ?_
  refine n_nil ?_
  refine th_n ?_
  refine k_cond rfl (fun c19 => ?_) (fun c19 => ?_)
  · skip
    refine k_seq ?_
    refine k_region ?_
    refine n_y rfl (y_as rfl) rfl ?_
    refine n_nil ?_
    refine th_n ?_
    refine k_ret ?_
    refine th_r ?_
    refine k_retn rfl (rs_t rfl (rs_nil)) (hB15) (⟨rfl, rfl⟩)
  · skip
    refine k_skip ?_
    refine th_n ?_
    refine k_seq ?_
    refine k_region ?_
    refine n_op rfl (o_call rfl (T_pool_New _) rfl ?_)
    rintro v20 B20 L20 hB20 ⟨b20, rfl, rfl, rfl⟩
    try conv => arg 7; dsimp only [List.nil_append, List.cons_append]
    refine n_op rfl (o_call rfl (T_book_New _) rfl ?_)
    rintro v21 B21 L21 hB21 ⟨b21, rfl, rfl, rfl⟩
    try conv => arg 7; dsimp only [List.nil_append, List.cons_append]
    refine n_y rfl (y_as rfl) rfl ?_
    refine n_y rfl (y_as rfl) rfl ?_
    refine n_nil ?_
    refine th_n ?_
    refine k_seq ?_
    refine k_seq ?_
    refine k_region ?_
    refine n_y rfl (y_mv rfl) rfl ?_
    refine n_y rfl (y_eqpnil rfl rfl) rfl ?_
    refine n_y rfl (y_mv rfl) rfl ?_
    refine n_y rfl (y_mv rfl) rfl ?_
    refine n_y rfl (y_eqpnil rfl rfl) rfl ?_
    refine n_y rfl (y_pf rfl rfl) rfl ?_
    refine n_nil ?_
    refine th_n ?_
    refine k_condf rfl ?_
    refine k_skip ?_
    refine th_n ?_
    refine k_seq ?_
    refine k_region ?_
    refine n_op rfl (o_mkm (fun x : Int => Value.int .i64 x) rfl fun b28 => ?_)
    refine n_y rfl (y_as rfl) rfl ?_
    refine n_nil ?_
    refine th_n ?_
    refine k_seq ?_
    refine k_region ?_
    refine n_op rfl (o_mkm (fun x : Int => Value.int .i64 x) rfl fun b29 => ?_)
    refine n_y rfl (y_as rfl) rfl ?_
    refine n_nil ?_
    refine th_n ?_
    refine k_seq ?_
    refine k_seq ?_
    refine k_region ?_
    rw [show mp (fun x : Int => Value.int .i64 x) b28 [] = mpI b28 [] from rfl, show mp (fun x : Int => Value.int .i64 x) b29 [] = mpI b29 [] from rfl]
    refine n_y rfl (y_mv rfl) rfl ?_
    refine n_y rfl (y_len rfl) rfl ?_
    refine n_y rfl (y_mv rfl) rfl ?_
    refine n_nil ?_
    refine th_n ?_
    refine k_block ?_
    refine k_loop2 (α := Nat × List (Int × Int) × List (Int × Int) × List PW × PH) [2, 8, 9, 10, 11, 32, 33, 34, 35, 36, 37, 38, 39, 40, 41, 42, 43, 44, 45, 46, 47, 48, 49, 50, 51, 52, 53, 54, 55, 56, 57, 58, 59, 60, 61, 62, 63, 64, 65, 66, 67, 68, 69, 70, 71, 72, 73, 74, 75, 76, 77, 78] (fun z9 => z9.1 ≤ who.length ∧ (∀ w, (mget z9.2.1 w).getD 0 = min 3 ((who.take z9.1).count w : Int)) ∧ (∀ w, (mget z9.2.2.1 w).getD 0 = ((who.take z9.1).count w : Int)) ∧ QInv (who.take z9.1) (z9.2.2.2.1.map PW.abs) ∧ PoolOk z9.2.2.2.2 z9.2.2.2.1 ∧ B21.le z9.2.2.2.2) (fun z9 => [(32, .int .i64 (z9.1 : Int))]) (fun z9 => z9.2.2.2.2) (fun z9 => [mpI b28 z9.2.1, mpI b29 z9.2.2.1, poolA b20 z9.2.2.2.1]) (fun z9 => who.length - z9.1) (0, [], [], [], _) ⟨Nat.zero_le _, fun w => (by simp [mget]; rfl), fun w => by simp [mget], qinv_nil, fun a ha => (by cases ha), PH.le_refl _⟩ rfl ⟨rfl, trivial⟩ [mpI b28 [], mpI b29 [], poolA b20 []] rfl ?_
    rintro ⟨i, nm, um, l, Bk⟩ ⟨hi, hnm, hum, hq, hl, hBk⟩
    dsimp only at hi hnm hum hq hl hBk
    try conv => arg 7; dsimp only [List.nil_append, List.cons_append]
    try conv => arg 6; dsimp only
    try conv => arg 4; dsimp only [List.nil_append, List.cons_append]
    refine k_seq ?_
    refine k_region ?_
    refine n_y rfl (y_lt rfl rfl) rfl ?_
    refine n_nil ?_
    refine th_n ?_
    refine k_seq ?_
    refine k_cond rfl (fun c33 => ?_) (fun c33 => ?_)
    · skip
      have hi' : i < who.length := by omega
      obtain ⟨w, hwi⟩ : ∃ w, who[i]? = some w := ⟨_, List.getElem?_eq_getElem hi'⟩
      obtain ⟨qb, qo, rfl, hqr⟩ := hwr (by intro e; have := congrArg List.length e; rw [List.length_map] at this; simp at this; rw [this] at hi'; simp at hi')
      have hti := take_succ hwi
      refine k_skip ?_
      refine th_n ?_
      refine k_seq ?_
      refine k_block ?_
      refine k_seq ?_
      refine k_region ?_
      refine n_y rfl (y_ia rfl rfl i rfl (by omega)) rfl ?_
      refine n_y rfl (y_ldi (i := i) (v := .int .i64 w) rfl (hqr.mono (PH.le_trans (hB15) hBk)) (by omega) (by rw [List.getElem?_map, hwi]; rfl)) rfl ?_
      refine n_y rfl (y_as rfl) rfl ?_
      refine n_nil ?_
      refine th_n ?_
      refine k_seq ?_
      refine k_seq ?_
      refine k_region ?_
      refine n_y rfl (y_mv rfl) rfl ?_
      refine n_y rfl (y_lt rfl rfl) rfl ?_
      refine k_dec (fun c37 => ?_) (fun c37 => ?_)
      · skip
        refine n_y rfl (y_mv rfl) rfl ?_
        refine n_no rfl rfl ?_
        refine n_no rfl rfl ?_
        refine n_y rfl (y_pt rfl rfl) rfl ?_
        refine n_nil ?_
        refine th_n ?_
        refine k_condt rfl ?_
        refine k_seq ?_
        refine k_region ?_
        refine n_y rfl (y_as rfl) rfl ?_
        refine n_nil ?_
        refine th_n ?_
        refine k_ret ?_
        refine th_r ?_
        refine bl_r ?_
        refine th_r ?_
        refine th_r ?_
        refine bl_r ?_
        refine th_r ?_
        refine k_retn rfl (rs_t rfl (rs_nil)) (PH.le_trans (hB15) hBk) (⟨rfl, rfl⟩)
      · skip
        refine n_y rfl (y_mv rfl) rfl ?_
        refine n_y rfl (y_mv rfl) rfl ?_
        refine n_y rfl (y_gt rfl rfl) rfl ?_
        refine k_dec (fun c40 => ?_) (fun c40 => ?_)
        · skip
          refine n_y rfl (y_pf rfl rfl) rfl ?_
          refine n_nil ?_
          refine th_n ?_
          refine k_condt rfl ?_
          refine k_seq ?_
          refine k_region ?_
          refine n_y rfl (y_as rfl) rfl ?_
          refine n_nil ?_
          refine th_n ?_
          refine k_ret ?_
          refine th_r ?_
          refine bl_r ?_
          refine th_r ?_
          refine th_r ?_
          refine bl_r ?_
          refine th_r ?_
          refine k_retn rfl (rs_t rfl (rs_nil)) (PH.le_trans (hB15) hBk) (⟨rfl, rfl⟩)
        · skip
          refine n_y rfl (y_pf rfl rfl) rfl ?_
          refine n_nil ?_
          refine th_n ?_
          refine k_condf rfl ?_
          refine k_skip ?_
          refine th_n ?_
          refine k_seq ?_
          refine k_region ?_
          refine n_y rfl (y_mv rfl) rfl ?_
          refine n_y rfl (y_mv rfl) rfl ?_
          unfold mpI
          refine n_y rfl (y_lk rfl w rfl) rfl ?_
          rw [mget_map (fun i : Int => Value.int .i64 i), show ((mget um w).map fun i : Int => Value.int .i64 i).getD (.int .i64 0) = .int .i64 ((mget um w).getD 0) by cases mget um w <;> rfl, hum w]
          have hcl : (who.take i).count w ≤ (who.take i).length := List.count_le_length
          rw [List.length_take] at hcl
          refine n_y rfl (y_add rfl rfl (by omega)) rfl ?_
          refine n_op rfl (o_mup rfl w rfl rfl ?_)
          rw [mset_map (fun i : Int => Value.int .i64 i)]
          refine n_nil ?_
          refine th_n ?_
          refine k_seq ?_
          refine k_region ?_
          refine n_y rfl (y_mv rfl) rfl ?_
          refine n_y rfl (y_mv rfl) rfl ?_
          refine n_y rfl (y_mv rfl) rfl ?_
          refine n_y rfl (y_lk rfl w rfl) rfl ?_
          rw [mget_map (fun i : Int => Value.int .i64 i), mget_set, if_pos rfl, show (some ((List.count w (who.take i) : Int) + 1)).map (fun i : Int => Value.int .i64 i) = some (.int .i64 ((List.count w (who.take i) : Int) + 1)) from rfl, Option.getD_some]
          refine n_op rfl (o_call rfl (T_book_Entry _ w ((who.take i).count w + 1 : Int) _ [] (isB_nil _) (by decide)) rfl ?_)
          rintro v51 B51 L51 hB51 ⟨bv51, e51, rfl, rfl, h51⟩
          try conv => arg 7; dsimp only [List.nil_append, List.cons_append]
          replace hl := hl.mono hB51
          have he51 := (entry_ok (who := w) (num := ((who.take i).count w + 1 : Int)) (text := []) ⟨by omega, by omega⟩ ⟨by omega, by omega⟩ (by simp)).2
          obtain ⟨hbx, rfl⟩ : IsB B51 bv51 (writeM (eM w ((who.take i).count w + 1 : Int) [])) ∧ e51 = 0 := by
            rcases h51 with ⟨x, h1, h2, h3⟩ | ⟨h1, _⟩
            · rw [he51] at h1; cases h1; exact ⟨h3, h2⟩
            · rw [he51] at h1; cases h1
          have hxl := entry_length (who := w) (num := ((who.take i).count w + 1 : Int)) ⟨by omega, by omega⟩ ⟨by omega, by omega⟩
          obtain ⟨hq1, hq2⟩ := qinv_step hq (w := w) ⟨by omega, by omega⟩ (by rw [List.length_take]; omega)
          have hql := hq.len
          rw [List.length_map, List.length_take] at hql
          haveI := hbx.one
          refine n_y rfl (y_mv rfl) rfl ?_
          refine n_y rfl (y_ex0 rfl) rfl ?_
          refine n_y rfl (y_ex1 rfl) rfl ?_
          refine n_y rfl (y_as rfl) rfl ?_
          refine n_y rfl (y_as rfl) rfl ?_
          refine n_nil ?_
          refine th_n ?_
          refine k_seq ?_
          refine k_region ?_
          refine n_y rfl (y_mv rfl) rfl ?_
          refine n_y rfl (y_mv rfl) rfl ?_
          refine n_op rfl (o_call rfl (T_pool_Pool_Put _ b20 l _ _ hl (by omega) hbx (by omega)) rfl ?_)
          rintro v56 B56 L56 hB56 ⟨l56, rfl, ha56, hl56, rfl⟩
          try conv => arg 7; dsimp only [List.nil_append, List.cons_append]
          replace hl := hl.mono hB56
          replace hbx := hbx.mono hB56
          rw [hq1]
          refine n_y rfl (y_as rfl) rfl ?_
          refine n_nil ?_
          refine th_n ?_
          refine k_seq ?_
          refine k_seq ?_
          refine k_region ?_
          refine n_y rfl (y_mv rfl) rfl ?_
          refine n_y rfl (y_eq rfl rfl) rfl ?_
          refine n_y rfl (y_mv rfl) rfl ?_
          refine n_y rfl (y_mv rfl) rfl ?_
          refine n_y rfl (y_lk rfl w rfl) rfl ?_
          rw [mget_map (fun i : Int => Value.int .i64 i), show ((mget nm w).map fun i : Int => Value.int .i64 i).getD (.int .i64 0) = .int .i64 ((mget nm w).getD 0) by cases mget nm w <;> rfl, hnm w]
          refine n_y rfl (y_lt rfl rfl) rfl ?_
          refine n_y rfl (y_neTB rfl rfl) rfl ?_
          have hbb : (decide ((if (who.take i).count w < 3 then ((0 : Int), l.map PW.abs ++ [(w, ((who.take i).count w : Int) + 1, writeM (eM w ((who.take i).count w + 1 : Int) []))]) else (120, l.map PW.abs)).1 = 0) == decide (min 3 ((who.take i).count w : Int) < 3)) = true := by
            by_cases h3 : (who.take i).count w < 3
            · rw [if_pos h3, decide_eq_true (show (0 : Int) = 0 from rfl), decide_eq_true (by omega)]; rfl
            · rw [if_neg h3, decide_eq_false (show ¬ (120 : Int) = 0 by decide), decide_eq_false (by omega)]; rfl
          rw [hbb, show (!true) = false from rfl]
          refine n_y rfl (y_mv rfl) rfl ?_
          refine n_y rfl (y_mv rfl) rfl ?_
          refine n_y rfl (y_ne rfl rfl) rfl ?_
          refine k_dec (fun c66 => ?_) (fun c66 => ?_)
          · skip
            refine n_y rfl (y_mv rfl) rfl ?_
            refine n_y rfl (y_mv rfl) rfl ?_
            refine n_y rfl (y_ne rfl rfl) rfl ?_
            have h120 : ¬ ((if (who.take i).count w < 3 then ((0 : Int), l.map PW.abs ++ [(w, ((who.take i).count w : Int) + 1, writeM (eM w ((who.take i).count w + 1 : Int) []))]) else (120, l.map PW.abs)).1 ≠ 120) := by
              intro h
              by_cases h3 : (who.take i).count w < 3
              · rw [if_pos h3] at c66; exact c66 rfl
              · rw [if_neg h3] at h; exact h rfl
            rw [decide_eq_false h120]
            refine n_y rfl (y_pt rfl rfl) rfl ?_
            refine n_y rfl (y_pf rfl rfl) rfl ?_
            refine n_nil ?_
            refine th_n ?_
            refine k_condf rfl ?_
            refine k_skip ?_
            refine th_n ?_
            refine k_seq ?_
            refine k_region ?_
            refine n_y rfl (y_mv rfl) rfl ?_
            refine n_y rfl (y_eq rfl rfl) rfl ?_
            refine n_nil ?_
            refine th_n ?_
            refine k_cond rfl (fun c73 => ?_) (fun c73 => ?_)
            · skip
              have h3 : (who.take i).count w < 3 := by
                rcases Nat.lt_or_ge ((who.take i).count w) 3 with h | h
                · exact h
                · rw [if_neg (by omega)] at c73; cases c73
              refine k_region ?_
              refine n_y rfl (y_mv rfl) rfl ?_
              refine n_y rfl (y_mv rfl) rfl ?_
              refine n_y rfl (y_lk rfl w rfl) rfl ?_
              rw [mget_map (fun i : Int => Value.int .i64 i), show ((mget nm w).map fun i : Int => Value.int .i64 i).getD (.int .i64 0) = .int .i64 ((mget nm w).getD 0) by cases mget nm w <;> rfl, hnm w]
              refine n_y rfl (y_add rfl rfl (by omega)) rfl ?_
              refine n_op rfl (o_mup rfl w rfl rfl ?_)
              rw [mset_map (fun i : Int => Value.int .i64 i)]
              refine n_nil ?_
              refine bl_n ?_
              refine th_n ?_
              refine k_region ?_
              refine n_y rfl (y_add rfl rfl (by omega)) rfl ?_
              refine n_y rfl (y_mv rfl) rfl ?_
              refine n_nil ?_
              refine th_n ?_
              have HU : ∀ x, (mget (mset um w ((who.take i).count w + 1 : Int)) x).getD 0 = ((who.take (i + 1)).count x : Int) := fun x => by
                rw [hti, count_snoc, mget_set]
                by_cases hx : x = w
                · subst hx; rw [if_pos rfl, if_pos rfl]; simp only [Option.getD_some]; omega
                · rw [if_neg hx, if_neg (fun e => hx e.symm), hum x]; rfl
              have HN : ∀ x, (mget (mset nm w (min 3 ((who.take i).count w : Int) + 1)) x).getD 0 = min 3 ((who.take (i + 1)).count x : Int) := fun x => by
                rw [hti, count_snoc, mget_set]
                by_cases hx : x = w
                · subst hx; rw [if_pos rfl, if_pos rfl]; simp only [Option.getD_some]; omega
                · rw [if_neg hx, if_neg (fun e => hx e.symm), hnm x]; rfl
              exact k_again2 (i + 1, mset nm w (min 3 ((who.take i).count w : Int) + 1), mset um w ((who.take i).count w + 1 : Int), l56, B56) ⟨⟨by dsimp only; omega, HN, HU, by dsimp only; rw [hti, ha56]; exact hq2, hl56, PH.le_trans hBk (PH.le_trans hB51 hB56)⟩, by dsimp only; omega⟩ rfl ⟨rfl, trivial⟩ rfl
            · skip
              have h3 : ¬ (who.take i).count w < 3 := fun h => c73 (by rw [if_pos h])
              refine k_skip ?_
              refine bl_n ?_
              refine th_n ?_
              refine k_region ?_
              refine n_y rfl (y_add rfl rfl (by omega)) rfl ?_
              refine n_y rfl (y_mv rfl) rfl ?_
              refine n_nil ?_
              refine th_n ?_
              have HU : ∀ x, (mget (mset um w ((who.take i).count w + 1 : Int)) x).getD 0 = ((who.take (i + 1)).count x : Int) := fun x => by
                rw [hti, count_snoc, mget_set]
                by_cases hx : x = w
                · subst hx; rw [if_pos rfl, if_pos rfl]; simp only [Option.getD_some]; omega
                · rw [if_neg hx, if_neg (fun e => hx e.symm), hum x]; rfl
              have HN : ∀ x, (mget nm x).getD 0 = min 3 ((who.take (i + 1)).count x : Int) := fun x => by
                rw [hti, count_snoc, hnm x]
                by_cases hx : x = w
                · subst hx; rw [if_pos rfl]; omega
                · rw [if_neg (fun e => hx e.symm)]; rfl
              exact k_again2 (i + 1, nm, mset um w ((who.take i).count w + 1 : Int), l56, B56) ⟨⟨by dsimp only; omega, HN, HU, by dsimp only; rw [hti, ha56]; exact hq2, hl56, PH.le_trans hBk (PH.le_trans hB51 hB56)⟩, by dsimp only; omega⟩ rfl ⟨rfl, trivial⟩ rfl
          · skip
            refine n_y rfl (y_mv rfl) rfl ?_
            refine n_no rfl rfl ?_
            refine n_no rfl rfl ?_
            refine n_y rfl (y_pf rfl rfl) rfl ?_
            refine n_y rfl (y_pf rfl rfl) rfl ?_
            refine n_nil ?_
            refine th_n ?_
            refine k_condf rfl ?_
            refine k_skip ?_
            refine th_n ?_
            refine k_seq ?_
            refine k_region ?_
            refine n_y rfl (y_mv rfl) rfl ?_
            refine n_y rfl (y_eq rfl rfl) rfl ?_
            refine n_nil ?_
            refine th_n ?_
            refine k_cond rfl (fun c73 => ?_) (fun c73 => ?_)
            · skip
              have h3 : (who.take i).count w < 3 := by
                rcases Nat.lt_or_ge ((who.take i).count w) 3 with h | h
                · exact h
                · rw [if_neg (by omega)] at c73; cases c73
              refine k_region ?_
              refine n_y rfl (y_mv rfl) rfl ?_
              refine n_y rfl (y_mv rfl) rfl ?_
              refine n_y rfl (y_lk rfl w rfl) rfl ?_
              rw [mget_map (fun i : Int => Value.int .i64 i), show ((mget nm w).map fun i : Int => Value.int .i64 i).getD (.int .i64 0) = .int .i64 ((mget nm w).getD 0) by cases mget nm w <;> rfl, hnm w]
              refine n_y rfl (y_add rfl rfl (by omega)) rfl ?_
              refine n_op rfl (o_mup rfl w rfl rfl ?_)
              rw [mset_map (fun i : Int => Value.int .i64 i)]
              refine n_nil ?_
              refine bl_n ?_
              refine th_n ?_
              refine k_region ?_
              refine n_y rfl (y_add rfl rfl (by omega)) rfl ?_
              refine n_y rfl (y_mv rfl) rfl ?_
              refine n_nil ?_
              refine th_n ?_
              have HU : ∀ x, (mget (mset um w ((who.take i).count w + 1 : Int)) x).getD 0 = ((who.take (i + 1)).count x : Int) := fun x => by
                rw [hti, count_snoc, mget_set]
                by_cases hx : x = w
                · subst hx; rw [if_pos rfl, if_pos rfl]; simp only [Option.getD_some]; omega
                · rw [if_neg hx, if_neg (fun e => hx e.symm), hum x]; rfl
              have HN : ∀ x, (mget (mset nm w (min 3 ((who.take i).count w : Int) + 1)) x).getD 0 = min 3 ((who.take (i + 1)).count x : Int) := fun x => by
                rw [hti, count_snoc, mget_set]
                by_cases hx : x = w
                · subst hx; rw [if_pos rfl, if_pos rfl]; simp only [Option.getD_some]; omega
                · rw [if_neg hx, if_neg (fun e => hx e.symm), hnm x]; rfl
              exact k_again2 (i + 1, mset nm w (min 3 ((who.take i).count w : Int) + 1), mset um w ((who.take i).count w + 1 : Int), l56, B56) ⟨⟨by dsimp only; omega, HN, HU, by dsimp only; rw [hti, ha56]; exact hq2, hl56, PH.le_trans hBk (PH.le_trans hB51 hB56)⟩, by dsimp only; omega⟩ rfl ⟨rfl, trivial⟩ rfl
            · skip
              have h3 : ¬ (who.take i).count w < 3 := fun h => c73 (by rw [if_pos h])
              refine k_skip ?_
              refine bl_n ?_
              refine th_n ?_
              refine k_region ?_
              refine n_y rfl (y_add rfl rfl (by omega)) rfl ?_
              refine n_y rfl (y_mv rfl) rfl ?_
              refine n_nil ?_
              refine th_n ?_
              have HU : ∀ x, (mget (mset um w ((who.take i).count w + 1 : Int)) x).getD 0 = ((who.take (i + 1)).count x : Int) := fun x => by
                rw [hti, count_snoc, mget_set]
                by_cases hx : x = w
                · subst hx; rw [if_pos rfl, if_pos rfl]; simp only [Option.getD_some]; omega
                · rw [if_neg hx, if_neg (fun e => hx e.symm), hum x]; rfl
              have HN : ∀ x, (mget nm x).getD 0 = min 3 ((who.take (i + 1)).count x : Int) := fun x => by
                rw [hti, count_snoc, hnm x]
                by_cases hx : x = w
                · subst hx; rw [if_pos rfl]; omega
                · rw [if_neg (fun e => hx e.symm)]; rfl
              exact k_again2 (i + 1, nm, mset um w ((who.take i).count w + 1 : Int), l56, B56) ⟨⟨by dsimp only; omega, HN, HU, by dsimp only; rw [hti, ha56]; exact hq2, hl56, PH.le_trans hBk (PH.le_trans hB51 hB56)⟩, by dsimp only; omega⟩ rfl ⟨rfl, trivial⟩ rfl
    · skip
      obtain rfl : i = who.length := by omega
      rw [List.take_length] at hq
      refine k_exit ?_
      refine th_x ?_
      refine th_x ?_
      refine bl_s ?_
      refine th_n ?_
      refine k_seq ?_
      refine k_seq ?_
      refine k_region ?_
      refine n_y rfl (y_as rfl) rfl ?_
      have hg0 := qinv_good hq (by omega)
      have hql := hq.len
      rw [List.length_map] at hql
      refine n_nil ?_
      refine th_n ?_
      refine k_block ?_
      refine k_loop2 (α := Nat × Sc.Bk × List Value × List PW × PH) [12, 79, 80, 81, 82, 83, 84, 85, 86, 87, 88, 89] (fun z9 => z9.1 ≤ 3 ∧ Good z9.2.1 (z9.2.2.2.1.map PW.abs) ∧ IsBs z9.2.2.2.2 z9.2.2.1 z9.2.1.list ∧ PoolOk z9.2.2.2.2 z9.2.2.2.1 ∧ Bk.le z9.2.2.2.2 ∧ z9.2.2.2.1.length = l.length - 8 * z9.1 ∧ z9.2.1.heads.length = z9.1) (fun z9 => [(12, .int .i64 (z9.1 : Int))]) (fun z9 => z9.2.2.2.2) (fun z9 => [bookA b21 z9.2.1 z9.2.2.1, poolA b20 z9.2.2.2.1]) (fun z9 => 3 - z9.1) (0, zBk, [], l, Bk) ⟨Nat.zero_le _, hg0, trivial, hl, PH.le_refl _, by simp, rfl⟩ rfl ⟨rfl, trivial⟩ [bookA b21 zBk [], poolA b20 l] rfl ?_
      rintro ⟨k, kb, us, l2, Bj⟩ ⟨hk, hg, hus, hl2, hBj, hln, hhd⟩
      dsimp only at hk hg hus hl2 hBj hln hhd
      obtain ⟨hg1, hg2, hg3, hg4⟩ := round_good hg
      have hbl := batch_length hg
      try conv => arg 7; dsimp only [List.nil_append, List.cons_append]
      try conv => arg 6; dsimp only
      try conv => arg 4; dsimp only [List.nil_append, List.cons_append]
      replace hl := hl.mono hBj
      refine k_seq ?_
      refine k_seq ?_
      refine k_region ?_
      refine n_y rfl (y_mv rfl) rfl ?_
      refine n_y rfl (y_lt rfl rfl) rfl ?_
      refine n_nil ?_
      refine th_n ?_
      refine k_cond rfl (fun c80 => ?_) (fun c80 => ?_)
      · skip
        refine k_skip ?_
        refine th_n ?_
        refine k_seq ?_
        refine k_block ?_
        refine k_seq ?_
        refine k_region ?_
        refine n_y rfl (y_mv rfl) rfl ?_
        refine n_y rfl (y_mv rfl) rfl ?_
        refine n_op rfl (o_call rfl (T_pool_Pool_Batch _ b20 l2 hl2 (by omega) (fun a ha => by have := hg.small a.abs (List.mem_map_of_mem ha); simp only [PW.abs] at this; omega)) rfl ?_)
        rintro v85 B85 L85 hB85 ⟨hv85, rfl⟩
        try conv => arg 7; dsimp only [List.nil_append, List.cons_append]
        replace hl := hl.mono hB85
        replace hus := hus.mono hB85
        replace hl2 := hl2.mono hB85
        haveI := hv85.one
        refine n_op rfl (o_call rfl (T_book_Book_Apply _ b21 kb us _ (batchE (l2.map PW.abs)) hg.bok hus (by omega) hv85 hbl.1) rfl ?_)
        rintro v86 B86 L86 hB86 ⟨us86, rfl, hus86, rfl⟩
        try conv => arg 7; dsimp only [List.nil_append, List.cons_append]
        replace hl := hl.mono hB86
        replace hus := hus.mono hB86
        replace hl2 := hl2.mono hB86
        replace hv85 := hv85.mono hB86
        refine n_nil ?_
        refine th_n ?_
        refine k_region ?_
        refine n_y rfl (y_mv rfl) rfl ?_
        refine n_y rfl (y_mv rfl) rfl ?_
        refine n_op rfl (o_call rfl (T_pool_Pool_Done _ b20 b21 l2 (applyB (batchE (l2.map PW.abs)) kb) us86 hl2 (by omega)) rfl ?_)
        rintro v89 B89 L89 hB89 ⟨l89, rfl, he89, hl89, rfl⟩
        try conv => arg 7; dsimp only [List.nil_append, List.cons_append]
        replace hl := hl.mono hB89
        replace hus := hus.mono hB89
        replace hl2 := hl2.mono hB89
        replace hv85 := hv85.mono hB89
        replace hus86 := hus86.mono hB89
        have hl8 : l89.map PW.abs = (l2.map PW.abs).drop 8 := by
          rw [← hg2, he89, doneE, List.filter_map]; rfl
        refine n_nil ?_
        refine bl_n ?_
        refine th_n ?_
        refine k_region ?_
        refine n_y rfl (y_mv rfl) rfl ?_
        refine n_y rfl (y_add rfl rfl (by omega)) rfl ?_
        refine n_y rfl (y_as rfl) rfl ?_
        have hg0 := qinv_good hq (by omega)
        have hql := hq.len
        rw [List.length_map] at hql
        refine n_nil ?_
        refine th_n ?_
        exact k_again2 (k + 1, applyB (batchE (l2.map PW.abs)) kb, us86, l89, B89) ⟨⟨by dsimp only; omega, by dsimp only; rw [hl8]; exact hg1, hus86, hl89, PH.le_trans hBj (PH.le_trans hB85 (PH.le_trans hB86 hB89)), by dsimp only; have := congrArg List.length hl8; rw [List.length_map, List.length_drop, List.length_map] at this; omega, by dsimp only; omega⟩, by dsimp only; omega⟩ rfl ⟨rfl, trivial⟩ rfl
      · skip
        obtain rfl : k = 3 := by omega
        obtain rfl : l2 = [] := List.eq_nil_of_length_eq_zero (by omega)
        refine k_exit ?_
        refine th_x ?_
        refine th_x ?_
        refine bl_s ?_
        refine th_n ?_
        refine k_seq ?_
        refine k_region ?_
        refine n_op rfl (o_call rfl (T_book_Entry _ 2 1000 _ [] (isB_nil _) (by decide)) rfl ?_)
        rintro v91 B91 L91 hB91 ⟨bv91, e91, rfl, rfl, h91⟩
        try conv => arg 7; dsimp only [List.nil_append, List.cons_append]
        replace hl := hl.mono hB91
        replace hus := hus.mono hB91
        replace hl2 := hl2.mono hB91
        have he91 := (entry_ok (who := 2) (num := 1000) (text := []) (by omega) (by omega) (by simp)).2
        obtain ⟨hbx, rfl⟩ : IsB B91 bv91 (writeM (eM 2 1000 [])) ∧ e91 = 0 := by
          rcases h91 with ⟨x, h1, h2, h3⟩ | ⟨h1, _⟩
          · rw [he91] at h1; cases h1; exact ⟨h3, h2⟩
          · rw [he91] at h1; cases h1
        have hxl := entry_length (who := 2) (num := 1000) (by omega) (by omega)
        have hce := (entry_ok (who := 2) (num := 1000) (text := []) (by omega) (by omega) (by simp)).1
        obtain ⟨x0, hx0⟩ : ∃ x0, x0 = writeM (eM 2 1000 []) := ⟨_, rfl⟩
        rw [← hx0] at hbx hce hxl
        have hp1 : putE [] x0 = (0, [(2, 1000, x0)]) := by rw [putE_ok hce]; rfl
        have hgx : Good zBk [(2, 1000, x0)] := by
          have := (put_good (l := []) (b := x0) (good_nil zBk_ok) (by simp) hxl).2.1
          rw [hp1] at this; exact this
        haveI := hbx.one
        refine n_y rfl (y_mv rfl) rfl ?_
        refine n_y rfl (y_ex0 rfl) rfl ?_
        refine n_y rfl (y_ex1 rfl) rfl ?_
        refine n_y rfl (y_as rfl) rfl ?_
        refine n_y rfl (y_as rfl) rfl ?_
        refine n_nil ?_
        refine th_n ?_
        refine k_seq ?_
        refine k_region ?_
        refine n_y rfl (y_mv rfl) rfl ?_
        refine n_op rfl (o_call rfl (T_pool_Pool_Len _ b20 []) rfl ?_)
        rintro v95 B95 L95 hB95 ⟨rfl, rfl, rfl⟩
        try conv => arg 7; dsimp only [List.nil_append, List.cons_append]
        refine n_y rfl (y_eq rfl rfl) rfl ?_
        rw [show decide (((([] : List PW).length : Nat) : Int) = 0) = true from rfl]
        refine n_y rfl (y_mv rfl) rfl ?_
        refine n_y rfl (y_mv rfl) rfl ?_
        refine n_y rfl (y_mv rfl) rfl ?_
        refine n_op rfl (o_call rfl (T_pool_Pool_Put _ b20 [] _ x0 (fun a ha => by cases ha) (by simp) hbx (by omega)) rfl ?_)
        rintro v100 B100 L100 hB100 ⟨l100, rfl, ha100, hl100, rfl⟩
        try conv => arg 7; dsimp only [List.nil_append, List.cons_append]
        replace hl := hl.mono hB100
        replace hus := hus.mono hB100
        replace hl2 := hl2.mono hB100
        replace hbx := hbx.mono hB100
        rw [show (putE (([] : List PW).map PW.abs) x0).1 = 0 by rw [List.map_nil, hp1]]
        rw [List.map_nil, hp1] at ha100
        dsimp only at ha100
        have hll : l100.length = 1 := by simpa using congrArg List.length ha100
        refine n_y rfl (y_eq rfl rfl) rfl ?_
        rw [show decide ((0 : Int) = 0) = true from rfl]
        refine n_y rfl (y_pt rfl rfl) rfl ?_
        refine n_y rfl (y_mv rfl) rfl ?_
        refine n_y rfl (y_mv rfl) rfl ?_
        refine n_op rfl (o_call rfl (T_pool_Pool_Batch _ b20 l100 hl100 (by omega) (fun a ha => by have := hgx.small a.abs (by rw [← ha100]; exact List.mem_map_of_mem ha); simp only [PW.abs] at this; omega)) rfl ?_)
        rintro v105 B105 L105 hB105 ⟨hv105, rfl⟩
        try conv => arg 7; dsimp only [List.nil_append, List.cons_append]
        replace hl := hl.mono hB105
        replace hus := hus.mono hB105
        replace hl2 := hl2.mono hB105
        replace hbx := hbx.mono hB105
        replace hl100 := hl100.mono hB105
        obtain ⟨va, vc, rfl⟩ := hv105.form
        have hbl := batch_length hgx
        rw [← ha100] at hbl
        refine n_y rfl (y_len rfl) rfl ?_
        refine n_y rfl (y_gt rfl rfl) rfl ?_
        rw [decide_eq_true (show (((batchE (l100.map PW.abs)).length : Nat) : Int) > 0 by omega)]
        refine n_y rfl (y_pt rfl rfl) rfl ?_
        refine n_y rfl (y_as rfl) rfl ?_
        refine n_nil ?_
        refine th_n ?_
        refine k_ret ?_
        refine k_retn rfl (rs_t rfl (rs_nil)) (PH.le_trans (PH.le_trans (PH.le_trans (PH.le_trans (PH.le_trans (hB15) hBk) hBj) hB91) hB100) hB105) (⟨rfl, rfl⟩)
end Go.Proofs.Ytokekdbdnonebaa
