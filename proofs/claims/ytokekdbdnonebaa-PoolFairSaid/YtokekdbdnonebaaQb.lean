/- The statements of layer 12: what waits goes in its order. -/
import Derived.Test.YtokekdbdnonebaaQa
namespace Go.Proofs.Ytokekdbdnonebaa
open Sc Go
def strV (a : W3) : Value := .string (strB a.2.2)
theorem strV_map {L M : List W3} {x : List UInt8} (h : M.map (fun a => a.2.2) = L.map (fun a => a.2.2) ++ [x]) : M.map strV = L.map strV ++ [.string (strB x)] := by
  have := congrArg (List.map fun b => Value.string (strB b)) h
  rw [List.map_append, List.map_map, List.map_map] at this
  exact this

theorem T_scrivenerlaw12_PoolFair (B : PH) (ev : Value) (ents : List (List UInt8)) (he : IsBB B ev ents) : Tri Try.prog F_scrivenerlaw12_PoolFair [ev] B [] fun v B' L' => v = .bool true ∧ L' = [] := by
  obtain ⟨us0, hul0, ⟨ea, ec, rfl, hec, her⟩, hus0⟩ := he
  refine tri_of fn_scrivenerlaw12_PoolFair rfl nt_scrivenerlaw12_PoolFair rfl fun W0 R => ?_
  simp only [argEnv, List.nil_append, List.cons_append]
  refine k_seq ?_
  refine k_region ?_
  refine n_y rfl (y_as rfl) rfl ?_
  refine n_nil ?_
  refine th_n ?_
  refine k_seq ?_
  refine k_seq ?_
  refine k_region ?_
  refine n_op rfl (o_call rfl (T_scrivenerlaw12_waits _) rfl ?_)
  rintro v13 B13 L13 hB13 ⟨rfl, rfl⟩
  try conv => arg 7; dsimp only [List.nil_append, List.cons_append]
  refine n_y rfl (y_notb rfl) rfl ?_
  refine n_nil ?_
  refine th_n ?_
  refine k_condf rfl ?_
  refine k_skip ?_
  refine th_n ?_
  refine k_seq ?_
  refine k_seq ?_
  refine k_region ?_
  refine n_y rfl (y_mv rfl) rfl ?_
  refine n_y rfl (y_len rfl) rfl ?_
  refine n_y rfl (y_gt rfl rfl) rfl ?_
  refine n_nil ?_
  refine th_n ?_
  refine k_cond rfl (fun c17 => ?_) (fun c17 => ?_)
  · skip
    refine k_seq ?_
    refine k_region ?_
    refine n_y rfl (y_as rfl) rfl ?_
    refine n_nil ?_
    refine th_n ?_
    refine k_ret ?_
    refine th_r ?_
    refine k_retn rfl (rs_t rfl (rs_nil)) (hB13) (⟨rfl, rfl⟩)
  · skip
    refine k_skip ?_
    refine th_n ?_
    refine k_seq ?_
    refine k_region ?_
    refine n_op rfl (o_call rfl (T_pool_New _) rfl ?_)
    rintro v18 B18 L18 hB18 ⟨b18, rfl, rfl, rfl⟩
    try conv => arg 7; dsimp only [List.nil_append, List.cons_append]
    refine n_op rfl (o_call rfl (T_book_New _) rfl ?_)
    rintro v19 B19 L19 hB19 ⟨b19, rfl, rfl, rfl⟩
    try conv => arg 7; dsimp only [List.nil_append, List.cons_append]
    refine n_y rfl (y_as rfl) rfl ?_
    refine n_y rfl (y_as rfl) rfl ?_
    refine n_nil ?_
    refine th_n ?_
    refine k_seq ?_
    refine k_seq ?_
    refine k_region ?_
    refine n_y rfl (y_mv rfl) rfl ?_
    refine n_y rfl (y_eqpnil rfl rfl) rfl ?_
    refine n_y rfl (y_mv rfl) rfl ?_
    refine n_y rfl (y_mv rfl) rfl ?_
    refine n_y rfl (y_eqpnil rfl rfl) rfl ?_
    refine n_y rfl (y_pf rfl rfl) rfl ?_
    refine n_nil ?_
    refine th_n ?_
    refine k_condf rfl ?_
    refine k_skip ?_
    refine th_n ?_
    refine k_seq ?_
    refine k_region ?_
    refine n_y rfl (y_as rfl) rfl ?_
    refine n_nil ?_
    refine th_n ?_
    refine k_seq ?_
    refine k_seq ?_
    refine k_region ?_
    refine n_y rfl (y_mv rfl) rfl ?_
    refine n_y rfl (y_len rfl) rfl ?_
    refine n_y rfl (y_mv rfl) rfl ?_
    refine n_nil ?_
    refine th_n ?_
    refine k_block ?_
    refine k_ownil 9 1 ?_
    refine k_loop2 (α := Nat × List PW × List W3 × Value × PH) [5, 7, 28, 29, 30, 31, 32, 33, 34, 35, 36, 37, 38, 39, 40, 41, 42, 43, 44, 45, 46] (fun z9 => z9.1 ≤ ents.length ∧ Good zBk z9.2.2.1 ∧ z9.2.2.1.length ≤ 24 ∧ z9.2.1.map PW.abs = z9.2.2.1 ∧ PoolOk z9.2.2.2.2 z9.2.1 ∧ B19.le z9.2.2.2.2 ∧ OneC z9.2.2.2.1) (fun z9 => [(28, .int .i64 (z9.1 : Int)), (5, z9.2.2.2.1)]) (fun z9 => z9.2.2.2.2) (fun z9 => [poolA b18 z9.2.1, ow 9 1 z9.2.2.2.1 z9.2.2.1.length (z9.2.2.1.map strV)]) (fun z9 => ents.length - z9.1) (0, [], [], .slice none 0 0, _) ⟨Nat.zero_le _, good_nil zBk_ok, Nat.zero_le _, rfl, fun a ha => (by cases ha), PH.le_refl _, ⟨rfl⟩⟩ rfl ⟨rfl, rfl, trivial⟩ [poolA b18 [], ow 9 1 (.slice none 0 0) 0 []] rfl ?_
    rintro ⟨i, l, L, ov, Bk⟩ ⟨hi, hg, hln, haL, hl, hBk, hov⟩
    dsimp only at hi hg hln haL hl hBk hov
    haveI := hov
    have hlL : l.length = L.length := by rw [← haL, List.length_map]
    try conv => arg 7; dsimp only [List.nil_append, List.cons_append]
    try conv => arg 6; dsimp only
    try conv => arg 4; dsimp only [List.nil_append, List.cons_append]
    refine k_seq ?_
    refine k_region ?_
    refine n_y rfl (y_lt rfl rfl) rfl ?_
    refine n_nil ?_
    refine th_n ?_
    refine k_seq ?_
    refine k_cond rfl (fun c29 => ?_) (fun c29 => ?_)
    · skip
      have hi' : i < ents.length := by omega
      obtain ⟨x, hx⟩ : ∃ x, ents[i]? = some x := ⟨_, List.getElem?_eq_getElem hi'⟩
      obtain ⟨u, hui⟩ : ∃ u, us0[i]? = some u := ⟨_, List.getElem?_eq_getElem (by omega)⟩
      obtain ⟨qb, qo, rfl, hqr⟩ := her (by intro e; rw [e] at hul0; simp at hul0; omega)
      have hux := (hus0 i u x hui hx).mono (PH.le_trans (hB13) hBk)
      haveI := hux.one
      obtain ⟨ua, uc, rfl⟩ := hux.form
      refine k_skip ?_
      refine th_n ?_
      refine k_seq ?_
      refine k_block ?_
      refine k_seq ?_
      refine k_region ?_
      refine n_y rfl (y_ia rfl rfl i rfl (by omega)) rfl ?_
      refine n_y rfl (y_ldi (i := i) rfl (hqr.mono (PH.le_trans (hB13) hBk)) (by omega) hui) rfl ?_
      refine n_y rfl (y_as rfl) rfl ?_
      refine n_nil ?_
      refine th_n ?_
      refine k_seq ?_
      refine k_region ?_
      refine n_y rfl (y_mv rfl) rfl ?_
      refine n_y rfl (y_len rfl) rfl ?_
      refine n_y rfl (y_le rfl rfl) rfl ?_
      refine k_dec (fun c34 => ?_) (fun c34 => ?_)
      · skip
        obtain ⟨hg1, hg2, hg3, hg4⟩ := put_good hg hln (b := x) (by omega)
        refine n_y rfl (y_mv rfl) rfl ?_
        refine n_y rfl (y_mv rfl) rfl ?_
        refine n_y rfl (y_mv rfl) rfl ?_
        refine n_op rfl (o_call rfl (T_pool_Pool_Put _ b18 l _ x hl (by omega) hux (by omega)) rfl ?_)
        rintro v38 B38 L38 hB38 ⟨l38, rfl, ha38, hl38, rfl⟩
        try conv => arg 7; dsimp only [List.nil_append, List.cons_append]
        replace hl := hl.mono hB38
        replace hux := hux.mono hB38
        rw [haL] at ha38 ⊢
        refine n_y rfl (y_eq rfl rfl) rfl ?_
        refine k_dec (fun c39 => ?_) (fun c39 => ?_)
        · skip
          refine n_y rfl (y_pt rfl rfl) rfl ?_
          refine n_nil ?_
          refine th_n ?_
          refine k_condt rfl ?_
          refine k_region ?_
          refine n_y rfl (y_mv rfl) rfl ?_
          refine n_y rfl (y_mv rfl) rfl ?_
          refine n_y rfl (y_cvS hux rfl) rfl ?_
          refine n_op rfl (o_bs rfl rfl rfl rfl rfl rfl fun b44 => ?_)
          refine n_op rfl (o_app rfl rfl rfl (src_bk (m := 1) rfl rfl) rfl rfl (by omega) rfl fun v45 hv45 => ?_)
          rw [show L.map strV ++ flat [.one (.string (strB x))] = (putE L x).2.map strV from (strV_map (hg3 c39)).symm, show L.length + 1 = (putE L x).2.length by have := congrArg List.length (hg3 c39); simp at this; omega]
          haveI := hv45
          refine n_y rfl (y_as rfl) rfl ?_
          refine n_nil ?_
          refine bl_n ?_
          refine th_n ?_
          refine k_region ?_
          refine n_y rfl (y_add rfl rfl (by omega)) rfl ?_
          refine n_y rfl (y_mv rfl) rfl ?_
          refine n_nil ?_
          refine th_n ?_
          exact k_again2 (i + 1, l38, (putE L x).2, v45, B38) ⟨⟨by dsimp only; omega, hg2, hg1, ha38, hl38, PH.le_trans hBk hB38, inferInstance⟩, by dsimp only; omega⟩ rfl ⟨rfl, rfl, trivial⟩ rfl
        · skip
          rw [← hg4 c39]
          refine n_y rfl (y_pt rfl rfl) rfl ?_
          refine n_nil ?_
          refine th_n ?_
          refine k_condf rfl ?_
          refine k_skip ?_
          refine bl_n ?_
          refine th_n ?_
          refine k_region ?_
          refine n_y rfl (y_add rfl rfl (by omega)) rfl ?_
          refine n_y rfl (y_mv rfl) rfl ?_
          refine n_nil ?_
          refine th_n ?_
          exact k_again2 (i + 1, l38, (putE L x).2, ov, B38) ⟨⟨by dsimp only; omega, hg2, hg1, ha38, hl38, PH.le_trans hBk hB38, inferInstance⟩, by dsimp only; omega⟩ rfl ⟨rfl, rfl, trivial⟩ rfl
      · skip
        refine n_y rfl (y_mv rfl) rfl ?_
        refine n_no rfl rfl ?_
        refine n_no rfl rfl ?_
        refine n_no rfl rfl ?_
        refine n_no rfl rfl ?_
        refine n_y rfl (y_pf rfl rfl) rfl ?_
        refine n_nil ?_
        refine th_n ?_
        refine k_condf rfl ?_
        refine k_skip ?_
        refine bl_n ?_
        refine th_n ?_
        refine k_region ?_
        refine n_y rfl (y_add rfl rfl (by omega)) rfl ?_
        refine n_y rfl (y_mv rfl) rfl ?_
        refine n_nil ?_
        refine th_n ?_
        exact k_again2 (i + 1, l, L, ov, Bk) ⟨⟨by dsimp only; omega, hg, hln, haL, hl, hBk, hov⟩, by dsimp only; omega⟩ rfl ⟨rfl, rfl, trivial⟩ rfl
    · skip
      obtain rfl : i = ents.length := by omega
      refine k_exit ?_
      refine th_x ?_
      refine th_x ?_
      refine bl_s ?_
      refine th_n ?_
      refine k_seq ?_
      refine k_seq ?_
      refine k_region ?_
      refine n_y rfl (y_as rfl) rfl ?_
      refine n_nil ?_
      refine th_n ?_
      refine k_block ?_
      refine k_loop2 (α := Nat × Sc.Bk × List Value × List PW × PH) [2, 8, 47, 48, 49, 50, 51, 52, 53, 54, 55, 56, 57, 58, 59, 60] (fun z9 => z9.1 ≤ 3 ∧ Good z9.2.1 (z9.2.2.2.1.map PW.abs) ∧ IsBs z9.2.2.2.2 z9.2.2.1 z9.2.1.list ∧ PoolOk z9.2.2.2.2 z9.2.2.2.1 ∧ Bk.le z9.2.2.2.2 ∧ z9.2.2.2.1.length = l.length - 8 * z9.1 ∧ z9.2.1.heads.length = z9.1 ∧ z9.2.1.list ++ (z9.2.2.2.1.map PW.abs).map (fun a => a.2.2) = L.map fun a => a.2.2) (fun z9 => [(8, .int .i64 (z9.1 : Int))]) (fun z9 => z9.2.2.2.2) (fun z9 => [bookA b19 z9.2.1 z9.2.2.1, poolA b18 z9.2.2.2.1]) (fun z9 => z9.2.2.2.1.length) (0, zBk, [], l, _) ⟨Nat.zero_le _, by dsimp only; rw [haL]; exact hg, trivial, hl, PH.le_refl _, by simp, rfl, by dsimp only; rw [haL]; rfl⟩ rfl ⟨rfl, trivial⟩ [bookA b19 zBk [], poolA b18 l] rfl ?_
      rintro ⟨n, k, us, l2, Bj⟩ ⟨hn, hgk, hus, hl2, hBj, hl2n, hhd, hall⟩
      dsimp only at hn hgk hus hl2 hBj hl2n hhd hall
      obtain ⟨hr1, hr2, hr3, hr4⟩ := round_good hgk
      have hbl := batch_length hgk
      try conv => arg 7; dsimp only [List.nil_append, List.cons_append]
      try conv => arg 6; dsimp only
      try conv => arg 4; dsimp only [List.nil_append, List.cons_append]
      replace hl := hl.mono hBj
      refine k_seq ?_
      refine k_seq ?_
      refine k_region ?_
      refine n_y rfl (y_mv rfl) rfl ?_
      refine n_op rfl (o_call rfl (T_pool_Pool_Len _ b18 l2) rfl ?_)
      rintro v48 B48 L48 hB48 ⟨rfl, rfl, rfl⟩
      try conv => arg 7; dsimp only [List.nil_append, List.cons_append]
      refine n_y rfl (y_gt rfl rfl) rfl ?_
      refine n_nil ?_
      refine th_n ?_
      refine k_cond rfl (fun c49 => ?_) (fun c49 => ?_)
      · skip
        refine k_skip ?_
        refine th_n ?_
        refine k_seq ?_
        refine k_block ?_
        refine k_seq ?_
        refine k_seq ?_
        refine k_region ?_
        refine n_y rfl (y_mv rfl) rfl ?_
        refine n_y rfl (y_gt rfl rfl) rfl ?_
        refine n_nil ?_
        refine th_n ?_
        refine k_cond rfl (fun c53 => ?_) (fun c53 => ?_)
        · skip
          omega
        · skip
          refine k_skip ?_
          refine th_n ?_
          refine k_seq ?_
          refine k_region ?_
          refine n_y rfl (y_mv rfl) rfl ?_
          refine n_y rfl (y_mv rfl) rfl ?_
          refine n_op rfl (o_call rfl (T_pool_Pool_Batch _ b18 l2 hl2 (by omega) (fun a ha => by have := hgk.small a.abs (List.mem_map_of_mem ha); simp only [PW.abs] at this; omega)) rfl ?_)
          rintro v56 B56 L56 hB56 ⟨hv56, rfl⟩
          try conv => arg 7; dsimp only [List.nil_append, List.cons_append]
          replace hl := hl.mono hB56
          replace hus := hus.mono hB56
          replace hl2 := hl2.mono hB56
          haveI := hv56.one
          refine n_op rfl (o_call rfl (T_book_Book_Apply _ b19 k us _ (batchE (l2.map PW.abs)) hgk.bok hus (by omega) hv56 hbl.1) rfl ?_)
          rintro v57 B57 L57 hB57 ⟨us57, rfl, hus57, rfl⟩
          try conv => arg 7; dsimp only [List.nil_append, List.cons_append]
          replace hl := hl.mono hB57
          replace hus := hus.mono hB57
          replace hl2 := hl2.mono hB57
          replace hv56 := hv56.mono hB57
          refine n_nil ?_
          refine th_n ?_
          refine k_region ?_
          refine n_y rfl (y_mv rfl) rfl ?_
          refine n_y rfl (y_mv rfl) rfl ?_
          refine n_op rfl (o_call rfl (T_pool_Pool_Done _ b18 b19 l2 (applyB (batchE (l2.map PW.abs)) k) us57 hl2 (by omega)) rfl ?_)
          rintro v60 B60 L60 hB60 ⟨l60, rfl, he60, hl60, rfl⟩
          try conv => arg 7; dsimp only [List.nil_append, List.cons_append]
          replace hl := hl.mono hB60
          replace hus := hus.mono hB60
          replace hl2 := hl2.mono hB60
          replace hv56 := hv56.mono hB60
          replace hus57 := hus57.mono hB60
          have hl8 : l60.map PW.abs = (l2.map PW.abs).drop 8 := by
            rw [← hr2, he60, doneE, List.filter_map]; rfl
          refine n_nil ?_
          refine bl_n ?_
          refine th_n ?_
          refine k_region ?_
          refine n_y rfl (y_mv rfl) rfl ?_
          refine n_y rfl (y_add rfl rfl (by omega)) rfl ?_
          refine n_y rfl (y_as rfl) rfl ?_
          refine n_nil ?_
          refine th_n ?_
          have hln2 : l60.length = l2.length - 8 := by have := congrArg List.length hl8; rw [List.length_map, List.length_drop, List.length_map] at this; exact this
          exact k_again2 (n + 1, applyB (batchE (l2.map PW.abs)) k, us57, l60, B60) ⟨⟨by dsimp only; omega, by dsimp only; rw [hl8]; exact hr1, hus57, hl60, PH.le_trans hBj (PH.le_trans hB56 (PH.le_trans hB57 hB60)), by dsimp only; omega, by dsimp only; omega, by dsimp only; rw [hr3, hl8, List.append_assoc, ← List.map_append, List.take_append_drop]; exact hall⟩, by dsimp only; omega⟩ rfl ⟨rfl, trivial⟩ rfl
      · skip
        obtain rfl : l2 = [] := List.eq_nil_of_length_eq_zero (by omega)
        rw [List.map_nil, List.map_nil, List.append_nil] at hall
        have hkl : k.list.length = L.length := by rw [hall, List.length_map]
        refine k_owf (v := ov) fun ⟨oa, oc, e9⟩ _ _ => ?_
        subst e9
        refine k_exit ?_
        refine th_x ?_
        refine th_x ?_
        refine bl_s ?_
        refine th_n ?_
        refine k_seq ?_
        refine k_seq ?_
        refine k_region ?_
        refine n_y rfl (y_mv rfl) rfl ?_
        refine n_op rfl (o_call rfl (T_book_Book_Size _ b19 k us) rfl ?_)
        rintro v62 B62 L62 hB62 ⟨rfl, rfl, rfl⟩
        try conv => arg 7; dsimp only [List.nil_append, List.cons_append]
        refine n_y rfl (y_mv rfl) rfl ?_
        refine n_y rfl (y_len rfl) rfl ?_
        refine n_y rfl (y_ne rfl rfl) rfl ?_
        refine n_nil ?_
        refine th_n ?_
        refine k_cond rfl (fun c65 => ?_) (fun c65 => ?_)
        · skip
          omega
        · skip
          refine k_skip ?_
          refine th_n ?_
          refine k_seq ?_
          refine k_seq ?_
          refine k_region ?_
          refine n_y rfl (y_mv rfl) rfl ?_
          refine n_y rfl (y_len rfl) rfl ?_
          refine n_y rfl (y_mv rfl) rfl ?_
          refine n_nil ?_
          refine th_n ?_
          refine k_block ?_
          refine k_loop2 (α := Nat × PH) [2, 9, 10, 11, 12, 68, 69, 70, 71, 72, 73, 74, 75, 76, 77, 78, 79, 80, 81, 82, 83, 84, 85, 86, 87] (fun z9 => z9.1 ≤ L.length ∧ B62.le z9.2) (fun z9 => [(68, .int .i64 (z9.1 : Int))]) (fun z9 => z9.2) (fun z9 => [bookA b19 k us]) (fun z9 => L.length - z9.1) (0, _) ⟨Nat.zero_le _, PH.le_refl _⟩ rfl ⟨rfl, trivial⟩ _ rfl ?_
          rintro ⟨j, Bm⟩ ⟨hj, hBm⟩
          dsimp only at hj hBm
          try conv => arg 7; dsimp only [List.nil_append, List.cons_append]
          try conv => arg 6; dsimp only
          try conv => arg 4; dsimp only [List.nil_append, List.cons_append]
          replace hl := hl.mono hBm
          replace hus := hus.mono hBm
          replace hl2 := hl2.mono hBm
          refine k_seq ?_
          refine k_region ?_
          refine n_y rfl (y_lt rfl rfl) rfl ?_
          refine n_nil ?_
          refine th_n ?_
          refine k_seq ?_
          refine k_cond rfl (fun c69 => ?_) (fun c69 => ?_)
          · skip
            have hj' : j < L.length := by omega
            obtain ⟨a, haj⟩ : ∃ a, L[j]? = some a := ⟨_, List.getElem?_eq_getElem hj'⟩
            refine k_owform (v := .slice oa L.length oc) (by omega) fun qb cap hq hmc => ?_
            obtain ⟨rfl, rfl⟩ : oa = some ⟨qb, 0, none⟩ ∧ oc = cap := by simpa using hq
            refine k_skip ?_
            refine th_n ?_
            refine k_seq ?_
            refine k_block ?_
            refine k_seq ?_
            refine k_region ?_
            refine n_y rfl (y_mv rfl) rfl ?_
            refine n_y rfl (y_ia rfl rfl j rfl (by omega)) rfl ?_
            refine n_y rfl (y_ldw (m := L.length) (cap := oc) (v := .string (strB a.2.2)) rfl (by rw [Nat.zero_add, Nat.mul_one, List.getElem?_map, haj]; rfl)) rfl ?_
            refine n_y rfl (y_as rfl) rfl ?_
            refine n_y rfl (y_as rfl) rfl ?_
            refine n_nil ?_
            refine th_n ?_
            refine k_seq ?_
            refine k_region ?_
            refine n_y rfl (y_mv rfl) rfl ?_
            refine n_y rfl (y_mv rfl) rfl ?_
            refine n_op rfl (o_call rfl (T_book_Book_At _ b19 k us (j : Int) hus (fun x hx => by rw [hall] at hx; obtain ⟨a, ha, rfl⟩ := List.mem_map.1 hx; have := hg.small a ha; omega)) rfl ?_)
            rintro v76 B76 L76 hB76 ⟨bv76, rfl, h76⟩
            try conv => arg 7; dsimp only [List.nil_append, List.cons_append]
            replace hl := hl.mono hB76
            replace hus := hus.mono hB76
            replace hl2 := hl2.mono hB76
            obtain ⟨hbx, rfl⟩ : IsB B76 bv76 a.2.2 ∧ v76 = .tuple #[bv76, .int .i64 0] := by
              rcases h76 with ⟨x, h1, h2, h3, h4⟩ | ⟨h1, _⟩
              · rw [hall, Int.toNat_natCast, List.getElem?_map, haj] at h2
                simp only [Option.map_some, Option.some.injEq] at h2
                subst h2; exact ⟨h4, h3⟩
              · omega
            haveI := hbx.one
            refine n_y rfl (y_mv rfl) rfl ?_
            refine n_y rfl (y_ex0 rfl) rfl ?_
            refine n_y rfl (y_ex1 rfl) rfl ?_
            refine n_y rfl (y_as rfl) rfl ?_
            refine n_y rfl (y_as rfl) rfl ?_
            refine n_nil ?_
            refine th_n ?_
            refine k_seq ?_
            refine k_region ?_
            refine n_y rfl (y_mv rfl) rfl ?_
            refine n_y rfl (y_ne rfl rfl) rfl ?_
            rw [show decide ((0 : Int) ≠ 0) = false from rfl]
            refine n_y rfl (y_mv rfl) rfl ?_
            refine n_y rfl (y_mv rfl) rfl ?_
            refine n_y rfl (y_cvS hbx rfl) rfl ?_
            refine n_y rfl (y_mv rfl) rfl ?_
            refine n_y rfl (y_neS rfl rfl) rfl ?_
            rw [show decide (a.2.2 ≠ a.2.2) = false from decide_eq_false (fun h => h rfl)]
            refine n_y rfl (y_pf rfl rfl) rfl ?_
            refine n_nil ?_
            refine th_n ?_
            refine k_condf rfl ?_
            refine k_skip ?_
            refine bl_n ?_
            refine th_n ?_
            refine k_region ?_
            refine n_y rfl (y_add rfl rfl (by omega)) rfl ?_
            refine n_y rfl (y_mv rfl) rfl ?_
            refine n_nil ?_
            refine th_n ?_
            exact k_again2 (j + 1, B76) ⟨⟨by dsimp only; omega, PH.le_trans hBm hB76⟩, by dsimp only; omega⟩ rfl ⟨rfl, trivial⟩ rfl
          · skip
            refine k_exit ?_
            refine th_x ?_
            refine th_x ?_
            refine bl_s ?_
            refine th_n ?_
            refine k_seq ?_
            refine k_region ?_
            refine n_y rfl (y_as rfl) rfl ?_
            refine n_nil ?_
            refine th_n ?_
            refine k_ret ?_
            refine k_retn rfl (rs_t rfl (rs_nil)) (PH.le_trans (PH.le_trans (PH.le_trans (hB13) hBk) hBj) hBm) (⟨rfl, rfl⟩)
end Go.Proofs.Ytokekdbdnonebaa
