/- slices: what a test strikes out. -/
import Derived.Test.YtokekdbdnonebaaTy
import Derived.Test.YtokekdbdnonebaaMg
import Derived.Test.YtokekdbdnonebaaEngV
namespace Go.Proofs.Ytokekdbdnonebaa
open Sc Go

theorem T_slices_IndexFunc_waiting {α σ : Type} (enc : α → P3) (he : ∀ a, One3 (enc a)) (B : PH) (vv : Value) (l : List α) (f : FuncId) (fi ca : List Value) [FnC Try.prog f] (St : σ → PH → Asrt → Prop) (hSm : ∀ s B1 B2 A, B1.le B2 → St s B1 A → St s B2 A) (good : α → Prop) (hg : ∀ a ∈ l, good a) (test : σ → α → Bool) (next : σ → α → σ) (D : DelT Try.prog f fi ca enc B St good test next) (s0 : σ) (A0 : Asrt) (h0 : St s0 B A0) (hn : l.length < 1099511627776) : Tri Try.prog F_slices_IndexFunc_waiting [vv, .func (.func f) fi.toArray ca.toArray] B [ow 102 3 vv l.length (l.flatMap fun a => p3C (enc a)), A0] fun v B' L' => ∃ A1 r s1, findF test next l s0 0 = (r, s1) ∧ v = .int .i64 (match r with | some k => (k : Int) | none => -1) ∧ St s1 B' A1 ∧ L' = [ow 102 3 vv l.length (l.flatMap fun a => p3C (enc a)), A1] := by
  refine tri_of fn_slices_IndexFunc_waiting rfl nt_slices_IndexFunc_waiting rfl fun W0 R => ?_
  simp only [argEnv, List.nil_append, List.cons_append]
  refine k_seq ?_
  refine k_region ?_
  refine n_y rfl (y_as rfl) rfl ?_
  refine n_nil ?_
  refine th_n ?_
  refine k_seq ?_
  refine k_seq ?_
  refine k_region ?_
  refine k_owf (v := vv) fun ⟨va, vc, e1⟩ hcl hco => ?_
  subst e1
  refine n_y rfl (y_mv rfl) rfl ?_
  refine n_y rfl (y_len rfl) rfl ?_
  refine n_y rfl (y_mv rfl) rfl ?_
  refine n_nil ?_
  refine th_n ?_
  refine k_block ?_
  refine k_loop2 (α := Nat × σ × Asrt × PH) [4, 5, 8, 9, 10, 11, 12, 13, 14, 15, 16, 17, 18] (fun z9 => z9.1 ≤ l.length ∧ findF test next l s0 0 = findF test next (l.drop z9.1) z9.2.1 z9.1 ∧ St z9.2.1 z9.2.2.2 z9.2.2.1 ∧ B.le z9.2.2.2) (fun z9 => [(8, .int .i64 (z9.1 : Int))]) (fun z9 => z9.2.2.2) (fun z9 => [ow 102 3 (.slice va l.length vc) l.length (l.flatMap fun a => p3C (enc a)), z9.2.2.1]) (fun z9 => l.length - z9.1) (0, s0, A0, B) ⟨Nat.zero_le _, rfl, h0, PH.le_refl _⟩ rfl ⟨rfl, trivial⟩ [ow 102 3 (.slice va l.length vc) l.length (l.flatMap fun a => p3C (enc a)), A0] rfl ?_
  rintro ⟨k, s, A, Bk⟩ ⟨hk, heq, hS, hBk⟩
  dsimp only at hk heq hS hBk
  try conv => arg 7; dsimp only [List.nil_append, List.cons_append]
  try conv => arg 6; dsimp only
  try conv => arg 4; dsimp only [List.nil_append, List.cons_append]
  refine k_seq ?_
  refine k_region ?_
  refine n_y rfl (y_lt rfl rfl) rfl ?_
  refine n_nil ?_
  refine th_n ?_
  refine k_seq ?_
  refine k_cond rfl (fun c9 => ?_) (fun c9 => ?_)
  · skip
    have hk' : k < l.length := by omega
    obtain ⟨a, ha⟩ : ∃ a, l[k]? = some a := ⟨_, List.getElem?_eq_getElem hk'⟩
    have hpl := p3_len enc l
    refine k_owform (v := .slice va l.length vc) (by omega) fun qb cap hq hmc => ?_
    obtain ⟨rfl, rfl⟩ : va = some ⟨qb, 0, none⟩ ∧ vc = cap := by simpa using hq
    refine k_skip ?_
    refine th_n ?_
    refine k_seq ?_
    refine k_block ?_
    refine k_seq ?_
    refine k_region ?_
    refine n_y rfl (y_mv rfl) rfl ?_
    refine n_y rfl (y_as rfl) rfl ?_
    refine n_nil ?_
    refine th_n ?_
    refine k_seq ?_
    refine k_region ?_
    refine n_y rfl (y_mv rfl) rfl ?_
    refine n_y rfl (y_mv rfl) rfl ?_
    refine n_y rfl (y_mv rfl) rfl ?_
    refine n_y rfl (y_ia rfl rfl k rfl (by omega)) rfl ?_
    refine n_y rfl (y_ldwa (m := l.length) (cap := vc) (x' := p3S (enc a)) rfl (by omega) (by rw [Nat.zero_add, p3_sub enc ha]; rfl)) rfl ?_
    refine n_op rfl (o_callv rfl rfl rfl (D s a Bk A hBk hS (hg a (List.mem_of_getElem? ha))) rfl ?_)
    rintro v16 B16 L16 hB16 ⟨rfl, A16, rfl, hS16⟩
    try conv => arg 7; dsimp only [List.nil_append, List.cons_append]
    refine n_nil ?_
    refine th_n ?_
    refine k_condb rfl (fun c16 => ?_) (fun c16 => ?_)
    · skip
      refine k_seq ?_
      refine k_region ?_
      refine n_y rfl (y_mv rfl) rfl ?_
      refine n_y rfl (y_as rfl) rfl ?_
      refine n_nil ?_
      refine th_n ?_
      refine k_ret ?_
      refine bl_r ?_
      refine th_r ?_
      refine th_r ?_
      refine bl_r ?_
      refine th_r ?_
      refine k_retn rfl (rs_t rfl (rs_nil)) (PH.le_trans (hBk) hB16) (⟨A16, some k, next s a, by rw [heq, drop_cons ha, findF, if_pos c16], rfl, hS16, rfl⟩)
    · skip
      refine k_skip ?_
      refine bl_n ?_
      refine th_n ?_
      refine k_region ?_
      refine n_y rfl (y_add rfl rfl (by omega)) rfl ?_
      refine n_y rfl (y_mv rfl) rfl ?_
      refine n_nil ?_
      refine th_n ?_
      exact k_again2 (k + 1, next s a, A16, B16) ⟨⟨by dsimp only; omega, by dsimp only; rw [heq, drop_cons ha, findF, if_neg (by rw [c16]; decide)], hS16, PH.le_trans hBk hB16⟩, by dsimp only; omega⟩ rfl ⟨rfl, trivial⟩ rfl
  · skip
    obtain rfl : k = l.length := by omega
    rw [List.drop_length] at heq
    refine k_exit ?_
    refine th_x ?_
    refine th_x ?_
    refine bl_s ?_
    refine th_n ?_
    refine k_seq ?_
    refine k_region ?_
    refine n_y rfl (y_as rfl) rfl ?_
    refine n_nil ?_
    refine th_n ?_
    refine k_ret ?_
    refine k_retn rfl (rs_t rfl (rs_nil)) (hBk) (⟨A, none, s, by rw [heq]; rfl, rfl, hS, rfl⟩)
theorem T_slices_DeleteFunc_waiting {α σ : Type} (enc : α → P3) (he : ∀ a, One3 (enc a)) (B : PH) (vv : Value) (l : List α) (f : FuncId) (fi ca : List Value) [FnC Try.prog f] (St : σ → PH → Asrt → Prop) (hSm : ∀ s B1 B2 A, B1.le B2 → St s B1 A → St s B2 A) (good : α → Prop) (hg : ∀ a ∈ l, good a) (test : σ → α → Bool) (next : σ → α → σ) (D : DelT Try.prog f fi ca enc B St good test next) (s0 : σ) (A0 : Asrt) (h0 : St s0 B A0) (hn : l.length < 1099511627776) : Tri Try.prog F_slices_DeleteFunc_waiting [vv, .func (.func f) fi.toArray ca.toArray] B [ow 102 3 vv l.length (l.flatMap fun a => p3C (enc a)), A0] fun v B' L' => ∃ v' l' s' A1, v = v' ∧ delAll test next l s0 = (l', s') ∧ OneC v' ∧ St s' B' A1 ∧ L' = [ow 102 3 v' l'.length (l'.flatMap fun a => p3C (enc a)), A1] := by
  refine tri_of fn_slices_DeleteFunc_waiting rfl nt_slices_DeleteFunc_waiting rfl fun W0 R => ?_
  simp only [argEnv, List.nil_append, List.cons_append]
  refine k_seq ?_
  refine k_region ?_
  refine n_y rfl (y_as rfl) rfl ?_
  refine n_nil ?_
  refine th_n ?_
  refine k_seq ?_
  refine k_region ?_
  refine k_owf (v := vv) fun ⟨va0, vc0, e10⟩ hcl0 hco0 => ?_
  haveI : OneC vv := by rw [e10]; exact ⟨rfl⟩
  refine n_y rfl (y_mv rfl) rfl ?_
  refine n_y rfl (y_mv rfl) rfl ?_
  refine n_op rfl (o_call rfl (T_slices_IndexFunc_waiting enc he _ vv l f fi ca St hSm good hg test next D s0 A0 h0 hn) rfl ?_)
  rintro v10 B10 L10 hB10 ⟨A10, r10, s10, hf10, rfl, hS10, rfl⟩
  try conv => arg 7; dsimp only [List.nil_append, List.cons_append]
  rcases r10 with _ | k0 <;> dsimp only
  · have hdel := findF_none hf10
    try conv => arg 7; dsimp only [List.nil_append, List.cons_append]
    refine n_y rfl (y_as rfl) rfl ?_
    refine n_nil ?_
    refine th_n ?_
    refine k_seq ?_
    refine k_seq ?_
    refine k_region ?_
    refine n_y rfl (y_mv rfl) rfl ?_
    refine n_y rfl (y_eq rfl rfl) rfl ?_
    rw [show decide ((-1 : Int) = -1) = true from rfl]
    refine n_nil ?_
    refine th_n ?_
    refine k_condt rfl ?_
    refine k_seq ?_
    refine k_region ?_
    refine n_y rfl (y_mv rfl) rfl ?_
    refine n_y rfl (y_as rfl) rfl ?_
    refine n_nil ?_
    refine th_n ?_
    refine k_ret ?_
    refine th_r ?_
    refine k_retn rfl (rs_t rfl (rs_nil)) (hB10) (⟨vv, l, s10, A10, rfl, hdel, inferInstance, hS10, rfl⟩)
  · obtain ⟨hk1, hk2, hdel⟩ := findF_some hf10
    rw [Nat.sub_zero] at hk2 hdel
    have hpl := p3_len enc l
    refine k_owopen (v := vv) (fun e1 e2 e3 => ?_) (fun qb cap sp e1 hmc hcl hsl hco hso => ?_)
    · omega
    subst e1
    try conv => arg 7; dsimp only [List.nil_append, List.cons_append]
    refine n_y rfl (y_as rfl) rfl ?_
    refine n_nil ?_
    refine th_n ?_
    refine k_seq ?_
    refine k_seq ?_
    refine k_region ?_
    refine n_y rfl (y_mv rfl) rfl ?_
    refine n_y rfl (y_eq rfl rfl) rfl ?_
    rw [decide_eq_false (show ¬ ((k0 : Int) = -1) by omega)]
    refine n_nil ?_
    refine th_n ?_
    refine k_condf rfl ?_
    refine k_skip ?_
    refine th_n ?_
    refine k_seq ?_
    refine k_seq ?_
    refine k_region ?_
    refine n_y rfl (y_mv rfl) rfl ?_
    refine n_y rfl (y_add rfl rfl (by omega)) rfl ?_
    refine n_y rfl (y_as rfl) rfl ?_
    refine n_nil ?_
    refine th_n ?_
    refine k_block ?_
    refine k_loop2 (α := Nat × Nat × List α × σ × Asrt × PH) [5, 6, 7, 16, 17, 18, 19, 20, 21, 22, 23, 24, 25, 26, 27, 28, 29, 30, 31, 32, 33, 34, 35] (fun z9 => z9.2.1 < z9.1 ∧ z9.1 ≤ l.length ∧ z9.2.2.1.length = l.length ∧ (z9.2.2.1).drop z9.1 = l.drop z9.1 ∧ delAll test next l s0 = ((z9.2.2.1).take z9.2.1 ++ (delAll test next (l.drop z9.1) z9.2.2.2.1).1, (delAll test next (l.drop z9.1) z9.2.2.2.1).2) ∧ St z9.2.2.2.1 z9.2.2.2.2.2 z9.2.2.2.2.1 ∧ B10.le z9.2.2.2.2.2) (fun z9 => [(6, .int .i64 (z9.1 : Int)), (5, .int .i64 (z9.2.1 : Int))]) (fun z9 => z9.2.2.2.2.2) (fun z9 => [bk qb 102 [.row (l.length * 3) ((z9.2.2.1).flatMap fun a => p3C (enc a)), .row ((cap - l.length) * 3) sp], z9.2.2.2.2.1]) (fun z9 => l.length - z9.1) (k0 + 1, k0, l, s10, A10, B10) ⟨Nat.lt_succ_self _, hk2, rfl, rfl, hdel, hS10, PH.le_refl _⟩ rfl ⟨rfl, rfl, trivial⟩ [bk qb 102 [.row (l.length * 3) (l.flatMap fun a => p3C (enc a)), .row ((cap - l.length) * 3) sp], A10] rfl ?_
    rintro ⟨j, i, c, s, A, Bk⟩ ⟨hij, hj, hcl2, hdr, heq, hS, hBk⟩
    dsimp only at hij hj hcl2 hdr heq hS hBk
    have hpc := p3_len enc c
    try conv => arg 7; dsimp only [List.nil_append, List.cons_append]
    try conv => arg 6; dsimp only
    try conv => arg 4; dsimp only [List.nil_append, List.cons_append]
    refine k_seq ?_
    refine k_seq ?_
    refine k_region ?_
    refine n_y rfl (y_mv rfl) rfl ?_
    refine n_y rfl (y_mv rfl) rfl ?_
    refine n_y rfl (y_len rfl) rfl ?_
    refine n_y rfl (y_lt rfl rfl) rfl ?_
    refine n_nil ?_
    refine th_n ?_
    refine k_cond rfl (fun c19 => ?_) (fun c19 => ?_)
    · skip
      have hj' : j < l.length := by omega
      obtain ⟨a, ha⟩ : ∃ a, l[j]? = some a := ⟨_, List.getElem?_eq_getElem hj'⟩
      have hca : c[j]? = some a := by
        have h1 := congrArg List.head? hdr
        rwa [List.head?_drop, List.head?_drop, ha] at h1
      haveI := (he a).a
      haveI := (he a).b
      haveI := (he a).c
      refine k_skip ?_
      refine th_n ?_
      refine k_seq ?_
      refine k_block ?_
      refine k_seq ?_
      refine k_region ?_
      refine n_y rfl (y_mv rfl) rfl ?_
      refine n_y rfl (y_mv rfl) rfl ?_
      refine n_y rfl (y_ia rfl rfl j rfl (by omega)) rfl ?_
      refine n_y rfl (y_ldra (o0 := 0) (d := j * 3) (x' := p3S (enc a)) rfl rfl (by omega) (by omega) (by rw [p3_sub enc hca]; rfl)) rfl ?_
      refine n_op rfl (o_al rfl fun b7 => ?_)
      refine n_op rfl (o_stv rfl rfl rfl rfl ?_)
      refine n_nil ?_
      refine th_n ?_
      refine k_seq ?_
      refine k_region ?_
      refine n_y rfl (y_mv rfl) rfl ?_
      refine n_y rfl (y_lda rfl rfl) rfl ?_
      refine n_op rfl (o_callv rfl rfl rfl (D s a Bk A (PH.le_trans hB10 hBk) hS (hg a (List.mem_of_getElem? ha))) rfl ?_)
      rintro v28 B28 L28 hB28 ⟨rfl, A28, rfl, hS28⟩
      try conv => arg 7; dsimp only [List.nil_append, List.cons_append]
      refine n_y rfl (y_notb rfl) rfl ?_
      refine n_nil ?_
      refine th_n ?_
      refine k_condb rfl (fun c29 => ?_) (fun c29 => ?_)
      · skip
        refine k_seq ?_
        refine k_region ?_
        refine n_y rfl (y_mv rfl) rfl ?_
        refine n_y rfl (y_mv rfl) rfl ?_
        refine n_y rfl (y_lda rfl rfl) rfl ?_
        refine n_y rfl (y_ia rfl rfl i rfl (by omega)) rfl ?_
        refine n_op rfl (o_str (o0 := 0) (m' := 3) (d := i * 3) rfl rfl rfl (by omega) rfl (by omega) rfl ?_)
        rw [show (c.flatMap fun a => p3C (enc a)).take (i * 3) ++ flat (p3S (enc a)) ++ (c.flatMap fun a => p3C (enc a)).drop (i * 3 + 3) = ((c.set i a).flatMap fun a => p3C (enc a)) from p3_set enc c i a (by omega)]
        refine n_nil ?_
        refine th_n ?_
        refine k_region ?_
        refine n_y rfl (y_mv rfl) rfl ?_
        refine n_y rfl (y_add rfl rfl (by omega)) rfl ?_
        refine n_y rfl (y_as rfl) rfl ?_
        refine n_nil ?_
        refine bl_n ?_
        refine th_n ?_
        refine k_region ?_
        refine n_y rfl (y_mv rfl) rfl ?_
        refine n_y rfl (y_add rfl rfl (by omega)) rfl ?_
        refine n_y rfl (y_as rfl) rfl ?_
        refine n_nil ?_
        refine th_n ?_
        exact k_again2 (j + 1, i + 1, c.set i a, next s a, A28, B28) ⟨⟨by dsimp only; omega, by dsimp only; omega, by simp [hcl2], by dsimp only; rw [List.drop_set_of_lt (by omega)]; exact drop_step hdr, del_keep heq ha (by omega) (by simpa using c29), hS28, PH.le_trans hBk hB28⟩, by dsimp only; omega⟩ rfl ⟨rfl, rfl, trivial⟩ rfl
      · skip
        refine k_skip ?_
        refine bl_n ?_
        refine th_n ?_
        refine k_region ?_
        refine n_y rfl (y_mv rfl) rfl ?_
        refine n_y rfl (y_add rfl rfl (by omega)) rfl ?_
        refine n_y rfl (y_as rfl) rfl ?_
        refine n_nil ?_
        refine th_n ?_
        exact k_again2 (j + 1, i, c, next s a, A28, B28) ⟨⟨by dsimp only; omega, by dsimp only; omega, hcl2, drop_step hdr, del_drop heq ha (by simpa using c29), hS28, PH.le_trans hBk hB28⟩, by dsimp only; omega⟩ rfl ⟨rfl, rfl, trivial⟩ rfl
    · skip
      obtain rfl : j = l.length := by omega
      rw [List.drop_length] at heq
      simp only [delAll, List.append_nil] at heq
      refine k_exit ?_
      refine th_x ?_
      refine th_x ?_
      refine bl_s ?_
      refine th_n ?_
      refine k_seq ?_
      refine k_region ?_
      refine n_y rfl (y_mv rfl) rfl ?_
      refine n_y rfl (y_mv rfl) rfl ?_
      refine n_y rfl (y_sll rfl rfl (i := i) (a := ⟨qb, 0 + i * 3, none⟩) rfl (by omega) (if_neg (by omega))) rfl ?_
      refine n_op rfl (o_clr (sz := 3) rfl rfl (by omega) fun xs' hxl hxt => ?_)
      refine n_nil ?_
      refine th_n ?_
      refine k_seq ?_
      refine k_region ?_
      refine n_y rfl (y_mv rfl) rfl ?_
      refine n_y rfl (y_mv rfl) rfl ?_
      refine n_y rfl (y_slh rfl rfl (j := i) rfl (by omega)) rfl ?_
      refine n_y rfl (y_as rfl) rfl ?_
      refine n_nil ?_
      refine th_n ?_
      refine k_ret ?_
      rw [Nat.zero_add, p3_take] at hxt
      have hti : (c.take i).length = i := by rw [List.length_take]; omega
      refine k_owshut qb i cap 3 ((c.take i).flatMap fun a => p3C (enc a)) (xs'.drop (i * 3) ++ sp) (by rw [← List.append_assoc, ← hxt, List.take_append_drop]) (by rw [p3_len, hti]) (by rw [← List.append_assoc, ← hxt, List.take_append_drop, List.length_append, hxl, hsl]; omega) (by omega) ?_
      refine k_retn rfl (rs_t rfl (rs_nil)) (PH.le_trans (hB10) hBk) (⟨.slice (some ⟨qb, 0, none⟩) i cap, c.take i, s, A, rfl, heq, ⟨rfl⟩, hS, by rw [hti]⟩)
theorem T_slices_IndexFunc_due {α σ : Type} (enc : α → P3) (he : ∀ a, One3 (enc a)) (B : PH) (vv : Value) (l : List α) (f : FuncId) (fi ca : List Value) [FnC Try.prog f] (St : σ → PH → Asrt → Prop) (hSm : ∀ s B1 B2 A, B1.le B2 → St s B1 A → St s B2 A) (good : α → Prop) (hg : ∀ a ∈ l, good a) (test : σ → α → Bool) (next : σ → α → σ) (D : DelT Try.prog f fi ca enc B St good test next) (s0 : σ) (A0 : Asrt) (h0 : St s0 B A0) (hn : l.length < 1099511627776) : Tri Try.prog F_slices_IndexFunc_due [vv, .func (.func f) fi.toArray ca.toArray] B [ow 200 3 vv l.length (l.flatMap fun a => p3C (enc a)), A0] fun v B' L' => ∃ A1 r s1, findF test next l s0 0 = (r, s1) ∧ v = .int .i64 (match r with | some k => (k : Int) | none => -1) ∧ St s1 B' A1 ∧ L' = [ow 200 3 vv l.length (l.flatMap fun a => p3C (enc a)), A1] := by
  refine tri_of fn_slices_IndexFunc_due rfl nt_slices_IndexFunc_due rfl fun W0 R => ?_
  simp only [argEnv, List.nil_append, List.cons_append]
  refine k_seq ?_
  refine k_region ?_
  refine n_y rfl (y_as rfl) rfl ?_
  refine n_nil ?_
  refine th_n ?_
  refine k_seq ?_
  refine k_seq ?_
  refine k_region ?_
  refine k_owf (v := vv) fun ⟨va, vc, e1⟩ hcl hco => ?_
  subst e1
  refine n_y rfl (y_mv rfl) rfl ?_
  refine n_y rfl (y_len rfl) rfl ?_
  refine n_y rfl (y_mv rfl) rfl ?_
  refine n_nil ?_
  refine th_n ?_
  refine k_block ?_
  refine k_loop2 (α := Nat × σ × Asrt × PH) [4, 5, 8, 9, 10, 11, 12, 13, 14, 15, 16, 17, 18] (fun z9 => z9.1 ≤ l.length ∧ findF test next l s0 0 = findF test next (l.drop z9.1) z9.2.1 z9.1 ∧ St z9.2.1 z9.2.2.2 z9.2.2.1 ∧ B.le z9.2.2.2) (fun z9 => [(8, .int .i64 (z9.1 : Int))]) (fun z9 => z9.2.2.2) (fun z9 => [ow 200 3 (.slice va l.length vc) l.length (l.flatMap fun a => p3C (enc a)), z9.2.2.1]) (fun z9 => l.length - z9.1) (0, s0, A0, B) ⟨Nat.zero_le _, rfl, h0, PH.le_refl _⟩ rfl ⟨rfl, trivial⟩ [ow 200 3 (.slice va l.length vc) l.length (l.flatMap fun a => p3C (enc a)), A0] rfl ?_
  rintro ⟨k, s, A, Bk⟩ ⟨hk, heq, hS, hBk⟩
  dsimp only at hk heq hS hBk
  try conv => arg 7; dsimp only [List.nil_append, List.cons_append]
  try conv => arg 6; dsimp only
  try conv => arg 4; dsimp only [List.nil_append, List.cons_append]
  refine k_seq ?_
  refine k_region ?_
  refine n_y rfl (y_lt rfl rfl) rfl ?_
  refine n_nil ?_
  refine th_n ?_
  refine k_seq ?_
  refine k_cond rfl (fun c9 => ?_) (fun c9 => ?_)
  · skip
    have hk' : k < l.length := by omega
    obtain ⟨a, ha⟩ : ∃ a, l[k]? = some a := ⟨_, List.getElem?_eq_getElem hk'⟩
    have hpl := p3_len enc l
    refine k_owform (v := .slice va l.length vc) (by omega) fun qb cap hq hmc => ?_
    obtain ⟨rfl, rfl⟩ : va = some ⟨qb, 0, none⟩ ∧ vc = cap := by simpa using hq
    refine k_skip ?_
    refine th_n ?_
    refine k_seq ?_
    refine k_block ?_
    refine k_seq ?_
    refine k_region ?_
    refine n_y rfl (y_mv rfl) rfl ?_
    refine n_y rfl (y_as rfl) rfl ?_
    refine n_nil ?_
    refine th_n ?_
    refine k_seq ?_
    refine k_region ?_
    refine n_y rfl (y_mv rfl) rfl ?_
    refine n_y rfl (y_mv rfl) rfl ?_
    refine n_y rfl (y_mv rfl) rfl ?_
    refine n_y rfl (y_ia rfl rfl k rfl (by omega)) rfl ?_
    refine n_y rfl (y_ldwa (m := l.length) (cap := vc) (x' := p3S (enc a)) rfl (by omega) (by rw [Nat.zero_add, p3_sub enc ha]; rfl)) rfl ?_
    refine n_op rfl (o_callv rfl rfl rfl (D s a Bk A hBk hS (hg a (List.mem_of_getElem? ha))) rfl ?_)
    rintro v16 B16 L16 hB16 ⟨rfl, A16, rfl, hS16⟩
    try conv => arg 7; dsimp only [List.nil_append, List.cons_append]
    refine n_nil ?_
    refine th_n ?_
    refine k_condb rfl (fun c16 => ?_) (fun c16 => ?_)
    · skip
      refine k_seq ?_
      refine k_region ?_
      refine n_y rfl (y_mv rfl) rfl ?_
      refine n_y rfl (y_as rfl) rfl ?_
      refine n_nil ?_
      refine th_n ?_
      refine k_ret ?_
      refine bl_r ?_
      refine th_r ?_
      refine th_r ?_
      refine bl_r ?_
      refine th_r ?_
      refine k_retn rfl (rs_t rfl (rs_nil)) (PH.le_trans (hBk) hB16) (⟨A16, some k, next s a, by rw [heq, drop_cons ha, findF, if_pos c16], rfl, hS16, rfl⟩)
    · skip
      refine k_skip ?_
      refine bl_n ?_
      refine th_n ?_
      refine k_region ?_
      refine n_y rfl (y_add rfl rfl (by omega)) rfl ?_
      refine n_y rfl (y_mv rfl) rfl ?_
      refine n_nil ?_
      refine th_n ?_
      exact k_again2 (k + 1, next s a, A16, B16) ⟨⟨by dsimp only; omega, by dsimp only; rw [heq, drop_cons ha, findF, if_neg (by rw [c16]; decide)], hS16, PH.le_trans hBk hB16⟩, by dsimp only; omega⟩ rfl ⟨rfl, trivial⟩ rfl
  · skip
    obtain rfl : k = l.length := by omega
    rw [List.drop_length] at heq
    refine k_exit ?_
    refine th_x ?_
    refine th_x ?_
    refine bl_s ?_
    refine th_n ?_
    refine k_seq ?_
    refine k_region ?_
    refine n_y rfl (y_as rfl) rfl ?_
    refine n_nil ?_
    refine th_n ?_
    refine k_ret ?_
    refine k_retn rfl (rs_t rfl (rs_nil)) (hBk) (⟨A, none, s, by rw [heq]; rfl, rfl, hS, rfl⟩)
theorem T_slices_DeleteFunc_due {α σ : Type} (enc : α → P3) (he : ∀ a, One3 (enc a)) (B : PH) (vv : Value) (l : List α) (f : FuncId) (fi ca : List Value) [FnC Try.prog f] (St : σ → PH → Asrt → Prop) (hSm : ∀ s B1 B2 A, B1.le B2 → St s B1 A → St s B2 A) (good : α → Prop) (hg : ∀ a ∈ l, good a) (test : σ → α → Bool) (next : σ → α → σ) (D : DelT Try.prog f fi ca enc B St good test next) (s0 : σ) (A0 : Asrt) (h0 : St s0 B A0) (hn : l.length < 1099511627776) : Tri Try.prog F_slices_DeleteFunc_due [vv, .func (.func f) fi.toArray ca.toArray] B [ow 200 3 vv l.length (l.flatMap fun a => p3C (enc a)), A0] fun v B' L' => ∃ v' l' s' A1, v = v' ∧ delAll test next l s0 = (l', s') ∧ OneC v' ∧ St s' B' A1 ∧ L' = [ow 200 3 v' l'.length (l'.flatMap fun a => p3C (enc a)), A1] := by
  refine tri_of fn_slices_DeleteFunc_due rfl nt_slices_DeleteFunc_due rfl fun W0 R => ?_
  simp only [argEnv, List.nil_append, List.cons_append]
  refine k_seq ?_
  refine k_region ?_
  refine n_y rfl (y_as rfl) rfl ?_
  refine n_nil ?_
  refine th_n ?_
  refine k_seq ?_
  refine k_region ?_
  refine k_owf (v := vv) fun ⟨va0, vc0, e10⟩ hcl0 hco0 => ?_
  haveI : OneC vv := by rw [e10]; exact ⟨rfl⟩
  refine n_y rfl (y_mv rfl) rfl ?_
  refine n_y rfl (y_mv rfl) rfl ?_
  refine n_op rfl (o_call rfl (T_slices_IndexFunc_due enc he _ vv l f fi ca St hSm good hg test next D s0 A0 h0 hn) rfl ?_)
  rintro v10 B10 L10 hB10 ⟨A10, r10, s10, hf10, rfl, hS10, rfl⟩
  try conv => arg 7; dsimp only [List.nil_append, List.cons_append]
  rcases r10 with _ | k0 <;> dsimp only
  · have hdel := findF_none hf10
    try conv => arg 7; dsimp only [List.nil_append, List.cons_append]
    refine n_y rfl (y_as rfl) rfl ?_
    refine n_nil ?_
    refine th_n ?_
    refine k_seq ?_
    refine k_seq ?_
    refine k_region ?_
    refine n_y rfl (y_mv rfl) rfl ?_
    refine n_y rfl (y_eq rfl rfl) rfl ?_
    rw [show decide ((-1 : Int) = -1) = true from rfl]
    refine n_nil ?_
    refine th_n ?_
    refine k_condt rfl ?_
    refine k_seq ?_
    refine k_region ?_
    refine n_y rfl (y_mv rfl) rfl ?_
    refine n_y rfl (y_as rfl) rfl ?_
    refine n_nil ?_
    refine th_n ?_
    refine k_ret ?_
    refine th_r ?_
    refine k_retn rfl (rs_t rfl (rs_nil)) (hB10) (⟨vv, l, s10, A10, rfl, hdel, inferInstance, hS10, rfl⟩)
  · obtain ⟨hk1, hk2, hdel⟩ := findF_some hf10
    rw [Nat.sub_zero] at hk2 hdel
    have hpl := p3_len enc l
    refine k_owopen (v := vv) (fun e1 e2 e3 => ?_) (fun qb cap sp e1 hmc hcl hsl hco hso => ?_)
    · omega
    subst e1
    try conv => arg 7; dsimp only [List.nil_append, List.cons_append]
    refine n_y rfl (y_as rfl) rfl ?_
    refine n_nil ?_
    refine th_n ?_
    refine k_seq ?_
    refine k_seq ?_
    refine k_region ?_
    refine n_y rfl (y_mv rfl) rfl ?_
    refine n_y rfl (y_eq rfl rfl) rfl ?_
    rw [decide_eq_false (show ¬ ((k0 : Int) = -1) by omega)]
    refine n_nil ?_
    refine th_n ?_
    refine k_condf rfl ?_
    refine k_skip ?_
    refine th_n ?_
    refine k_seq ?_
    refine k_seq ?_
    refine k_region ?_
    refine n_y rfl (y_mv rfl) rfl ?_
    refine n_y rfl (y_add rfl rfl (by omega)) rfl ?_
    refine n_y rfl (y_as rfl) rfl ?_
    refine n_nil ?_
    refine th_n ?_
    refine k_block ?_
    refine k_loop2 (α := Nat × Nat × List α × σ × Asrt × PH) [5, 6, 7, 16, 17, 18, 19, 20, 21, 22, 23, 24, 25, 26, 27, 28, 29, 30, 31, 32, 33, 34, 35] (fun z9 => z9.2.1 < z9.1 ∧ z9.1 ≤ l.length ∧ z9.2.2.1.length = l.length ∧ (z9.2.2.1).drop z9.1 = l.drop z9.1 ∧ delAll test next l s0 = ((z9.2.2.1).take z9.2.1 ++ (delAll test next (l.drop z9.1) z9.2.2.2.1).1, (delAll test next (l.drop z9.1) z9.2.2.2.1).2) ∧ St z9.2.2.2.1 z9.2.2.2.2.2 z9.2.2.2.2.1 ∧ B10.le z9.2.2.2.2.2) (fun z9 => [(6, .int .i64 (z9.1 : Int)), (5, .int .i64 (z9.2.1 : Int))]) (fun z9 => z9.2.2.2.2.2) (fun z9 => [bk qb 200 [.row (l.length * 3) ((z9.2.2.1).flatMap fun a => p3C (enc a)), .row ((cap - l.length) * 3) sp], z9.2.2.2.2.1]) (fun z9 => l.length - z9.1) (k0 + 1, k0, l, s10, A10, B10) ⟨Nat.lt_succ_self _, hk2, rfl, rfl, hdel, hS10, PH.le_refl _⟩ rfl ⟨rfl, rfl, trivial⟩ [bk qb 200 [.row (l.length * 3) (l.flatMap fun a => p3C (enc a)), .row ((cap - l.length) * 3) sp], A10] rfl ?_
    rintro ⟨j, i, c, s, A, Bk⟩ ⟨hij, hj, hcl2, hdr, heq, hS, hBk⟩
    dsimp only at hij hj hcl2 hdr heq hS hBk
    have hpc := p3_len enc c
    try conv => arg 7; dsimp only [List.nil_append, List.cons_append]
    try conv => arg 6; dsimp only
    try conv => arg 4; dsimp only [List.nil_append, List.cons_append]
    refine k_seq ?_
    refine k_seq ?_
    refine k_region ?_
    refine n_y rfl (y_mv rfl) rfl ?_
    refine n_y rfl (y_mv rfl) rfl ?_
    refine n_y rfl (y_len rfl) rfl ?_
    refine n_y rfl (y_lt rfl rfl) rfl ?_
    refine n_nil ?_
    refine th_n ?_
    refine k_cond rfl (fun c19 => ?_) (fun c19 => ?_)
    · skip
      have hj' : j < l.length := by omega
      obtain ⟨a, ha⟩ : ∃ a, l[j]? = some a := ⟨_, List.getElem?_eq_getElem hj'⟩
      have hca : c[j]? = some a := by
        have h1 := congrArg List.head? hdr
        rwa [List.head?_drop, List.head?_drop, ha] at h1
      haveI := (he a).a
      haveI := (he a).b
      haveI := (he a).c
      refine k_skip ?_
      refine th_n ?_
      refine k_seq ?_
      refine k_block ?_
      refine k_seq ?_
      refine k_region ?_
      refine n_y rfl (y_mv rfl) rfl ?_
      refine n_y rfl (y_mv rfl) rfl ?_
      refine n_y rfl (y_ia rfl rfl j rfl (by omega)) rfl ?_
      refine n_y rfl (y_ldra (o0 := 0) (d := j * 3) (x' := p3S (enc a)) rfl rfl (by omega) (by omega) (by rw [p3_sub enc hca]; rfl)) rfl ?_
      refine n_op rfl (o_al rfl fun b7 => ?_)
      refine n_op rfl (o_stv rfl rfl rfl rfl ?_)
      refine n_nil ?_
      refine th_n ?_
      refine k_seq ?_
      refine k_region ?_
      refine n_y rfl (y_mv rfl) rfl ?_
      refine n_y rfl (y_lda rfl rfl) rfl ?_
      refine n_op rfl (o_callv rfl rfl rfl (D s a Bk A (PH.le_trans hB10 hBk) hS (hg a (List.mem_of_getElem? ha))) rfl ?_)
      rintro v28 B28 L28 hB28 ⟨rfl, A28, rfl, hS28⟩
      try conv => arg 7; dsimp only [List.nil_append, List.cons_append]
      refine n_y rfl (y_notb rfl) rfl ?_
      refine n_nil ?_
      refine th_n ?_
      refine k_condb rfl (fun c29 => ?_) (fun c29 => ?_)
      · skip
        refine k_seq ?_
        refine k_region ?_
        refine n_y rfl (y_mv rfl) rfl ?_
        refine n_y rfl (y_mv rfl) rfl ?_
        refine n_y rfl (y_lda rfl rfl) rfl ?_
        refine n_y rfl (y_ia rfl rfl i rfl (by omega)) rfl ?_
        refine n_op rfl (o_str (o0 := 0) (m' := 3) (d := i * 3) rfl rfl rfl (by omega) rfl (by omega) rfl ?_)
        rw [show (c.flatMap fun a => p3C (enc a)).take (i * 3) ++ flat (p3S (enc a)) ++ (c.flatMap fun a => p3C (enc a)).drop (i * 3 + 3) = ((c.set i a).flatMap fun a => p3C (enc a)) from p3_set enc c i a (by omega)]
        refine n_nil ?_
        refine th_n ?_
        refine k_region ?_
        refine n_y rfl (y_mv rfl) rfl ?_
        refine n_y rfl (y_add rfl rfl (by omega)) rfl ?_
        refine n_y rfl (y_as rfl) rfl ?_
        refine n_nil ?_
        refine bl_n ?_
        refine th_n ?_
        refine k_region ?_
        refine n_y rfl (y_mv rfl) rfl ?_
        refine n_y rfl (y_add rfl rfl (by omega)) rfl ?_
        refine n_y rfl (y_as rfl) rfl ?_
        refine n_nil ?_
        refine th_n ?_
        exact k_again2 (j + 1, i + 1, c.set i a, next s a, A28, B28) ⟨⟨by dsimp only; omega, by dsimp only; omega, by simp [hcl2], by dsimp only; rw [List.drop_set_of_lt (by omega)]; exact drop_step hdr, del_keep heq ha (by omega) (by simpa using c29), hS28, PH.le_trans hBk hB28⟩, by dsimp only; omega⟩ rfl ⟨rfl, rfl, trivial⟩ rfl
      · skip
        refine k_skip ?_
        refine bl_n ?_
        refine th_n ?_
        refine k_region ?_
        refine n_y rfl (y_mv rfl) rfl ?_
        refine n_y rfl (y_add rfl rfl (by omega)) rfl ?_
        refine n_y rfl (y_as rfl) rfl ?_
        refine n_nil ?_
        refine th_n ?_
        exact k_again2 (j + 1, i, c, next s a, A28, B28) ⟨⟨by dsimp only; omega, by dsimp only; omega, hcl2, drop_step hdr, del_drop heq ha (by simpa using c29), hS28, PH.le_trans hBk hB28⟩, by dsimp only; omega⟩ rfl ⟨rfl, rfl, trivial⟩ rfl
    · skip
      obtain rfl : j = l.length := by omega
      rw [List.drop_length] at heq
      simp only [delAll, List.append_nil] at heq
      refine k_exit ?_
      refine th_x ?_
      refine th_x ?_
      refine bl_s ?_
      refine th_n ?_
      refine k_seq ?_
      refine k_region ?_
      refine n_y rfl (y_mv rfl) rfl ?_
      refine n_y rfl (y_mv rfl) rfl ?_
      refine n_y rfl (y_sll rfl rfl (i := i) (a := ⟨qb, 0 + i * 3, none⟩) rfl (by omega) (if_neg (by omega))) rfl ?_
      refine n_op rfl (o_clr (sz := 3) rfl rfl (by omega) fun xs' hxl hxt => ?_)
      refine n_nil ?_
      refine th_n ?_
      refine k_seq ?_
      refine k_region ?_
      refine n_y rfl (y_mv rfl) rfl ?_
      refine n_y rfl (y_mv rfl) rfl ?_
      refine n_y rfl (y_slh rfl rfl (j := i) rfl (by omega)) rfl ?_
      refine n_y rfl (y_as rfl) rfl ?_
      refine n_nil ?_
      refine th_n ?_
      refine k_ret ?_
      rw [Nat.zero_add, p3_take] at hxt
      have hti : (c.take i).length = i := by rw [List.length_take]; omega
      refine k_owshut qb i cap 3 ((c.take i).flatMap fun a => p3C (enc a)) (xs'.drop (i * 3) ++ sp) (by rw [← List.append_assoc, ← hxt, List.take_append_drop]) (by rw [p3_len, hti]) (by rw [← List.append_assoc, ← hxt, List.take_append_drop, List.length_append, hxl, hsl]; omega) (by omega) ?_
      refine k_retn rfl (rs_t rfl (rs_nil)) (PH.le_trans (hB10) hBk) (⟨.slice (some ⟨qb, 0, none⟩) i cap, c.take i, s, A, rfl, heq, ⟨rfl⟩, hS, by rw [hti]⟩)
end Go.Proofs.Ytokekdbdnonebaa
