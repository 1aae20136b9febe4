/- pool: what waits. -/
import Derived.Test.YtokekdbdnonebaaBb
import Derived.Test.YtokekdbdnonebaaLa
import Derived.Test.YtokekdbdnonebaaMh
namespace Go.Proofs.Ytokekdbdnonebaa
open Sc Go
/-- Block b is a pool. -/
def poolA (b : Nat) (l : List PW) : Asrt := aex (fun _ : Value => True) fun v => [bk b 88 [.one v], ow 102 3 v l.length (l.flatMap fun a => p3C (pwE a))]
section
variable {P : Program} {ro : Option Nat} {Q : Exit → Act → World → Prop} {W0 : World} {n : Nat} {K : Act → World → Prop} {E : Env} {ds : List Deferred} {B : PH} {L : List Asrt}
theorem k_plO (b : Nat) (l : List PW) {R : List Asrt} [p : Pick (poolA b l) L R] (h : ∀ la lc, KGo W0 n K E ds B (bk b 88 [.one (.slice la l.length lc)] :: ow 102 3 (.slice la l.length lc) l.length (l.flatMap fun a => p3C (pwE a)) :: R)) : KGo W0 n K E ds B L :=
  k_ent p.out <| k_aex fun v _ => by
    dsimp only [List.cons_append, List.nil_append]
    refine k_owf (v := v) fun ⟨la, lc, e1⟩ _ _ => ?_
    subst e1
    exact h la lc
theorem k_plC (b : Nat) (l : List PW) (v : Value) {R : List Asrt} [pt : Part [bk b 88 [.one v], ow 102 3 v l.length (l.flatMap fun a => p3C (pwE a))] L R] (h : KGo W0 n K E ds B (poolA b l :: R)) : KGo W0 n K E ds B L :=
  k_ent pt.out (k_shut (M := fun v : Value => [bk b 88 [.one v], ow 102 3 v l.length (l.flatMap fun a => p3C (pwE a))]) v trivial h)
theorem k_plC0 (b : Nat) {R : List Asrt} [pt : Part [bk b 88 [.one (.slice none 0 0)], ow 102 3 (.slice none 0 0) 0 []] L R] (h : KGo W0 n K E ds B (poolA b [] :: R)) : KGo W0 n K E ds B L :=
  k_ent pt.out (k_shut (M := fun v : Value => [bk b 88 [.one v], ow 102 3 v ([] : List PW).length (([] : List PW).flatMap fun a => p3C (pwE a))]) (.slice none 0 0) trivial h)
end

theorem T_pool_New (B : PH) : Tri Try.prog F_pool_New [] B [] fun v B' L' => ∃ b, v = .pointer (some ⟨b, 0, none⟩) ∧ B' = B ∧ L' = [poolA b []] := by
  refine tri_of fn_pool_New rfl nt_pool_New rfl fun W0 R => ?_
  simp only [argEnv, List.nil_append, List.cons_append]
  refine k_seq ?_
  refine k_region ?_
  refine n_y rfl (y_as rfl) rfl ?_
  refine n_nil ?_
  refine th_n ?_
  refine k_seq ?_
  refine k_region ?_
  refine n_y rfl (y_bd rfl rfl) rfl ?_
  refine n_op rfl (o_bx rfl rfl fun b2 => ?_)
  refine k_ownil 102 3 ?_
  refine k_plC0 b2 ?_
  refine n_y rfl (y_as rfl) rfl ?_
  refine n_nil ?_
  refine th_n ?_
  refine k_ret ?_
  refine k_retn rfl (rs_t rfl (rs_nil)) (PH.le_refl _) (⟨b2, rfl, rfl, rfl⟩)
theorem T_pool_Pool_Len (B : PH) (pb : Nat) (l : List PW) : Tri Try.prog F_pool_Pool_Len [.pointer (some ⟨pb, 0, none⟩)] B [poolA pb l] fun v B' L' => v = .int .i64 (l.length : Int) ∧ B' = B ∧ L' = [poolA pb l] := by
  refine tri_of fn_pool_Pool_Len rfl nt_pool_Pool_Len rfl fun W0 R => ?_
  simp only [argEnv, List.nil_append, List.cons_append]
  refine k_seq ?_
  refine k_region ?_
  refine n_y rfl (y_as rfl) rfl ?_
  refine n_nil ?_
  refine th_n ?_
  refine k_seq ?_
  refine k_region ?_
  refine k_plO pb l fun la lc => ?_
  refine n_y rfl (y_mv rfl) rfl ?_
  refine n_y rfl (y_nil rfl) rfl ?_
  refine n_y rfl (y_fa rfl) rfl ?_
  refine n_y rfl (y_ld rfl rfl) rfl ?_
  refine n_y rfl (y_len rfl) rfl ?_
  refine n_y rfl (y_as rfl) rfl ?_
  refine n_nil ?_
  refine th_n ?_
  refine k_ret ?_
  refine k_plC pb l (.slice la l.length lc) ?_
  refine k_retn rfl (rs_t rfl (rs_nil)) (PH.le_refl _) (⟨rfl, rfl, rfl⟩)
theorem T_slices_Clone_byte (B : PH) (bv : Value) (b : List UInt8) (hb : IsB B bv b) (hn : b.length < 1099511627776) : Tri Try.prog F_slices_Clone_byte [bv] B [] fun v B' L' => IsB B' v b ∧ L' = [] := by
  haveI := hb.one
  obtain ⟨ba, bc, rfl⟩ := hb.form
  refine tri_of fn_slices_Clone_byte rfl nt_slices_Clone_byte rfl fun W0 R => ?_
  simp only [argEnv, List.nil_append, List.cons_append]
  refine k_seq ?_
  refine k_region ?_
  refine n_y rfl (y_as rfl) rfl ?_
  refine n_nil ?_
  refine th_n ?_
  refine k_seq ?_
  refine k_seq ?_
  refine k_region ?_
  refine n_y rfl (y_mv rfl) rfl ?_
  refine n_y rfl (y_eqnil rfl rfl) rfl ?_
  refine n_nil ?_
  refine th_n ?_
  refine k_condb rfl (fun c4 => ?_) (fun c4 => ?_)
  · skip
    refine k_seq ?_
    refine k_region ?_
    refine n_y rfl (y_as rfl) rfl ?_
    refine n_nil ?_
    refine th_n ?_
    refine k_ret ?_
    refine th_r ?_
    refine k_retn rfl (rs_t rfl (rs_nil)) (PH.le_refl _) (⟨by
      have : b = [] := by
        rcases b with _ | ⟨x, b⟩
        · rfl
        · obtain ⟨q1, q2, q3, h1, h2⟩ := hb.row (by simp)
          simp only [Value.slice.injEq] at h1
          rw [h1.1] at c4; cases c4
      subst this; exact isB_nil _, rfl⟩)
  · skip
    refine k_skip ?_
    refine th_n ?_
    refine k_seq ?_
    refine k_region ?_
    refine n_op rfl (o_bs rfl rfl rfl rfl rfl rfl fun b5 => ?_)
    refine k_bkow (sz := 1) b5 0 rfl ?_
    refine n_y rfl (y_mv rfl) rfl ?_
    refine n_op rfl (o_app rfl rfl rfl hb.src rfl rfl (by omega) rfl fun v7 hv7 => ?_)
    refine k_frzw (v := v7) fun B7 hB7 hd7 => ?_
    replace hd7 : IsB B7 v7 b := by simpa [IsB, flat] using hd7
    replace hb := hb.mono hB7
    refine n_y rfl (y_as rfl) rfl ?_
    refine n_nil ?_
    refine th_n ?_
    refine k_ret ?_
    refine k_retn rfl (rs_t rfl (rs_nil)) (hB7) (⟨hd7, rfl⟩)
theorem T_pool_Pool_all (B : PH) (pb : Nat) (who : Int) : Tri Try.prog F_pool_Pool_all [.pointer (some ⟨pb, 0, none⟩), .int .i64 who] B [] fun v B' L' => ∃ b2 b3, v = .func (.func F_pool_Pool_all_1) #[] #[.pointer (some ⟨b2, 0, none⟩), .pointer (some ⟨b3, 0, none⟩)] ∧ pcell B' b2 0 (.pointer (some ⟨pb, 0, none⟩)) ∧ pcell B' b3 0 (.int .i64 who) ∧ L' = [] := by
  refine tri_of fn_pool_Pool_all rfl nt_pool_Pool_all rfl fun W0 R => ?_
  simp only [argEnv, List.nil_append, List.cons_append]
  refine k_seq ?_
  refine k_region ?_
  refine n_op rfl (o_bx rfl rfl fun b2 => ?_)
  refine k_frz b2 fun B2 hB2 hr2 => ?_
  refine n_op rfl (o_bx rfl rfl fun b3 => ?_)
  refine k_frz b3 fun B3 hB3 hr3 => ?_
  replace hr2 := hr2.mono hB3
  refine n_y rfl (y_as rfl) rfl ?_
  refine n_nil ?_
  refine th_n ?_
  refine k_seq ?_
  refine k_region ?_
  refine n_y rfl (y_mf rfl rfl) rfl ?_
  refine n_y rfl (y_as rfl) rfl ?_
  refine n_nil ?_
  refine th_n ?_
  refine k_ret ?_
  refine k_retn rfl (rs_t rfl (rs_nil)) (PH.le_trans (hB2) hB3) (⟨b2, b3, rfl, hr2.cell (i := 0) rfl, hr3.cell (i := 0) rfl, rfl⟩)
theorem T_pool_Pool_First (B : PH) (pb : Nat) (most : Int) : Tri Try.prog F_pool_Pool_First [.pointer (some ⟨pb, 0, none⟩), .int .i64 most] B [] fun v B' L' => ∃ b2 b3, v = .func (.func F_pool_Pool_First_1) #[] #[.pointer (some ⟨b2, 0, none⟩), .pointer (some ⟨b3, 0, none⟩)] ∧ pcell B' b2 0 (.pointer (some ⟨pb, 0, none⟩)) ∧ pcell B' b3 0 (.int .i64 most) ∧ L' = [] := by
  refine tri_of fn_pool_Pool_First rfl nt_pool_Pool_First rfl fun W0 R => ?_
  simp only [argEnv, List.nil_append, List.cons_append]
  refine k_seq ?_
  refine k_region ?_
  refine n_op rfl (o_bx rfl rfl fun b2 => ?_)
  refine k_frz b2 fun B2 hB2 hr2 => ?_
  refine n_op rfl (o_bx rfl rfl fun b3 => ?_)
  refine k_frz b3 fun B3 hB3 hr3 => ?_
  replace hr2 := hr2.mono hB3
  refine n_y rfl (y_as rfl) rfl ?_
  refine n_nil ?_
  refine th_n ?_
  refine k_seq ?_
  refine k_region ?_
  refine n_y rfl (y_mf rfl rfl) rfl ?_
  refine n_y rfl (y_as rfl) rfl ?_
  refine n_nil ?_
  refine th_n ?_
  refine k_ret ?_
  refine k_retn rfl (rs_t rfl (rs_nil)) (PH.le_trans (hB2) hB3) (⟨b2, b3, rfl, hr2.cell (i := 0) rfl, hr3.cell (i := 0) rfl, rfl⟩)
theorem IA_pool_all (B : PH) (b2 b3 pb : Nat) (who : Int) (l : List PW) (h2 : pcell B b2 0 (.pointer (some ⟨pb, 0, none⟩))) (h3 : pcell B b3 0 (.int .i64 who)) (hn : l.length < 1099511627776) :
    IterA Try.prog F_pool_Pool_all_1 [.pointer (some ⟨b2, 0, none⟩), .pointer (some ⟨b3, 0, none⟩)] B [poolA pb l] (mine l who).length fun i _ vs => ∃ a, (mine l who)[i]? = some a ∧ vs = [agg (p3S (pwE a))] := by
  intro l0 J Z B hB hJm hZm hy A0 hJ0
  replace h2 := h2.mono hB
  replace h3 := h3.mono hB
  refine tri_of fn_pool_Pool_all_1 rfl nt_pool_Pool_all_1 rfl fun W0 R => ?_
  simp only [argEnv, List.nil_append, List.cons_append]
  refine k_seq ?_
  refine k_region ?_
  refine k_plO pb l fun la lc => ?_
  refine n_y rfl (y_ldp rfl h2) rfl ?_
  refine n_y rfl (y_nil rfl) rfl ?_
  refine n_y rfl (y_fa rfl) rfl ?_
  refine n_y rfl (y_ld rfl rfl) rfl ?_
  refine n_y rfl (y_len rfl) rfl ?_
  refine n_y rfl (y_mv rfl) rfl ?_
  refine n_nil ?_
  refine th_n ?_
  refine k_block ?_
  refine k_loop2 (α := Nat × PH × Asrt) [5, 11, 12, 13, 14, 15, 16, 17, 18, 19, 20, 21, 22, 23, 24, 25] (fun z9 => z9.1 ≤ l.length ∧ B.le z9.2.1 ∧ J (mine (l.take z9.1) who).length z9.2.1 z9.2.2) (fun z9 => [(11, .int .i64 (z9.1 : Int))]) (fun z9 => z9.2.1) (fun z9 => [z9.2.2]) (fun z9 => l.length - z9.1) (0, B, A0) ⟨Nat.zero_le _, PH.le_refl _, hJ0⟩ rfl ⟨rfl, trivial⟩ [A0] rfl ?_
  rintro ⟨k, Bk, A⟩ ⟨hk, hBk, hJk⟩
  dsimp only at hk hBk hJk
  try conv => arg 7; dsimp only [List.nil_append, List.cons_append]
  try conv => arg 6; dsimp only
  try conv => arg 4; dsimp only [List.nil_append, List.cons_append]
  replace h2 := h2.mono hBk
  replace h3 := h3.mono hBk
  refine k_seq ?_
  refine k_region ?_
  refine n_y rfl (y_lt rfl rfl) rfl ?_
  refine n_nil ?_
  refine th_n ?_
  refine k_seq ?_
  refine k_cond rfl (fun c12 => ?_) (fun c12 => ?_)
  · skip
    have hk' : k < l.length := by omega
    obtain ⟨a, ha⟩ : ∃ a, l[k]? = some a := ⟨_, List.getElem?_eq_getElem hk'⟩
    have hpl := p3_len pwE l
    haveI := (pwE_one a).a
    haveI := (pwE_one a).b
    haveI := (pwE_one a).c
    refine k_owform (v := .slice la l.length lc) (by omega) fun qb cap hq hmc => ?_
    obtain ⟨rfl, rfl⟩ : la = some ⟨qb, 0, none⟩ ∧ lc = cap := by simpa using hq
    refine k_skip ?_
    refine th_n ?_
    refine k_seq ?_
    refine k_block ?_
    refine k_seq ?_
    refine k_region ?_
    refine n_y rfl (y_ia rfl rfl k rfl (by omega)) rfl ?_
    refine n_y rfl (y_ldwa (m := l.length) (cap := lc) (x' := p3S (pwE a)) rfl (by omega) (by rw [Nat.zero_add, p3_sub pwE ha]; rfl)) rfl ?_
    refine n_op rfl (o_al rfl fun b5 => ?_)
    refine n_op rfl (o_stv rfl rfl rfl rfl ?_)
    refine n_nil ?_
    refine th_n ?_
    refine k_seq ?_
    refine k_region ?_
    refine n_y rfl (y_fa rfl) rfl ?_
    refine n_y rfl (y_ld rfl rfl) rfl ?_
    refine n_y rfl (y_ldp rfl h3) rfl ?_
    refine n_y rfl (y_eq rfl rfl) rfl ?_
    refine k_dec (fun c18 => ?_) (fun c18 => ?_)
    · skip
      refine n_y rfl (y_mv rfl) rfl ?_
      refine n_y rfl (y_mv rfl) rfl ?_
      refine n_y rfl (y_lda rfl rfl) rfl ?_
      refine n_op rfl (o_yield rfl rfl (hy (mine (l.take k) who).length _ Bk A (filter_le ha (by simpa using c18)) hBk ⟨a, filter_get ha (by simpa using c18), rfl⟩ hJk) rfl ?_)
      rintro ok22 B22 L22 hB22 ⟨A22, rfl, hok22⟩
      try conv => arg 7; dsimp only [List.nil_append, List.cons_append]
      replace h2 := h2.mono hB22
      replace h3 := h3.mono hB22
      rcases hok22 with ⟨rfl, hJ22⟩ | ⟨rfl, hZ22⟩
      · skip
        refine n_y rfl (y_notb rfl) rfl ?_
        refine n_y rfl (y_pt rfl rfl) rfl ?_
        refine n_nil ?_
        refine th_n ?_
        refine k_condf rfl ?_
        refine k_skip ?_
        refine bl_n ?_
        refine th_n ?_
        refine k_region ?_
        refine n_y rfl (y_add rfl rfl (by omega)) rfl ?_
        refine n_y rfl (y_mv rfl) rfl ?_
        refine n_nil ?_
        refine th_n ?_
        exact k_again2 (k + 1, B22, A22) ⟨⟨by dsimp only; omega, PH.le_trans hBk hB22, by dsimp only; rw [mine, filter_next ha, if_pos (by simpa using c18), List.length_append]; exact hJ22⟩, by dsimp only; omega⟩ rfl ⟨rfl, trivial⟩ rfl
      · skip
        refine n_y rfl (y_notb rfl) rfl ?_
        refine n_y rfl (y_pt rfl rfl) rfl ?_
        refine n_nil ?_
        refine th_n ?_
        refine k_condt rfl ?_
        refine k_ret ?_
        refine bl_r ?_
        refine th_r ?_
        refine th_r ?_
        refine bl_r ?_
        refine k_plC pb l (.slice (some ⟨qb, 0, none⟩) l.length lc) ?_
        refine k_retn rfl (rs_nil) (PH.le_trans (hBk) hB22) (⟨A22, rfl, .inr hZ22⟩)
    · skip
      refine n_y rfl (y_mv rfl) rfl ?_
      refine n_no rfl rfl ?_
      refine n_no rfl rfl ?_
      refine n_no rfl rfl ?_
      refine n_no rfl rfl ?_
      refine n_y rfl (y_pf rfl rfl) rfl ?_
      refine n_nil ?_
      refine th_n ?_
      refine k_condf rfl ?_
      refine k_skip ?_
      refine bl_n ?_
      refine th_n ?_
      refine k_region ?_
      refine n_y rfl (y_add rfl rfl (by omega)) rfl ?_
      refine n_y rfl (y_mv rfl) rfl ?_
      refine n_nil ?_
      refine th_n ?_
      exact k_again2 (k + 1, Bk, A) ⟨⟨by dsimp only; omega, hBk, by dsimp only; rw [mine, filter_next ha, if_neg (by simpa using c18), List.append_nil]; exact hJk⟩, by dsimp only; omega⟩ rfl ⟨rfl, trivial⟩ rfl
  · skip
    obtain rfl : k = l.length := by omega
    rw [List.take_length] at hJk
    refine k_exit ?_
    refine th_x ?_
    refine th_x ?_
    refine bl_s ?_
    refine k_retf ?_
    refine k_plC pb l (.slice la l.length lc) ?_
    refine k_retn rfl (rs_nil) (hBk) (⟨A, rfl, .inl hJk⟩)
theorem IA_pool_First (B : PH) (b2 b3 pb : Nat) (most : Int) (l : List PW) (h2 : pcell B b2 0 (.pointer (some ⟨pb, 0, none⟩))) (h3 : pcell B b3 0 (.int .i64 most)) (hl : PoolOk B l) (hn : l.length < 1099511627776) (hx : ∀ a ∈ l, a.bytes.length < 1099511627776) :
    IterA Try.prog F_pool_Pool_First_1 [.pointer (some ⟨b2, 0, none⟩), .pointer (some ⟨b3, 0, none⟩)] B [poolA pb l] (l.take most.toNat).length fun i B vs => ∃ a xv, (l.take most.toNat)[i]? = some a ∧ vs = [xv] ∧ IsB B xv a.bytes := by
  intro l0 J Z B hB hJm hZm hy A0 hJ0
  replace h2 := h2.mono hB
  replace h3 := h3.mono hB
  replace hl := hl.mono hB
  rw [List.length_take] at hy ⊢
  refine tri_of fn_pool_Pool_First_1 rfl nt_pool_Pool_First_1 rfl fun W0 R => ?_
  simp only [argEnv, List.nil_append, List.cons_append]
  refine k_seq ?_
  refine k_region ?_
  refine k_plO pb l fun la lc => ?_
  refine n_y rfl (y_ldp rfl h2) rfl ?_
  refine n_y rfl (y_nil rfl) rfl ?_
  refine n_y rfl (y_fa rfl) rfl ?_
  refine n_y rfl (y_ld rfl rfl) rfl ?_
  refine n_y rfl (y_len rfl) rfl ?_
  refine n_y rfl (y_mv rfl) rfl ?_
  refine n_nil ?_
  refine th_n ?_
  refine k_block ?_
  refine k_loop2 (α := Nat × PH × Asrt) [4, 5, 11, 12, 13, 14, 15, 16, 17, 18, 19, 20, 21, 22, 23, 24, 25, 26, 27] (fun z9 => z9.1 ≤ l.length ∧ z9.1 ≤ most.toNat ∧ B.le z9.2.1 ∧ J z9.1 z9.2.1 z9.2.2) (fun z9 => [(11, .int .i64 (z9.1 : Int))]) (fun z9 => z9.2.1) (fun z9 => [z9.2.2]) (fun z9 => l.length - z9.1) (0, B, A0) ⟨Nat.zero_le _, Nat.zero_le _, PH.le_refl _, hJ0⟩ rfl ⟨rfl, trivial⟩ [A0] rfl ?_
  rintro ⟨k, Bk, A⟩ ⟨hk, hkm, hBk, hJk⟩
  dsimp only at hk hkm hBk hJk
  try conv => arg 7; dsimp only [List.nil_append, List.cons_append]
  try conv => arg 6; dsimp only
  try conv => arg 4; dsimp only [List.nil_append, List.cons_append]
  replace h2 := h2.mono hBk
  replace h3 := h3.mono hBk
  replace hl := hl.mono hBk
  refine k_seq ?_
  refine k_region ?_
  refine n_y rfl (y_lt rfl rfl) rfl ?_
  refine n_nil ?_
  refine th_n ?_
  refine k_seq ?_
  refine k_cond rfl (fun c12 => ?_) (fun c12 => ?_)
  · skip
    have hk' : k < l.length := by omega
    obtain ⟨a, ha⟩ : ∃ a, l[k]? = some a := ⟨_, List.getElem?_eq_getElem hk'⟩
    have hpl := p3_len pwE l
    haveI := (pwE_one a).a
    haveI := (pwE_one a).b
    haveI := (pwE_one a).c
    refine k_owform (v := .slice la l.length lc) (by omega) fun qb cap hq hmc => ?_
    obtain ⟨rfl, rfl⟩ : la = some ⟨qb, 0, none⟩ ∧ lc = cap := by simpa using hq
    have hab := hl a (List.mem_of_getElem? ha)
    have hxa := hx a (List.mem_of_getElem? ha)
    refine k_skip ?_
    refine th_n ?_
    refine k_seq ?_
    refine k_block ?_
    refine k_seq ?_
    refine k_region ?_
    refine n_y rfl (y_mv rfl) rfl ?_
    refine n_y rfl (y_ia rfl rfl k rfl (by omega)) rfl ?_
    refine n_y rfl (y_ldwa (m := l.length) (cap := lc) (x' := p3S (pwE a)) rfl (by omega) (by rw [Nat.zero_add, p3_sub pwE ha]; rfl)) rfl ?_
    refine n_op rfl (o_al rfl fun b5 => ?_)
    refine n_y rfl (y_as rfl) rfl ?_
    refine n_op rfl (o_stv rfl rfl rfl rfl ?_)
    refine n_nil ?_
    refine th_n ?_
    refine k_seq ?_
    refine k_region ?_
    refine n_y rfl (y_mv rfl) rfl ?_
    refine n_y rfl (y_ldp rfl h3) rfl ?_
    refine n_y rfl (y_ge rfl rfl) rfl ?_
    refine k_dec (fun c18 => ?_) (fun c18 => ?_)
    · skip
      refine n_y rfl (y_mv rfl) rfl ?_
      refine n_no rfl rfl ?_
      refine n_no rfl rfl ?_
      refine n_no rfl rfl ?_
      refine n_no rfl rfl ?_
      refine n_no rfl rfl ?_
      refine n_no rfl rfl ?_
      refine n_y rfl (y_pt rfl rfl) rfl ?_
      refine n_nil ?_
      refine th_n ?_
      refine k_condt rfl ?_
      refine k_ret ?_
      refine bl_r ?_
      refine th_r ?_
      refine th_r ?_
      refine bl_r ?_
      refine k_plC pb l (.slice (some ⟨qb, 0, none⟩) l.length lc) ?_
      refine k_retn rfl (rs_nil) (hBk) (⟨A, rfl, .inl (by rw [show min most.toNat l.length = k by omega]; exact hJk)⟩)
    · skip
      refine n_y rfl (y_mv rfl) rfl ?_
      refine n_y rfl (y_mv rfl) rfl ?_
      refine n_y rfl (y_fa rfl) rfl ?_
      refine n_y rfl (y_ld rfl rfl) rfl ?_
      refine n_op rfl (o_call rfl (T_slices_Clone_byte _ a.bv a.bytes hab hxa) rfl ?_)
      rintro v23 B23 L23 hB23 ⟨hv23, rfl⟩
      try conv => arg 7; dsimp only [List.nil_append, List.cons_append]
      replace h2 := h2.mono hB23
      replace h3 := h3.mono hB23
      replace hl := hl.mono hB23
      replace hab := hab.mono hB23
      haveI := hv23.one
      refine n_op rfl (o_yield rfl rfl (hy k _ B23 A (by omega) (PH.le_trans hBk hB23) ⟨a, _, by rw [List.getElem?_take_of_lt (by omega)]; exact ha, rfl, hv23⟩ (hJm _ _ _ _ hB23 hJk)) rfl ?_)
      rintro ok24 B24 L24 hB24 ⟨A24, rfl, hok24⟩
      try conv => arg 7; dsimp only [List.nil_append, List.cons_append]
      replace h2 := h2.mono hB24
      replace h3 := h3.mono hB24
      replace hl := hl.mono hB24
      replace hab := hab.mono hB24
      replace hv23 := hv23.mono hB24
      rcases hok24 with ⟨rfl, hJ24⟩ | ⟨rfl, hZ24⟩
      · skip
        refine n_y rfl (y_notb rfl) rfl ?_
        refine n_y rfl (y_pf rfl rfl) rfl ?_
        refine n_nil ?_
        refine th_n ?_
        refine k_condf rfl ?_
        refine k_skip ?_
        refine bl_n ?_
        refine th_n ?_
        refine k_region ?_
        refine n_y rfl (y_add rfl rfl (by omega)) rfl ?_
        refine n_y rfl (y_mv rfl) rfl ?_
        refine n_nil ?_
        refine th_n ?_
        exact k_again2 (k + 1, B24, A24) ⟨⟨by dsimp only; omega, by dsimp only; omega, PH.le_trans (PH.le_trans hBk hB23) hB24, hJ24⟩, by dsimp only; omega⟩ rfl ⟨rfl, trivial⟩ rfl
      · skip
        refine n_y rfl (y_notb rfl) rfl ?_
        refine n_y rfl (y_pf rfl rfl) rfl ?_
        refine n_nil ?_
        refine th_n ?_
        refine k_condt rfl ?_
        refine k_ret ?_
        refine bl_r ?_
        refine th_r ?_
        refine th_r ?_
        refine bl_r ?_
        refine k_plC pb l (.slice (some ⟨qb, 0, none⟩) l.length lc) ?_
        refine k_retn rfl (rs_nil) (PH.le_trans (PH.le_trans (hBk) hB23) hB24) (⟨A24, rfl, .inr hZ24⟩)
  · skip
    refine k_exit ?_
    refine th_x ?_
    refine th_x ?_
    refine bl_s ?_
    refine k_retf ?_
    refine k_plC pb l (.slice la l.length lc) ?_
    refine k_retn rfl (rs_nil) (hBk) (⟨A, rfl, .inl (by rw [show min most.toNat l.length = k by omega]; exact hJk)⟩)
theorem T_pool_Pool_Put (B : PH) (pb : Nat) (l : List PW) (bv : Value) (b : List UInt8) (hl : PoolOk B l) (hln : l.length ≤ 24) (hb : IsB B bv b) (hn : b.length < 1099511627776) : Tri Try.prog F_pool_Pool_Put [.pointer (some ⟨pb, 0, none⟩), bv] B [poolA pb l] fun v B' L' => ∃ l', v = .int .i64 (putE (l.map PW.abs) b).1 ∧ l'.map PW.abs = (putE (l.map PW.abs) b).2 ∧ PoolOk B' l' ∧ L' = [poolA pb l'] := by
  haveI := hb.one
  refine tri_of fn_pool_Pool_Put rfl nt_pool_Pool_Put rfl fun W0 R => ?_
  simp only [argEnv, List.nil_append, List.cons_append]
  refine k_seq ?_
  refine k_region ?_
  refine n_op rfl (o_al rfl fun b4 => ?_)
  refine n_nil ?_
  refine th_n ?_
  refine k_seq ?_
  refine k_region ?_
  refine n_y rfl (y_mv rfl) rfl ?_
  refine n_op rfl (o_call rfl (T_book_Check _ bv b hb hn) rfl ?_)
  rintro v11 B11 L11 hB11 ⟨m11, dv11, iv11, lv11, e11, rfl, hm11, rfl, hc11⟩
  try conv => arg 7; dsimp only [List.nil_append, List.cons_append]
  replace hl := hl.mono hB11
  replace hb := hb.mono hB11
  haveI := hm11.data.one
  haveI := hm11.ids.one
  haveI := hm11.list.one
  refine n_y rfl (y_mv rfl) rfl ?_
  refine n_y rfl (y_ex0 rfl) rfl ?_
  refine n_y rfl (y_ex1 rfl) rfl ?_
  refine n_op rfl (o_al rfl fun b5 => ?_)
  refine n_op rfl (o_stv rfl rfl rfl rfl ?_)
  refine n_y rfl (y_as rfl) rfl ?_
  refine n_nil ?_
  refine th_n ?_
  refine k_seq ?_
  refine k_seq ?_
  refine k_region ?_
  refine n_y rfl (y_mv rfl) rfl ?_
  refine n_y rfl (y_ne rfl rfl) rfl ?_
  refine n_nil ?_
  refine th_n ?_
  refine k_cond rfl (fun c15 => ?_) (fun c15 => ?_)
  · skip
    have hce : checkE b = .error e11 := by
      rcases hc11 with h | h
      · exact h.2.1
      · exact absurd h.1 c15
    refine k_seq ?_
    refine k_region ?_
    refine n_y rfl (y_mv rfl) rfl ?_
    refine n_op rfl (o_stv rfl rfl rfl rfl ?_)
    refine n_nil ?_
    refine th_n ?_
    refine k_ret ?_
    refine th_r ?_
    refine k_retn rfl (rs_c (r_ld rfl rfl) (rs_nil)) (hB11) (⟨l, by rw [putE_err hce]; rfl, by rw [putE_err hce], hl, rfl⟩)
  · skip
    have hce : checkE b = .ok m11 := by
      rcases hc11 with h | h
      · exact absurd (Decidable.not_not.1 c15) h.1
      · exact h.2
    refine k_skip ?_
    refine th_n ?_
    refine k_seq ?_
    refine k_region ?_
    refine n_op rfl (o_al rfl fun b7 => ?_)
    refine n_op rfl (o_stv rfl rfl rfl rfl ?_)
    refine n_nil ?_
    refine th_n ?_
    refine k_seq ?_
    refine k_seq ?_
    refine k_region ?_
    refine n_y rfl (y_mv rfl) rfl ?_
    refine n_y rfl (y_fa rfl) rfl ?_
    refine n_y rfl (y_ld rfl rfl) rfl ?_
    refine n_op rfl (o_call rfl (T_pool_Pool_all _ pb m11.who) rfl ?_)
    rintro v20 B20 L20 hB20 ⟨b220, b320, rfl, h220, h320, rfl⟩
    try conv => arg 7; dsimp only [List.nil_append, List.cons_append]
    replace hl := hl.mono hB20
    replace hb := hb.mono hB20
    replace hm11 := hm11.mono hB20
    refine n_nil ?_
    refine th_n ?_
    refine k_block ?_
    refine k_reseg b7 [.one (.int .i64 ((0 : Nat) : Int))] rfl ?_
    refine k_range (Own := [poolA pb l]) rfl (Iter.ofA (IA_pool_all _ b220 b320 pb m11.who l h220 h320 (by omega))) rfl (fun i _ L => (∀ (j : Nat) a, j < i → (mine l m11.who)[j]? = some a → a.num ≠ m11.num) ∧ L = [bk b4 30 [.one (.int .i64 0)], bk b5 54 (mS m11 dv11 iv11 lv11), bk b7 3 [.one (.int .i64 (i : Int))]]) (fun c _ L => c = .ret ∧ (∃ a ∈ (mine l m11.who), a.num = m11.num) ∧ L = [bk b4 30 [.one (.int .i64 5)]]) (fun _ _ _ _ _ h => h) (fun _ _ _ _ _ h => h) [bk b4 30 [.one (.int .i64 0)], bk b5 54 (mS m11 dv11 iv11 lv11), bk b7 3 [.one (.int .i64 ((0 : Nat) : Int))]] ⟨fun j a h => absurd h (Nat.not_lt_zero _), rfl⟩ (by rintro i B1 vs ⟨a, h1, rfl⟩; rfl) ?_ ?_ ?_
    · intro lr i vs B1 L1 F1 F2 W0' hi hB1 hel hJ
      obtain ⟨a, haj, rfl⟩ := hel
      obtain ⟨hno, rfl⟩ := hJ
      have hmle : (mine l m11.who).length ≤ 24 := Nat.le_trans (List.length_filter_le _ _) hln
      haveI := (pwE_one a).a
      haveI := (pwE_one a).b
      haveI := (pwE_one a).c
      try conv => arg 7; dsimp only [List.nil_append, List.cons_append]
      try conv => arg 4; simp only [penv]
      replace hl := hl.mono hB1
      replace hb := hb.mono hB1
      replace hm11 := hm11.mono hB1
      replace h220 := h220.mono hB1
      replace h320 := h320.mono hB1
      refine k_region ?_
      refine n_op rfl (o_al rfl fun b8 => ?_)
      refine n_op rfl (o_stv rfl rfl rfl rfl ?_)
      refine n_nil ?_
      refine th_n ?_
      refine k_sw (F1 := F1) ?_
      refine k_block ?_
      refine k_seq ?_
      refine k_seq ?_
      refine k_region ?_
      refine n_y rfl (y_fa rfl) rfl ?_
      refine n_y rfl (y_ld rfl rfl) rfl ?_
      refine n_y rfl (y_fa rfl) rfl ?_
      refine n_y rfl (y_ld rfl rfl) rfl ?_
      refine n_y rfl (y_eq rfl rfl) rfl ?_
      refine n_nil ?_
      refine th_n ?_
      refine k_cond rfl (fun c26 => ?_) (fun c26 => ?_)
      · skip
        refine k_seq ?_
        refine k_region ?_
        refine n_op rfl (o_stv rfl rfl rfl rfl ?_)
        refine n_nil ?_
        refine th_n ?_
        refine k_ret ?_
        refine th_r ?_
        refine bl_r ?_
        exact k_rqr (PH.le_refl _) ⟨rfl, ⟨a, List.mem_of_getElem? haj, c26⟩, rfl⟩
      · skip
        refine k_skip ?_
        refine th_n ?_
        refine k_region ?_
        refine n_y rfl (y_ld rfl rfl) rfl ?_
        refine n_y rfl (y_add rfl rfl (by omega)) rfl ?_
        rw [show (i : Int) + 1 = ((i + 1 : Nat) : Int) by omega]
        refine n_op rfl (o_stv rfl rfl rfl rfl ?_)
        refine n_nil ?_
        refine bl_n ?_
        exact k_rqn (PH.le_refl _) ⟨fun j a2 hj ha2 => by
          rcases Nat.lt_or_ge j i with h | h
          · exact hno j a2 h ha2
          · obtain rfl : j = i := by omega
            rw [haj] at ha2; cases ha2; exact c26, rfl⟩
    · intro D B2 L2 hB2 hJ2
      obtain ⟨hno', rfl⟩ := hJ2
      have hno : ¬ ∃ a ∈ l.map PW.abs, a.1 = m11.who ∧ a.2.1 = m11.num := by
        rintro ⟨a, ha, h1, h2⟩
        obtain ⟨w, hw, rfl⟩ := List.mem_map.1 ha
        obtain ⟨j, hj, e⟩ := List.mem_iff_getElem.1 (show w ∈ (mine l m11.who) from List.mem_filter.2 ⟨hw, by simpa [PW.abs] using h1⟩)
        exact hno' j w hj (by rw [List.getElem?_eq_getElem hj, e]) h2
      try conv => arg 7; dsimp only [List.nil_append, List.cons_append]
      have hmle : (mine l m11.who).length ≤ 24 := Nat.le_trans (List.length_filter_le _ _) hln
      replace hl := hl.mono hB2
      replace hb := hb.mono hB2
      replace hm11 := hm11.mono hB2
      replace h220 := h220.mono hB2
      replace h320 := h320.mono hB2
      refine bl_n ?_
      refine th_n ?_
      refine k_seq ?_
      refine k_block ?_
      refine k_seq ?_
      refine k_region ?_
      refine n_y rfl (y_ld rfl rfl) rfl ?_
      refine n_y rfl (y_eq rfl rfl) rfl ?_
      refine n_y rfl (y_as rfl) rfl ?_
      refine n_nil ?_
      refine th_n ?_
      refine k_cond rfl (fun c29 => ?_) (fun c29 => ?_)
      · skip
        refine k_seq ?_
        refine k_region ?_
        refine n_op rfl (o_stv rfl rfl rfl rfl ?_)
        refine n_nil ?_
        refine th_n ?_
        refine k_ret ?_
        refine bl_r ?_
        refine th_r ?_
        refine k_unmark ?_
        refine k_retn rfl (rs_c (r_ld rfl rfl) (rs_nil)) (PH.le_trans (PH.le_trans (hB11) hB20) hB2) (⟨l, by rw [putE_ok hce, if_neg hno, if_pos (by rw [← mine_abs]; omega)]; rfl, by rw [putE_ok hce, if_neg hno, if_pos (by rw [← mine_abs]; omega)], hl, rfl⟩)
      · skip
        refine k_plO pb l fun la lc => ?_
        refine k_seq ?_
        refine k_region ?_
        refine n_y rfl (y_mv rfl) rfl ?_
        refine n_y rfl (y_nil rfl) rfl ?_
        refine n_y rfl (y_fa rfl) rfl ?_
        refine n_y rfl (y_ld rfl rfl) rfl ?_
        refine n_y rfl (y_len rfl) rfl ?_
        refine n_y rfl (y_eq rfl rfl) rfl ?_
        refine n_y rfl (y_as rfl) rfl ?_
        refine n_nil ?_
        refine th_n ?_
        refine k_cond rfl (fun c32 => ?_) (fun c32 => ?_)
        · skip
          refine k_seq ?_
          refine k_region ?_
          refine n_op rfl (o_stv rfl rfl rfl rfl ?_)
          refine n_nil ?_
          refine th_n ?_
          refine k_ret ?_
          refine bl_r ?_
          refine th_r ?_
          refine k_unmark ?_
          refine k_plC pb l (.slice la l.length lc) ?_
          refine k_retn rfl (rs_c (r_ld rfl rfl) (rs_nil)) (PH.le_trans (PH.le_trans (hB11) hB20) hB2) (⟨l, by rw [putE_ok hce, if_neg hno, if_neg (by rw [← mine_abs]; omega), if_pos (by rw [List.length_map]; omega)]; rfl, by rw [putE_ok hce, if_neg hno, if_neg (by rw [← mine_abs]; omega), if_pos (by rw [List.length_map]; omega)], hl, rfl⟩)
        · skip
          refine k_skip ?_
          refine bl_n ?_
          refine th_n ?_
          refine k_seq ?_
          refine k_mix rfl [0, 0, 2, 6, 14, 0, 32, 0, 128, 0, 512, 2016, 4064, 8190, 16383, 32767, 65535] [(0, false), (1, false), (2, false), (3, false), (4, false), (5, false), (6, false), (7, false), (8, false), (9, false), (10, true), (11, false), (12, true), (13, true), (14, false), (15, false), (16, true)] (by kernel_rfl) ?_
          refine m_p rfl rfl (fun _ _ => y_mv rfl) rfl ?_
          refine m_p rfl rfl (fun _ _ => y_mv rfl) rfl ?_
          refine m_p rfl rfl (fun _ _ => y_nil rfl) rfl ?_
          refine m_p rfl rfl (fun _ _ => y_fa rfl) rfl ?_
          refine m_y rfl rfl (y_ld rfl rfl) rfl ?_
          refine m_p rfl rfl (fun _ _ => y_fa rfl) rfl ?_
          refine m_y rfl rfl (y_ld rfl rfl) rfl ?_
          refine m_p rfl rfl (fun _ _ => y_fa rfl) rfl ?_
          refine m_y rfl rfl (y_ld rfl rfl) rfl ?_
          refine m_p rfl rfl (fun _ _ => y_mv rfl) rfl ?_
          refine m_mv1 [true, true, true] rfl rfl rfl (by kernel_rfl) fun W1 ds1 ro1 Q1 K1 hK1 => ?_
          refine o_call rfl (T_slices_Clone_byte _ bv b hb hn) rfl ?_
          rintro v49 B49 L49 hB49 ⟨hv49, rfl⟩
          try conv => arg 7; dsimp only [List.nil_append, List.cons_append]
          replace hl := hl.mono hB49
          replace hb := hb.mono hB49
          replace hm11 := hm11.mono hB49
          replace h220 := h220.mono hB49
          replace h320 := h320.mono hB49
          haveI := hv49.one
          refine hK1 _ _ _ (hB49) ⟨qy_y rfl (y_ld rfl rfl), qy_y rfl (y_ld rfl rfl), qy_y rfl (y_ld rfl rfl), ⟨⟩⟩ ?_
          refine m_p rfl rfl (fun _ _ => y_bd rfl rfl) rfl ?_
          refine m_mv1 [false, false, true] rfl rfl rfl (by kernel_rfl) fun W1 ds1 ro1 Q1 K1 hK1 => ?_
          refine o_bs rfl rfl rfl rfl rfl rfl fun b51 => ?_
          refine hK1 _ _ _ (PH.le_refl _) ⟨qy_y rfl (y_ld rfl rfl), ⟨⟩⟩ ?_
          refine m_mv1 [false] rfl rfl rfl (by kernel_rfl) fun W1 ds1 ro1 Q1 K1 hK1 => ?_
          refine o_app rfl rfl rfl (src_bk (m := 1) rfl rfl) rfl rfl (by omega) rfl fun v52 hv52 => ?_
          rw [show (l.flatMap fun a => p3C (pwE a)) ++ flat [.one (.int .i64 m11.who), .one (.int .i64 m11.num), .one v49] = ((l ++ [(⟨m11.who, m11.num, v49, b, hv49.one⟩ : PW)]).flatMap fun a => p3C (pwE a)) by simp [flat, Seg.cells, p3C, pwE], show l.length + 1 = (l ++ [(⟨m11.who, m11.num, v49, b, hv49.one⟩ : PW)]).length by simp]
          haveI := hv52
          refine hK1 _ _ _ (PH.le_refl _) trivial ?_
          refine m_p rfl rfl (fun _ _ => y_nil rfl) rfl ?_
          refine m_p rfl rfl (fun _ _ => y_fa rfl) rfl ?_
          refine m_mv0 [] rfl rfl (by kernel_rfl) fun W1 ds1 ro1 Q1 K1 hK1 => ?_
          refine o_stv rfl rfl rfl rfl ?_
          refine k_plC pb (l ++ [(⟨m11.who, m11.num, v49, b, hv49.one⟩ : PW)]) v52 ?_
          refine hK1  _ _ (PH.le_refl _) trivial ?_
          refine m_end ?_
          refine th_n ?_
          refine k_seq ?_
          refine k_region ?_
          refine n_op rfl (o_stv rfl rfl rfl rfl ?_)
          refine n_nil ?_
          refine th_n ?_
          refine k_ret ?_
          refine k_unmark ?_
          have hl9 : PoolOk B49 (l ++ [(⟨m11.who, m11.num, v49, b, hv49.one⟩ : PW)]) := fun a ha => by
            rcases List.mem_append.1 ha with h | h
            · exact hl a h
            · obtain rfl := List.mem_singleton.1 h
              exact hv49
          refine k_retn rfl (rs_c (r_ld rfl rfl) (rs_nil)) (PH.le_trans (PH.le_trans (PH.le_trans (hB11) hB20) hB2) hB49) (⟨l ++ [(⟨m11.who, m11.num, v49, b, hv49.one⟩ : PW)], by rw [putE_ok hce, if_neg hno, if_neg (by rw [← mine_abs]; omega), if_neg (by rw [List.length_map]; omega)]; rfl, by rw [putE_ok hce, if_neg hno, if_neg (by rw [← mine_abs]; omega), if_neg (by rw [List.length_map]; omega)]; simp [PW.abs], hl9, rfl⟩)
    · intro D c B2 L2 hB2 hZ2
      try conv => arg 7; dsimp only [List.nil_append, List.cons_append]
      replace hl := hl.mono hB2
      replace hb := hb.mono hB2
      replace hm11 := hm11.mono hB2
      replace h220 := h220.mono hB2
      replace h320 := h320.mono hB2
      obtain ⟨rfl, ⟨a, hw, hnum⟩, rfl⟩ := hZ2
      have hyes : ∃ a ∈ l.map PW.abs, a.1 = m11.who ∧ a.2.1 = m11.num := ⟨a.abs, List.mem_map.2 ⟨a, (List.mem_filter.1 hw).1, rfl⟩, by simpa [PW.abs] using (List.mem_filter.1 hw).2, hnum⟩
      try conv => arg 7; dsimp only [List.nil_append, List.cons_append]
      refine k_ret ?_
      refine bl_r ?_
      refine th_r ?_
      refine k_unmark ?_
      refine k_retn rfl (rs_c (r_ld rfl rfl) (rs_nil)) (PH.le_trans (PH.le_trans (hB11) hB20) hB2) (⟨l, by rw [putE_ok hce, if_pos hyes]; rfl, by rw [putE_ok hce, if_pos hyes], hl, rfl⟩)
theorem T_pool_there_has (B : PH) (bb : Nat) (k : Bk) (us : List Value) (a : PW) : Tri Try.prog F_pool_there_has [agg [.one (.func (.func F_book_Book_Find) #[.pointer (some ⟨bb, 0, none⟩)] #[])], agg (p3S (pwE a))] B [bookA bb k us] fun v B' L' => v = .bool (mget k.whr (a.who, a.num)).isSome ∧ B' = B ∧ L' = [bookA bb k us] := by
  haveI := (pwE_one a).a
  haveI := (pwE_one a).b
  haveI := (pwE_one a).c
  simp only [p3S, pwE]
  haveI := a.one
  refine tri_of fn_pool_there_has rfl nt_pool_there_has rfl fun W0 R => ?_
  simp only [argEnv, List.nil_append, List.cons_append]
  refine k_seq ?_
  refine k_region ?_
  refine n_op rfl (o_bx rfl rfl fun b2 => ?_)
  refine n_op rfl (o_bx rfl rfl fun b3 => ?_)
  refine n_y rfl (y_as rfl) rfl ?_
  refine n_nil ?_
  refine th_n ?_
  refine k_seq ?_
  refine k_region ?_
  refine n_y rfl (y_fa rfl) rfl ?_
  refine n_y rfl (y_ld rfl rfl) rfl ?_
  refine n_y rfl (y_fa rfl) rfl ?_
  refine n_y rfl (y_ld rfl rfl) rfl ?_
  refine n_y rfl (y_fa rfl) rfl ?_
  refine n_y rfl (y_ld rfl rfl) rfl ?_
  refine n_op rfl (o_callv rfl rfl rfl (T_book_Book_Find _ bb k us a.who a.num) rfl ?_)
  rintro v14 B14 L14 hB14 ⟨rfl, rfl, rfl⟩
  try conv => arg 7; dsimp only [List.nil_append, List.cons_append]
  refine n_y rfl (y_mv rfl) rfl ?_
  refine n_y rfl (y_ex0 rfl) rfl ?_
  refine n_y rfl (y_ex1 rfl) rfl ?_
  refine n_y rfl (y_as rfl) rfl ?_
  refine n_y rfl (y_as rfl) rfl ?_
  refine n_nil ?_
  refine th_n ?_
  refine k_seq ?_
  refine k_region ?_
  refine n_y rfl (y_mv rfl) rfl ?_
  refine n_y rfl (y_eq rfl rfl) rfl ?_
  refine n_y rfl (y_as rfl) rfl ?_
  refine n_nil ?_
  refine th_n ?_
  refine k_ret ?_
  refine k_retn rfl (rs_t rfl (rs_nil)) (PH.le_refl _) (⟨by cases mget k.whr (a.who, a.num) <;> rfl, rfl, rfl⟩)
theorem T_pool_Pool_Done (B : PH) (pb bb : Nat) (l : List PW) (k : Bk) (us : List Value) (hl : PoolOk B l) (hln : l.length ≤ 24) : Tri Try.prog F_pool_Pool_Done [.pointer (some ⟨pb, 0, none⟩), .pointer (some ⟨bb, 0, none⟩)] B [poolA pb l, bookA bb k us] fun v B' L' => ∃ l', v = .int .i64 ((l.length : Int) - (l'.length : Int)) ∧ l' = (l.filter fun a => !(mget k.whr (a.who, a.num)).isSome) ∧ PoolOk B' l' ∧ L' = [poolA pb l', bookA bb k us] := by
  refine tri_of fn_pool_Pool_Done rfl nt_pool_Pool_Done rfl fun W0 R => ?_
  simp only [argEnv, List.nil_append, List.cons_append]
  refine k_seq ?_
  refine k_region ?_
  refine n_y rfl (y_as rfl) rfl ?_
  refine n_nil ?_
  refine th_n ?_
  refine k_seq ?_
  refine k_region ?_
  refine k_plO pb l fun la lc => ?_
  refine n_y rfl (y_mv rfl) rfl ?_
  refine n_y rfl (y_nil rfl) rfl ?_
  refine n_y rfl (y_fa rfl) rfl ?_
  refine n_y rfl (y_ld rfl rfl) rfl ?_
  refine n_y rfl (y_len rfl) rfl ?_
  refine n_y rfl (y_as rfl) rfl ?_
  refine n_nil ?_
  refine th_n ?_
  refine k_seq ?_
  refine k_region ?_
  refine n_y rfl (y_mv rfl) rfl ?_
  refine n_y rfl (y_mv rfl) rfl ?_
  refine n_y rfl (y_nil rfl) rfl ?_
  refine n_y rfl (y_fa rfl) rfl ?_
  refine n_y rfl (y_ld rfl rfl) rfl ?_
  refine n_y rfl (y_mv rfl) rfl ?_
  refine n_y rfl (y_mf rfl rfl) rfl ?_
  refine n_y rfl (y_bd rfl rfl) rfl ?_
  refine n_y rfl (y_mf rfl rfl) rfl ?_
  refine n_op rfl (o_call rfl (T_slices_DeleteFunc_waiting pwE pwE_one _ _ l F_pool_there_has [agg [.one (.func (.func F_book_Book_Find) #[.pointer (some ⟨bb, 0, none⟩)] #[])]] [] (fun _ _ A => A = bookA bb k us) (fun _ _ _ _ _ h => h) (fun _ => True) (fun _ _ => trivial) (fun (_ : Unit) a => (mget k.whr (a.who, a.num)).isSome) (fun s _ => s) (fun s a B1 A _ hA _ => by subst hA; exact (T_pool_there_has B1 bb k us a).mono fun v B' L' _ ⟨h1, h2, h3⟩ => ⟨h1, _, h3, rfl⟩) () (bookA bb k us) rfl (by omega)) rfl ?_)
  rintro v20 B20 L20 hB20 ⟨v', l', s', A', rfl, hdel, hv', rfl, rfl⟩
  try conv => arg 7; dsimp only [List.nil_append, List.cons_append]
  replace hl := hl.mono hB20
  rw [delAll_filter] at hdel
  obtain ⟨rfl, -⟩ : (l.filter fun a => !(mget k.whr (a.who, a.num)).isSome) = l' ∧ () = s' := by simpa using hdel
  haveI := hv'
  refine n_y rfl (y_nil rfl) rfl ?_
  refine n_y rfl (y_fa rfl) rfl ?_
  refine n_op rfl (o_stv rfl rfl rfl rfl ?_)
  refine k_owf (v := v20) fun ⟨va, vc, e9⟩ _ _ => ?_
  subst e9
  have hfl := List.length_filter_le (fun a : PW => !(mget k.whr (a.who, a.num)).isSome) l
  refine n_nil ?_
  refine th_n ?_
  refine k_seq ?_
  refine k_region ?_
  refine n_y rfl (y_mv rfl) rfl ?_
  refine n_y rfl (y_mv rfl) rfl ?_
  refine n_y rfl (y_nil rfl) rfl ?_
  refine n_y rfl (y_fa rfl) rfl ?_
  refine n_y rfl (y_ld rfl rfl) rfl ?_
  refine n_y rfl (y_len rfl) rfl ?_
  refine n_y rfl (y_sub rfl rfl (by omega)) rfl ?_
  refine n_y rfl (y_as rfl) rfl ?_
  refine n_nil ?_
  refine th_n ?_
  refine k_ret ?_
  refine k_plC pb (l.filter fun a => !(mget k.whr (a.who, a.num)).isSome) (.slice va (l.filter fun a => !(mget k.whr (a.who, a.num)).isSome).length vc) ?_
  refine k_retn rfl (rs_t rfl (rs_nil)) (hB20) (⟨_, rfl, rfl, fun a ha => hl a (List.mem_filter.1 ha).1, rfl⟩)
theorem T_slices_AppendSeq_byte (B : PH) (gf : FuncId) (ca : List Value) (Own : Asrt) (xs : List (List UInt8)) [FnC Try.prog gf] (I : IterA Try.prog gf ca B [Own] xs.length fun i B vs => ∃ x xv, xs[i]? = some x ∧ vs = [xv] ∧ IsB B xv x) (hn : xs.length < 1099511627776) : Tri Try.prog F_slices_AppendSeq_byte [.slice none 0 0, .func (.func gf) #[] ca.toArray] B [Own] fun v B' L' => IsBB B' v xs ∧ L' = [Own] := by
  refine tri_of fn_slices_AppendSeq_byte rfl nt_slices_AppendSeq_byte rfl fun W0 R => ?_
  simp only [argEnv, List.nil_append, List.cons_append]
  refine k_seq ?_
  refine k_region ?_
  refine n_op rfl (o_bx rfl rfl fun b2 => ?_)
  refine n_y rfl (y_as rfl) rfl ?_
  refine n_nil ?_
  refine th_n ?_
  refine k_seq ?_
  refine k_seq ?_
  refine k_region ?_
  refine n_y rfl (y_mv rfl) rfl ?_
  refine n_nil ?_
  refine th_n ?_
  refine k_block ?_
  refine k_ownil 29 1 ?_
  refine k_range (Own := [Own]) rfl (Iter.ofA I) rfl (fun i B L => ∃ v us, OneC v ∧ IsBs B us (xs.take i) ∧ us.length = i ∧ L = [bk b2 39 [.one v], ow 29 1 v i us]) (fun _ _ _ => False) (fun i B1 B2 L hl ⟨v, us, h1, h2, h3⟩ => ⟨v, us, h1, h2.mono hl, h3⟩) (fun _ _ _ _ _ h => h) [bk b2 39 [.one (.slice none 0 0)], ow 29 1 (.slice none 0 0) 0 []] ⟨_, [], ⟨rfl⟩, trivial, rfl, rfl⟩ (by rintro i B1 vs ⟨x, xv, h1, rfl, _⟩; rfl) ?_ ?_ ?_
  · intro lr i vs B1 L1 F1 F2 W0' hi hB1 hel hJ
    obtain ⟨x, xv, hx, rfl, hxv⟩ := hel
    obtain ⟨v, us, hv, hus, hul, rfl⟩ := hJ
    haveI := hv
    haveI := hxv.one
    try conv => arg 7; dsimp only [List.nil_append, List.cons_append]
    try conv => arg 4; simp only [penv]
    refine k_region ?_
    refine n_y rfl (y_as rfl) rfl ?_
    refine n_nil ?_
    refine th_n ?_
    refine k_sw (F1 := F1) ?_
    refine k_block ?_
    refine k_region ?_
    refine n_y rfl (y_ld rfl rfl) rfl ?_
    refine n_y rfl (y_mv rfl) rfl ?_
    refine n_op rfl (o_bs rfl rfl rfl rfl rfl rfl fun b10 => ?_)
    refine n_op rfl (o_app rfl rfl rfl (src_bk (m := 1) rfl rfl) rfl rfl (by omega) rfl fun v11 hv11 => ?_)
    rw [show us ++ flat [.one xv] = us ++ [xv] from rfl]
    haveI := hv11
    refine n_op rfl (o_stv rfl rfl rfl rfl ?_)
    refine n_nil ?_
    refine bl_n ?_
    exact k_rqn (PH.le_refl _) ⟨v11, us ++ [xv], hv11, by rw [take_succ hx]; exact hus.snoc hxv, by simp [hul], rfl⟩
  · intro D B2 L2 hB2 hJ2
    obtain ⟨v, us, hv, hus, hul, rfl⟩ := hJ2
    rw [List.take_length] at hus
    haveI := hv
    try conv => arg 7; dsimp only [List.nil_append, List.cons_append]
    refine bl_n ?_
    refine th_n ?_
    refine k_seq ?_
    refine k_region ?_
    refine n_y rfl (y_ld rfl rfl) rfl ?_
    refine n_y rfl (y_as rfl) rfl ?_
    refine n_nil ?_
    refine th_n ?_
    refine k_ret ?_
    refine k_unmark ?_
    refine k_frzw (v := v) fun Bf hBf hrf => ?_
    refine k_retn rfl (rs_t rfl (rs_nil)) (PH.le_trans (hB2) hBf) (⟨⟨us, hul, hrf, (hus.mono hBf).get.2⟩, rfl⟩)
  · intro D c B2 L2 hB2 hZ2
    exact hZ2.elim
theorem T_slices_Collect_byte (B : PH) (gf : FuncId) (ca : List Value) (Own : Asrt) (xs : List (List UInt8)) [FnC Try.prog gf] (I : IterA Try.prog gf ca B [Own] xs.length fun i B vs => ∃ x xv, xs[i]? = some x ∧ vs = [xv] ∧ IsB B xv x) (hn : xs.length < 1099511627776) : Tri Try.prog F_slices_Collect_byte [.func (.func gf) #[] ca.toArray] B [Own] fun v B' L' => IsBB B' v xs ∧ L' = [Own] := by
  refine tri_of fn_slices_Collect_byte rfl nt_slices_Collect_byte rfl fun W0 R => ?_
  simp only [argEnv, List.nil_append, List.cons_append]
  refine k_seq ?_
  refine k_region ?_
  refine n_y rfl (y_as rfl) rfl ?_
  refine n_nil ?_
  refine th_n ?_
  refine k_seq ?_
  refine k_region ?_
  refine n_y rfl (y_mv rfl) rfl ?_
  refine n_op rfl (o_call rfl (T_slices_AppendSeq_byte _ gf ca Own xs I hn) rfl ?_)
  rintro v4 B4 L4 hB4 ⟨hv4, rfl⟩
  try conv => arg 7; dsimp only [List.nil_append, List.cons_append]
  refine n_y rfl (y_as rfl) rfl ?_
  refine n_nil ?_
  refine th_n ?_
  refine k_ret ?_
  refine k_retn rfl (rs_t rfl (rs_nil)) (hB4) (⟨hv4, rfl⟩)
theorem it_bytes {B : PH} {gf : FuncId} {ca : List Value} {Own : List Asrt} {l : List PW} (h : IterA Try.prog gf ca B Own l.length fun i B vs => ∃ a xv, l[i]? = some a ∧ vs = [xv] ∧ IsB B xv a.bytes) : IterA Try.prog gf ca B Own l.length fun i B vs => ∃ x xv, (l.map fun a => a.bytes)[i]? = some x ∧ vs = [xv] ∧ IsB B xv x := by
  intro l0 J Z B0 h0 hJm hZm hy
  exact h l0 J Z B0 h0 hJm hZm fun i vs B1 A hi hB ⟨a, xv, h1, h2, h3⟩ hJ => hy i vs B1 A hi hB ⟨a.bytes, xv, by rw [List.getElem?_map, h1]; rfl, h2, h3⟩ hJ

theorem T_pool_Pool_Batch (B : PH) (pb : Nat) (l : List PW) (hl : PoolOk B l) (hln : l.length ≤ 24) (hx : ∀ a ∈ l, a.bytes.length < 1099511627776) : Tri Try.prog F_pool_Pool_Batch [.pointer (some ⟨pb, 0, none⟩)] B [poolA pb l] fun v B' L' => IsB B' v (batchE (l.map PW.abs)) ∧ L' = [poolA pb l] := by
  refine tri_of fn_pool_Pool_Batch rfl nt_pool_Pool_Batch rfl fun W0 R => ?_
  simp only [argEnv, List.nil_append, List.cons_append]
  refine k_seq ?_
  refine k_region ?_
  refine n_y rfl (y_as rfl) rfl ?_
  refine n_nil ?_
  refine th_n ?_
  refine k_seq ?_
  refine k_region ?_
  refine n_y rfl (y_mv rfl) rfl ?_
  refine n_op rfl (o_call rfl (T_pool_Pool_First _ pb 8) rfl ?_)
  rintro v7 B7 L7 hB7 ⟨b27, b37, rfl, h27, h37, rfl⟩
  try conv => arg 7; dsimp only [List.nil_append, List.cons_append]
  replace hl := hl.mono hB7
  refine n_op rfl (o_call rfl (T_slices_Collect_byte _ _ _ (poolA pb l) ((l.take 8).map fun a => a.bytes) (by rw [List.length_map]; exact it_bytes (IA_pool_First _ b27 b37 pb 8 l h27 h37 hl (by omega) hx)) (by simp; omega)) rfl ?_)
  rintro v8 B8 L8 hB8 ⟨hv8, rfl⟩
  try conv => arg 7; dsimp only [List.nil_append, List.cons_append]
  replace hl := hl.mono hB8
  replace h27 := h27.mono hB8
  replace h37 := h37.mono hB8
  refine n_op rfl (o_call rfl (T_book_Join _ _ _ hv8 (fun x hx' => by obtain ⟨a, ha, rfl⟩ := List.mem_map.1 hx'; have := hx a (List.mem_of_mem_take ha); omega)) rfl ?_)
  rintro v9 B9 L9 hB9 ⟨bv, e, rfl, rfl, hj⟩
  try conv => arg 7; dsimp only [List.nil_append, List.cons_append]
  replace hl := hl.mono hB9
  replace h27 := h27.mono hB9
  replace h37 := h37.mono hB9
  replace hv8 := hv8.mono hB9
  haveI : OneC bv := by
    rcases hj with ⟨x, _, _, h⟩ | ⟨_, _, rfl⟩
    · exact h.one
    · exact ⟨rfl⟩
  refine n_y rfl (y_mv rfl) rfl ?_
  refine n_y rfl (y_ex0 rfl) rfl ?_
  refine n_y rfl (y_ex1 rfl) rfl ?_
  refine n_y rfl (y_as rfl) rfl ?_
  refine n_y rfl (y_as rfl) rfl ?_
  refine n_nil ?_
  refine th_n ?_
  refine k_seq ?_
  refine k_region ?_
  refine n_y rfl (y_mv rfl) rfl ?_
  refine n_y rfl (y_as rfl) rfl ?_
  refine n_nil ?_
  refine th_n ?_
  refine k_ret ?_
  refine k_retn rfl (rs_t rfl (rs_nil)) (PH.le_trans (PH.le_trans (hB7) hB8) hB9) (⟨by
    have e1 : ((l.map PW.abs).take 8).map (fun a => a.2.2) = (l.take 8).map fun a => a.bytes := by rw [← List.map_take, List.map_map]; rfl
    rcases hj with ⟨x, h1, _, h⟩ | ⟨h1, _, rfl⟩
    · rw [batchE, e1, h1]; exact h
    · rw [batchE, e1, h1]; exact isB_nil _, rfl⟩)
end Go.Proofs.Ytokekdbdnonebaa
