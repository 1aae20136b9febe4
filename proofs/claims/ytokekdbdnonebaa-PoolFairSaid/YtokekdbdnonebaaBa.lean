/- book: entries, batches, the book. -/
import Derived.Test.YtokekdbdnonebaaTa
import Derived.Test.YtokekdbdnonebaaKt
import Derived.Test.YtokekdbdnonebaaMg
import Derived.Test.YtokekdbdnonebaaEngU
namespace Go.Proofs.Ytokekdbdnonebaa
open Sc Go
theorem read_form {B : PH} {v : Value} {b : List UInt8} (h : match readM b with
    | .ok m => ∃ dv iv lv, v = .tuple #[agg (mS m dv iv lv), .int .i64 0] ∧ IsM B m dv iv lv
    | .error e => v = .tuple #[agg (mS zMsg (.slice none 0 0) (.slice none 0 0) (.slice none 0 0)), .int .i64 e] ∧ e ≠ 0) :
    ∃ m dv iv lv e, v = .tuple #[agg (mS m dv iv lv), .int .i64 e] ∧ IsM B m dv iv lv ∧ ((e ≠ 0 ∧ readM b = .error e ∧ m = zMsg) ∨ (e = 0 ∧ readM b = .ok m)) := by
  cases hr : readM b with
  | error e => rw [hr] at h; exact ⟨zMsg, _, _, _, e, h.1, ⟨isB_nil _, prd.nil _, [], rfl, prd.nil _, fun i u x hu => by simp at hu⟩, .inl ⟨h.2, rfl, rfl⟩⟩
  | ok m => rw [hr] at h; obtain ⟨dv, iv, lv, h1, h2⟩ := h; exact ⟨m, dv, iv, lv, 0, h1, h2, .inr ⟨rfl, rfl⟩⟩
def bkC (b lc hc mb tb : Nat) (la ha : Option Addr) (k : Bk) : Asrt := bk b 94 [.one (.slice la k.list.length lc), .one (.map (some mb)), .one (.pointer (some ⟨tb, 0, none⟩)), .one (.slice ha k.heads.length hc)]
/-- Block b is a book. -/
def bookA (b : Nat) (k : Bk) (us : List Value) : Asrt := aex (fun _ : Value × Nat × Nat × Value => True) fun x => [bk b 94 [.one x.1, .one (.map (some x.2.1)), .one (.pointer (some ⟨x.2.2.1, 0, none⟩)), .one x.2.2.2],
  ow 29 1 x.1 k.list.length us, mp vPair x.2.1 (k.whr.map fun p => (p.1, .int .i64 p.2)), rgA 170 49 x.2.2.1 k.tree, ow 114 34 x.2.2.2 k.heads.length (k.heads.flatMap hdC)]
section
variable {P : Program} {ro : Option Nat} {Q : Exit → Act → World → Prop} {W0 : World} {n : Nat} {K : Act → World → Prop} {E : Env} {ds : List Deferred} {B : PH} {L : List Asrt}
theorem k_bkO (b : Nat) (k : Bk) (us : List Value) {R : List Asrt} [p : Pick (bookA b k us) L R] (h : ∀ la lc mb tb ha hc, us.length = k.list.length → (∀ u ∈ us, u.oneCell' = true) →
    KGo W0 n K E ds B (bk b 94 [.one (.slice la k.list.length lc), .one (.map (some mb)), .one (.pointer (some ⟨tb, 0, none⟩)), .one (.slice ha k.heads.length hc)] :: ow 29 1 (.slice la k.list.length lc) k.list.length us :: mp vPair mb (k.whr.map fun p => (p.1, .int .i64 p.2)) :: rgA 170 49 tb k.tree :: ow 114 34 (.slice ha k.heads.length hc) k.heads.length (k.heads.flatMap hdC) :: R)) : KGo W0 n K E ds B L :=
  k_ent p.out <| k_aex fun x _ => by
    obtain ⟨lv, mb, tb, hv⟩ := x
    dsimp only [List.cons_append, List.nil_append]
    refine k_owf (v := lv) fun ⟨la, lc, e1⟩ e2 e3 => ?_
    refine k_owf (v := hv) fun ⟨ha, hc, e4⟩ _ _ => ?_
    subst e1; subst e4
    exact h la lc mb tb ha hc (by rw [e2, Nat.mul_one]) e3
theorem k_bkC (b : Nat) (k : Bk) (us : List Value) (lv hv : Value) (mb tb : Nat) {R : List Asrt} [pt : Part [bk b 94 [.one lv, .one (.map (some mb)), .one (.pointer (some ⟨tb, 0, none⟩)), .one hv],
  ow 29 1 lv k.list.length us, mp vPair mb (k.whr.map fun p => (p.1, .int .i64 p.2)), rgA 170 49 tb k.tree, ow 114 34 hv k.heads.length (k.heads.flatMap hdC)] L R] (h : KGo W0 n K E ds B (bookA b k us :: R)) : KGo W0 n K E ds B L :=
  k_ent pt.out (k_shut (M := fun x : Value × Nat × Nat × Value => [bk b 94 [.one x.1, .one (.map (some x.2.1)), .one (.pointer (some ⟨x.2.2.1, 0, none⟩)), .one x.2.2.2],
  ow 29 1 x.1 k.list.length us, mp vPair x.2.1 (k.whr.map fun p => (p.1, .int .i64 p.2)), rgA 170 49 x.2.2.1 k.tree, ow 114 34 x.2.2.2 k.heads.length (k.heads.flatMap hdC)]) (lv, mb, tb, hv) trivial h)
theorem k_bkC0 (b : Nat) (mb tb : Nat) {R : List Asrt} [pt : Part [ow 29 1 (.slice none 0 0) 0 [], ow 114 34 (.slice none 0 0) 0 [], bk b 94 [.one (.slice none 0 0), .one (.map (some mb)), .one (.pointer (some ⟨tb, 0, none⟩)), .one (.slice none 0 0)], mp vPair mb [], rgA 170 49 tb (0, [])] L R] (h : KGo W0 n K E ds B (bookA b zBk [] :: R)) : KGo W0 n K E ds B L :=
  k_ent pt.out <| by
  dsimp only [List.cons_append, List.nil_append]
  exact k_part [bk b 94 [.one (.slice none 0 0), .one (.map (some mb)), .one (.pointer (some ⟨tb, 0, none⟩)), .one (.slice none 0 0)], ow 29 1 (.slice none 0 0) 0 [], mp vPair mb [], rgA 170 49 tb (0, []), ow 114 34 (.slice none 0 0) 0 []] (k_shut (M := fun x : Value × Nat × Nat × Value => [bk b 94 [.one x.1, .one (.map (some x.2.1)), .one (.pointer (some ⟨x.2.2.1, 0, none⟩)), .one x.2.2.2],
  ow 29 1 x.1 zBk.list.length [], mp vPair x.2.1 (zBk.whr.map fun p => (p.1, .int .i64 p.2)), rgA 170 49 x.2.2.1 zBk.tree, ow 114 34 x.2.2.2 zBk.heads.length (zBk.heads.flatMap hdC)]) (.slice none 0 0, mb, tb, .slice none 0 0) trivial h)
end
theorem splitB_each {b x : List UInt8} (h : x ∈ splitB b) : x.length ≤ 131072 := by
  unfold splitB at h
  split at h
  · rename_i m hm
    unfold splitM at h
    split at h
    · cases h
    · exact (msgBd (readM_ok hm)).each x h
  · cases h

theorem T_book_Check (B : PH) (bv : Value) (b : List UInt8) (hb : IsB B bv b) (hn : b.length < 1099511627776) : Tri Try.prog F_book_Check [bv] B [] fun v B' L' => ∃ m dv iv lv e, v = .tuple #[agg (mS m dv iv lv), .int .i64 e] ∧ IsM B' m dv iv lv ∧ L' = [] ∧ ((e ≠ 0 ∧ checkE b = .error e ∧ m = zMsg) ∨ (e = 0 ∧ checkE b = .ok m)) := by
  haveI := hb.one
  have hz : ∀ {B : PH}, IsM B zMsg (.slice none 0 0) (.slice none 0 0) (.slice none 0 0) := fun {B} => ⟨isB_nil _, prd.nil _, [], rfl, prd.nil _, fun i u x hu => by simp at hu⟩
  refine tri_of fn_book_Check rfl nt_book_Check rfl fun W0 R => ?_
  simp only [argEnv, List.nil_append, List.cons_append]
  refine k_seq ?_
  refine k_region ?_
  refine n_op rfl (o_al rfl fun b2 => ?_)
  refine n_y rfl (y_as rfl) rfl ?_
  refine n_nil ?_
  refine th_n ?_
  refine k_seq ?_
  refine k_region ?_
  refine n_y rfl (y_mv rfl) rfl ?_
  refine n_op rfl (o_call rfl (T_pack_Read _ bv b hb hn) rfl ?_)
  rintro v8 B8 L8 hB8 ⟨rfl, h8⟩
  try conv => arg 7; dsimp only [List.nil_append, List.cons_append]
  obtain ⟨m8, dv8, iv8, lv8, e8, rfl, hm8, hr8⟩ := read_form h8
  haveI := hm8.data.one
  haveI := hm8.ids.one
  haveI := hm8.list.one
  refine n_y rfl (y_mv rfl) rfl ?_
  refine n_y rfl (y_ex0 rfl) rfl ?_
  refine n_y rfl (y_ex1 rfl) rfl ?_
  refine n_op rfl (o_al rfl fun b4 => ?_)
  refine n_op rfl (o_stv rfl rfl rfl rfl ?_)
  refine n_y rfl (y_as rfl) rfl ?_
  refine n_nil ?_
  refine th_n ?_
  refine k_seq ?_
  refine k_block ?_
  refine k_seq ?_
  refine k_region ?_
  refine n_y rfl (y_mv rfl) rfl ?_
  refine n_y rfl (y_ne rfl rfl) rfl ?_
  refine n_y rfl (y_as rfl) rfl ?_
  refine n_nil ?_
  refine th_n ?_
  refine k_cond rfl (fun c11 => ?_) (fun c11 => ?_)
  · skip
    refine k_seq ?_
    refine k_region ?_
    refine n_y rfl (y_bd rfl rfl) rfl ?_
    refine n_y rfl (y_mv rfl) rfl ?_
    refine n_op rfl (o_stv rfl rfl rfl rfl ?_)
    refine n_y rfl (y_as rfl) rfl ?_
    refine n_nil ?_
    refine th_n ?_
    refine k_ret ?_
    refine bl_r ?_
    refine th_r ?_
    refine k_retn rfl (rs_c (r_lda rfl rfl) (rs_t rfl (rs_nil))) (hB8) (⟨zMsg, _, _, _, e8, rfl, hz, rfl, .inl ⟨c11, by rcases hr8 with h | h; exact checkE_err h.2.1; exact absurd h.1 c11, rfl⟩⟩)
  · skip
    obtain rfl : e8 = 0 := Decidable.not_not.1 c11
    have hrd : readM b = .ok m8 := by
      rcases hr8 with h | h
      · exact absurd rfl h.1
      · exact h.2
    have hbd := msgBd (readM_ok hrd)
    obtain ⟨p1, p2, p3, p4, p5, p6, p7, p8, p9⟩ := hbd
    obtain ⟨da, dc, rfl⟩ := hm8.data.form
    obtain ⟨ia, ic, rfl⟩ := hm8.ids.form
    obtain ⟨la, lc, rfl⟩ := hm8.list.form
    refine k_seq ?_
    refine k_region ?_
    refine n_y rfl (y_fa rfl) rfl ?_
    refine n_y rfl (y_ld rfl rfl) rfl ?_
    refine n_y rfl (y_ne rfl rfl) rfl ?_
    refine k_dec (fun c19 => ?_) (fun c19 => ?_)
    · skip
      refine n_y rfl (y_mv rfl) rfl ?_
      refine n_no rfl rfl ?_
      refine n_no rfl rfl ?_
      refine n_no rfl rfl ?_
      refine n_y rfl (y_pt rfl rfl) rfl ?_
      refine n_y rfl (y_mv rfl) rfl ?_
      refine n_no rfl rfl ?_
      refine n_no rfl rfl ?_
      refine n_no rfl rfl ?_
      refine n_y rfl (y_pt rfl rfl) rfl ?_
      refine n_y rfl (y_mv rfl) rfl ?_
      refine n_no rfl rfl ?_
      refine n_no rfl rfl ?_
      refine n_no rfl rfl ?_
      refine n_no rfl rfl ?_
      refine n_no rfl rfl ?_
      refine n_no rfl rfl ?_
      refine n_no rfl rfl ?_
      refine n_no rfl rfl ?_
      refine n_no rfl rfl ?_
      refine n_y rfl (y_pt rfl rfl) rfl ?_
      refine n_y rfl (y_mv rfl) rfl ?_
      refine n_no rfl rfl ?_
      refine n_no rfl rfl ?_
      refine n_no rfl rfl ?_
      refine n_no rfl rfl ?_
      refine n_y rfl (y_pt rfl rfl) rfl ?_
      refine n_y rfl (y_mv rfl) rfl ?_
      refine n_no rfl rfl ?_
      refine n_no rfl rfl ?_
      refine n_no rfl rfl ?_
      refine n_no rfl rfl ?_
      refine n_no rfl rfl ?_
      refine n_no rfl rfl ?_
      refine n_no rfl rfl ?_
      refine n_no rfl rfl ?_
      refine n_y rfl (y_pt rfl rfl) rfl ?_
      refine n_y rfl (y_as rfl) rfl ?_
      refine n_nil ?_
      refine th_n ?_
      refine k_condt rfl ?_
      refine k_seq ?_
      refine k_region ?_
      refine n_y rfl (y_bd rfl rfl) rfl ?_
      refine n_op rfl (o_stv rfl rfl rfl rfl ?_)
      refine n_y rfl (y_as rfl) rfl ?_
      refine n_nil ?_
      refine th_n ?_
      refine k_ret ?_
      refine bl_r ?_
      refine th_r ?_
      refine k_retn rfl (rs_c (r_lda rfl rfl) (rs_t rfl (rs_nil))) (hB8) (⟨zMsg, _, _, _, 23, rfl, hz, rfl, .inl ⟨by decide, by rw [checkE_ok hrd, if_pos (.inl (by omega))], rfl⟩⟩)
    · skip
      refine n_y rfl (y_mv rfl) rfl ?_
      refine n_y rfl (y_fa rfl) rfl ?_
      refine n_y rfl (y_ld rfl rfl) rfl ?_
      refine n_y rfl (y_lt rfl rfl) rfl ?_
      refine k_dec (fun c23 => ?_) (fun c23 => ?_)
      · skip
        refine n_y rfl (y_pf rfl rfl) rfl ?_
        refine n_y rfl (y_mv rfl) rfl ?_
        refine n_no rfl rfl ?_
        refine n_no rfl rfl ?_
        refine n_no rfl rfl ?_
        refine n_y rfl (y_pt rfl rfl) rfl ?_
        refine n_y rfl (y_mv rfl) rfl ?_
        refine n_no rfl rfl ?_
        refine n_no rfl rfl ?_
        refine n_no rfl rfl ?_
        refine n_no rfl rfl ?_
        refine n_no rfl rfl ?_
        refine n_no rfl rfl ?_
        refine n_no rfl rfl ?_
        refine n_no rfl rfl ?_
        refine n_no rfl rfl ?_
        refine n_y rfl (y_pt rfl rfl) rfl ?_
        refine n_y rfl (y_mv rfl) rfl ?_
        refine n_no rfl rfl ?_
        refine n_no rfl rfl ?_
        refine n_no rfl rfl ?_
        refine n_no rfl rfl ?_
        refine n_y rfl (y_pt rfl rfl) rfl ?_
        refine n_y rfl (y_mv rfl) rfl ?_
        refine n_no rfl rfl ?_
        refine n_no rfl rfl ?_
        refine n_no rfl rfl ?_
        refine n_no rfl rfl ?_
        refine n_no rfl rfl ?_
        refine n_no rfl rfl ?_
        refine n_no rfl rfl ?_
        refine n_no rfl rfl ?_
        refine n_y rfl (y_pt rfl rfl) rfl ?_
        refine n_y rfl (y_as rfl) rfl ?_
        refine n_nil ?_
        refine th_n ?_
        refine k_condt rfl ?_
        refine k_seq ?_
        refine k_region ?_
        refine n_y rfl (y_bd rfl rfl) rfl ?_
        refine n_op rfl (o_stv rfl rfl rfl rfl ?_)
        refine n_y rfl (y_as rfl) rfl ?_
        refine n_nil ?_
        refine th_n ?_
        refine k_ret ?_
        refine bl_r ?_
        refine th_r ?_
        refine k_retn rfl (rs_c (r_lda rfl rfl) (rs_t rfl (rs_nil))) (hB8) (⟨zMsg, _, _, _, 23, rfl, hz, rfl, .inl ⟨by decide, by rw [checkE_ok hrd, if_pos (.inr (.inl (by omega)))], rfl⟩⟩)
      · skip
        refine n_y rfl (y_pf rfl rfl) rfl ?_
        refine n_y rfl (y_mv rfl) rfl ?_
        refine n_y rfl (y_fa rfl) rfl ?_
        refine n_y rfl (y_ld rfl rfl) rfl ?_
        refine n_y rfl (y_gt rfl rfl) rfl ?_
        refine k_dec (fun c28 => ?_) (fun c28 => ?_)
        · skip
          refine n_y rfl (y_pf rfl rfl) rfl ?_
          refine n_y rfl (y_mv rfl) rfl ?_
          refine n_no rfl rfl ?_
          refine n_no rfl rfl ?_
          refine n_no rfl rfl ?_
          refine n_no rfl rfl ?_
          refine n_no rfl rfl ?_
          refine n_no rfl rfl ?_
          refine n_no rfl rfl ?_
          refine n_no rfl rfl ?_
          refine n_no rfl rfl ?_
          refine n_y rfl (y_pt rfl rfl) rfl ?_
          refine n_y rfl (y_mv rfl) rfl ?_
          refine n_no rfl rfl ?_
          refine n_no rfl rfl ?_
          refine n_no rfl rfl ?_
          refine n_no rfl rfl ?_
          refine n_y rfl (y_pt rfl rfl) rfl ?_
          refine n_y rfl (y_mv rfl) rfl ?_
          refine n_no rfl rfl ?_
          refine n_no rfl rfl ?_
          refine n_no rfl rfl ?_
          refine n_no rfl rfl ?_
          refine n_no rfl rfl ?_
          refine n_no rfl rfl ?_
          refine n_no rfl rfl ?_
          refine n_no rfl rfl ?_
          refine n_y rfl (y_pt rfl rfl) rfl ?_
          refine n_y rfl (y_as rfl) rfl ?_
          refine n_nil ?_
          refine th_n ?_
          refine k_condt rfl ?_
          refine k_seq ?_
          refine k_region ?_
          refine n_y rfl (y_bd rfl rfl) rfl ?_
          refine n_op rfl (o_stv rfl rfl rfl rfl ?_)
          refine n_y rfl (y_as rfl) rfl ?_
          refine n_nil ?_
          refine th_n ?_
          refine k_ret ?_
          refine bl_r ?_
          refine th_r ?_
          refine k_retn rfl (rs_c (r_lda rfl rfl) (rs_t rfl (rs_nil))) (hB8) (⟨zMsg, _, _, _, 23, rfl, hz, rfl, .inl ⟨by decide, by rw [checkE_ok hrd, if_pos (.inr (.inr (.inl (by omega))))], rfl⟩⟩)
        · skip
          refine n_y rfl (y_pf rfl rfl) rfl ?_
          refine n_y rfl (y_mv rfl) rfl ?_
          refine n_y rfl (y_fa rfl) rfl ?_
          refine n_y rfl (y_ld rfl rfl) rfl ?_
          refine n_y rfl (y_fa rfl) rfl ?_
          refine n_y rfl (y_ld rfl rfl) rfl ?_
          refine n_y rfl (y_add rfl rfl (by omega)) rfl ?_
          refine n_y rfl (y_fa rfl) rfl ?_
          refine n_y rfl (y_ld rfl rfl) rfl ?_
          refine n_y rfl (y_add rfl rfl (by omega)) rfl ?_
          refine n_y rfl (y_gt rfl rfl) rfl ?_
          refine k_dec (fun c39 => ?_) (fun c39 => ?_)
          · skip
            refine n_y rfl (y_pf rfl rfl) rfl ?_
            refine n_y rfl (y_mv rfl) rfl ?_
            refine n_no rfl rfl ?_
            refine n_no rfl rfl ?_
            refine n_no rfl rfl ?_
            refine n_no rfl rfl ?_
            refine n_y rfl (y_pt rfl rfl) rfl ?_
            refine n_y rfl (y_mv rfl) rfl ?_
            refine n_no rfl rfl ?_
            refine n_no rfl rfl ?_
            refine n_no rfl rfl ?_
            refine n_no rfl rfl ?_
            refine n_no rfl rfl ?_
            refine n_no rfl rfl ?_
            refine n_no rfl rfl ?_
            refine n_no rfl rfl ?_
            refine n_y rfl (y_pt rfl rfl) rfl ?_
            refine n_y rfl (y_as rfl) rfl ?_
            refine n_nil ?_
            refine th_n ?_
            refine k_condt rfl ?_
            refine k_seq ?_
            refine k_region ?_
            refine n_y rfl (y_bd rfl rfl) rfl ?_
            refine n_op rfl (o_stv rfl rfl rfl rfl ?_)
            refine n_y rfl (y_as rfl) rfl ?_
            refine n_nil ?_
            refine th_n ?_
            refine k_ret ?_
            refine bl_r ?_
            refine th_r ?_
            refine k_retn rfl (rs_c (r_lda rfl rfl) (rs_t rfl (rs_nil))) (hB8) (⟨zMsg, _, _, _, 23, rfl, hz, rfl, .inl ⟨by decide, by rw [checkE_ok hrd, if_pos (.inr (.inr (.inr (.inl (by omega)))))], rfl⟩⟩)
          · skip
            refine n_y rfl (y_pf rfl rfl) rfl ?_
            refine n_y rfl (y_mv rfl) rfl ?_
            refine n_y rfl (y_fa rfl) rfl ?_
            refine n_y rfl (y_lda rfl rfl) rfl ?_
            refine n_y rfl (y_bd rfl rfl) rfl ?_
            refine n_y rfl (y_neID rfl rfl) rfl ?_
            refine k_dec (fun c45 => ?_) (fun c45 => ?_)
            · skip
              refine n_y rfl (y_pf rfl rfl) rfl ?_
              refine n_y rfl (y_mv rfl) rfl ?_
              refine n_no rfl rfl ?_
              refine n_no rfl rfl ?_
              refine n_no rfl rfl ?_
              refine n_no rfl rfl ?_
              refine n_no rfl rfl ?_
              refine n_no rfl rfl ?_
              refine n_no rfl rfl ?_
              refine n_no rfl rfl ?_
              refine n_y rfl (y_pt rfl rfl) rfl ?_
              refine n_y rfl (y_as rfl) rfl ?_
              refine n_nil ?_
              refine th_n ?_
              refine k_condt rfl ?_
              refine k_seq ?_
              refine k_region ?_
              refine n_y rfl (y_bd rfl rfl) rfl ?_
              refine n_op rfl (o_stv rfl rfl rfl rfl ?_)
              refine n_y rfl (y_as rfl) rfl ?_
              refine n_nil ?_
              refine th_n ?_
              refine k_ret ?_
              refine bl_r ?_
              refine th_r ?_
              refine k_retn rfl (rs_c (r_lda rfl rfl) (rs_t rfl (rs_nil))) (hB8) (⟨zMsg, _, _, _, 23, rfl, hz, rfl, .inl ⟨by decide, by rw [checkE_ok hrd, if_pos (.inr (.inr (.inr (.inr (.inl c45)))))], rfl⟩⟩)
            · skip
              refine n_y rfl (y_pf rfl rfl) rfl ?_
              refine n_y rfl (y_mv rfl) rfl ?_
              refine n_y rfl (y_fa rfl) rfl ?_
              refine n_y rfl (y_ld rfl rfl) rfl ?_
              refine n_y rfl (y_len rfl) rfl ?_
              refine n_y rfl (y_fa rfl) rfl ?_
              refine n_y rfl (y_ld rfl rfl) rfl ?_
              refine n_y rfl (y_len rfl) rfl ?_
              refine n_y rfl (y_add rfl rfl (by omega)) rfl ?_
              refine n_y rfl (y_gt rfl rfl) rfl ?_
              refine k_dec (fun c55 => ?_) (fun c55 => ?_)
              · skip
                refine n_y rfl (y_pf rfl rfl) rfl ?_
                refine n_y rfl (y_as rfl) rfl ?_
                refine n_nil ?_
                refine th_n ?_
                refine k_condt rfl ?_
                refine k_seq ?_
                refine k_region ?_
                refine n_y rfl (y_bd rfl rfl) rfl ?_
                refine n_op rfl (o_stv rfl rfl rfl rfl ?_)
                refine n_y rfl (y_as rfl) rfl ?_
                refine n_nil ?_
                refine th_n ?_
                refine k_ret ?_
                refine bl_r ?_
                refine th_r ?_
                refine k_retn rfl (rs_c (r_lda rfl rfl) (rs_t rfl (rs_nil))) (hB8) (⟨zMsg, _, _, _, 23, rfl, hz, rfl, .inl ⟨by decide, by rw [checkE_ok hrd, if_pos (.inr (.inr (.inr (.inr (.inr (by omega))))))], rfl⟩⟩)
              · skip
                refine n_y rfl (y_pf rfl rfl) rfl ?_
                refine n_y rfl (y_as rfl) rfl ?_
                refine n_nil ?_
                refine th_n ?_
                refine k_condf rfl ?_
                refine k_seq ?_
                refine k_region ?_
                refine n_y rfl (y_fa rfl) rfl ?_
                refine n_y rfl (y_ld rfl rfl) rfl ?_
                refine n_y rfl (y_len rfl) rfl ?_
                refine n_y rfl (y_gt rfl rfl) rfl ?_
                refine n_y rfl (y_as rfl) rfl ?_
                refine n_nil ?_
                refine th_n ?_
                refine k_cond rfl (fun c58 => ?_) (fun c58 => ?_)
                · skip
                  refine k_seq ?_
                  refine k_region ?_
                  refine n_y rfl (y_bd rfl rfl) rfl ?_
                  refine n_op rfl (o_stv rfl rfl rfl rfl ?_)
                  refine n_y rfl (y_as rfl) rfl ?_
                  refine n_nil ?_
                  refine th_n ?_
                  refine k_ret ?_
                  refine bl_r ?_
                  refine th_r ?_
                  refine k_retn rfl (rs_c (r_lda rfl rfl) (rs_t rfl (rs_nil))) (hB8) (⟨zMsg, _, _, _, 2, rfl, hz, rfl, .inl ⟨by decide, by rw [checkE_ok hrd, if_neg (fun h => by rcases h with h | h | h | h | h | h <;> first | omega | exact c45 h), if_pos (by omega)], rfl⟩⟩)
                · skip
                  refine k_skip ?_
                  refine bl_n ?_
                  refine th_n ?_
                  refine k_seq ?_
                  refine k_region ?_
                  refine n_y rfl (y_lda rfl rfl) rfl ?_
                  refine n_op rfl (o_stv rfl rfl rfl rfl ?_)
                  refine n_y rfl (y_as rfl) rfl ?_
                  refine n_nil ?_
                  refine th_n ?_
                  refine k_ret ?_
                  refine k_retn rfl (rs_c (r_lda rfl rfl) (rs_t rfl (rs_nil))) (hB8) (⟨m8, _, _, _, 0, rfl, hm8, rfl, .inr ⟨rfl, by rw [checkE_ok hrd, if_neg (fun h => by rcases h with h | h | h | h | h | h <;> first | omega | exact c45 h), if_neg (by omega)]⟩⟩)
theorem T_book_Entry (B : PH) (who num : Int) (tv : Value) (text : List UInt8) (ht : IsB B tv text) (hn : text.length < 4611686018427387904) : Tri Try.prog F_book_Entry [.int .i64 who, .int .i64 num, tv] B [] fun v B' L' => ∃ bv e, v = .tuple #[bv, .int .i64 e] ∧ L' = [] ∧ ((∃ x, entryE who num text = .ok x ∧ e = 0 ∧ IsB B' bv x) ∨ (entryE who num text = .error e ∧ e ≠ 0 ∧ bv = .slice none 0 0)) := by
  haveI := ht.one
  have hM : IsM B (eM who num text) tv (.slice none 0 0) (.slice none 0 0) := ⟨ht, prd.nil _, [], rfl, prd.nil _, fun i u x hu => by simp at hu⟩
  have hsm : Small (eM who num text) := ⟨hn, fun x hx => by cases hx⟩
  refine tri_of fn_book_Entry rfl nt_book_Entry rfl fun W0 R => ?_
  simp only [argEnv, List.nil_append, List.cons_append]
  refine k_seq ?_
  refine k_region ?_
  refine n_y rfl (y_as rfl) rfl ?_
  refine n_y rfl (y_as rfl) rfl ?_
  refine n_nil ?_
  refine th_n ?_
  refine k_seq ?_
  refine k_region ?_
  refine n_y rfl (y_mv rfl) rfl ?_
  refine n_y rfl (y_mv rfl) rfl ?_
  refine n_y rfl (y_mv rfl) rfl ?_
  refine n_y rfl (y_bd rfl rfl) rfl ?_
  refine n_op rfl (o_call rfl (T_pack_Write _ (eM who num text) _ _ _ hM hsm) rfl ?_)
  rintro v17 B17 L17 hB17 ⟨bv, rfl, hw, hz, rfl⟩
  try conv => arg 7; dsimp only [List.nil_append, List.cons_append]
  haveI : OneC bv := by
    by_cases h : checkM (eM who num text) = 0
    · exact (hw h).one
    · rw [hz h]; exact ⟨rfl⟩
  refine n_y rfl (y_mv rfl) rfl ?_
  refine n_y rfl (y_ex0 rfl) rfl ?_
  refine n_y rfl (y_ex1 rfl) rfl ?_
  refine n_y rfl (y_as rfl) rfl ?_
  refine n_y rfl (y_as rfl) rfl ?_
  refine n_nil ?_
  refine th_n ?_
  refine k_seq ?_
  refine k_seq ?_
  refine k_region ?_
  refine n_y rfl (y_mv rfl) rfl ?_
  refine n_y rfl (y_ne rfl rfl) rfl ?_
  refine n_nil ?_
  refine th_n ?_
  refine k_cond rfl (fun c21 => ?_) (fun c21 => ?_)
  · skip
    refine k_seq ?_
    refine k_region ?_
    refine n_y rfl (y_mv rfl) rfl ?_
    refine n_y rfl (y_as rfl) rfl ?_
    refine n_y rfl (y_as rfl) rfl ?_
    refine n_nil ?_
    refine th_n ?_
    refine k_ret ?_
    refine th_r ?_
    refine k_retn rfl (rs_t rfl (rs_t rfl (rs_nil))) (hB17) (⟨_, _, rfl, rfl, .inr ⟨by rw [entryE, if_pos c21], c21, rfl⟩⟩)
  · skip
    have hck : checkM (eM who num text) = 0 := Decidable.not_not.1 c21
    have hwl := outM_length hck (fieldsM (eM who num text)).length
    rw [outM_all] at hwl
    replace hw := hw hck
    refine k_skip ?_
    refine th_n ?_
    refine k_seq ?_
    refine k_seq ?_
    refine k_region ?_
    refine n_y rfl (y_mv rfl) rfl ?_
    refine n_op rfl (o_call rfl (T_book_Check _ bv _ hw (by omega)) rfl ?_)
    rintro v25 B25 L25 hB25 ⟨m25, dv25, iv25, lv25, e25, rfl, hm25, rfl, hc25⟩
    try conv => arg 7; dsimp only [List.nil_append, List.cons_append]
    replace hw := hw.mono hB25
    haveI := hm25.data.one
    haveI := hm25.ids.one
    haveI := hm25.list.one
    refine n_y rfl (y_mv rfl) rfl ?_
    refine n_y rfl (y_ex0 rfl) rfl ?_
    refine n_y rfl (y_ex1 rfl) rfl ?_
    refine n_op rfl (o_al rfl fun b10 => ?_)
    refine n_op rfl (o_stv rfl rfl rfl rfl ?_)
    refine n_y rfl (y_as rfl) rfl ?_
    refine n_nil ?_
    refine th_n ?_
    refine k_seq ?_
    refine k_region ?_
    refine n_y rfl (y_mv rfl) rfl ?_
    refine n_y rfl (y_ne rfl rfl) rfl ?_
    refine n_nil ?_
    refine th_n ?_
    refine k_cond rfl (fun c29 => ?_) (fun c29 => ?_)
    · skip
      refine k_seq ?_
      refine k_region ?_
      refine n_y rfl (y_mv rfl) rfl ?_
      refine n_y rfl (y_as rfl) rfl ?_
      refine n_y rfl (y_as rfl) rfl ?_
      refine n_nil ?_
      refine th_n ?_
      refine k_ret ?_
      refine th_r ?_
      refine k_retn rfl (rs_t rfl (rs_t rfl (rs_nil))) (PH.le_trans (hB17) hB25) (⟨_, _, rfl, rfl, .inr ⟨by rcases hc25 with h | h; rw [entryE, if_neg c21, h.2.1]; exact absurd h.1 c29, c29, rfl⟩⟩)
    · skip
      refine k_skip ?_
      refine th_n ?_
      refine k_seq ?_
      refine k_region ?_
      refine n_y rfl (y_mv rfl) rfl ?_
      refine n_y rfl (y_as rfl) rfl ?_
      refine n_y rfl (y_as rfl) rfl ?_
      refine n_nil ?_
      refine th_n ?_
      refine k_ret ?_
      refine k_retn rfl (rs_t rfl (rs_t rfl (rs_nil))) (PH.le_trans (hB17) hB25) (⟨bv, 0, rfl, rfl, .inl ⟨_, by rcases hc25 with h | h; exact absurd (Decidable.not_not.1 c29) h.1; rw [entryE, if_neg c21, h.2], rfl, hw⟩⟩)
theorem T_book_Join (B : PH) (lv : Value) (xs : List (List UInt8)) (hl : IsBB B lv xs) (hn : ∀ x ∈ xs, x.length < 4611686018427387904) : Tri Try.prog F_book_Join [lv] B [] fun v B' L' => ∃ bv e, v = .tuple #[bv, .int .i64 e] ∧ L' = [] ∧ ((∃ x, joinB xs = .ok x ∧ e = 0 ∧ IsB B' bv x) ∨ (joinB xs = .error e ∧ e ≠ 0 ∧ bv = .slice none 0 0)) := by
  haveI := hl.one
  obtain ⟨la, lc, rfl⟩ := hl.form
  have hM : IsM B (jM xs) (.slice none 0 0) (.slice none 0 0) (.slice la xs.length lc) := ⟨isB_nil _, prd.nil _, hl⟩
  have hsm : Small (jM xs) := ⟨by show 0 < _; decide, hn⟩
  refine tri_of fn_book_Join rfl nt_book_Join rfl fun W0 R => ?_
  simp only [argEnv, List.nil_append, List.cons_append]
  refine k_seq ?_
  refine k_region ?_
  refine n_y rfl (y_as rfl) rfl ?_
  refine n_y rfl (y_as rfl) rfl ?_
  refine n_nil ?_
  refine th_n ?_
  refine k_seq ?_
  refine k_seq ?_
  refine k_region ?_
  refine n_y rfl (y_mv rfl) rfl ?_
  refine n_y rfl (y_len rfl) rfl ?_
  refine n_y rfl (y_gt rfl rfl) rfl ?_
  refine n_nil ?_
  refine th_n ?_
  refine k_cond rfl (fun c6 => ?_) (fun c6 => ?_)
  · skip
    refine k_seq ?_
    refine k_region ?_
    refine n_y rfl (y_as rfl) rfl ?_
    refine n_y rfl (y_as rfl) rfl ?_
    refine n_nil ?_
    refine th_n ?_
    refine k_ret ?_
    refine th_r ?_
    refine k_retn rfl (rs_t rfl (rs_t rfl (rs_nil))) (PH.le_refl _) (⟨_, _, rfl, rfl, .inr ⟨by rw [joinB, if_pos (by omega)], by decide, rfl⟩⟩)
  · skip
    refine k_skip ?_
    refine th_n ?_
    refine k_seq ?_
    refine k_region ?_
    refine n_y rfl (y_mv rfl) rfl ?_
    refine n_y rfl (y_bd rfl rfl) rfl ?_
    refine n_op rfl (o_call rfl (T_pack_Write _ (jM xs) _ _ _ hM hsm) rfl ?_)
    rintro v9 B9 L9 hB9 ⟨bv, rfl, hw, hz, rfl⟩
    try conv => arg 7; dsimp only [List.nil_append, List.cons_append]
    haveI : OneC bv := by
      by_cases h : checkM (jM xs) = 0
      · exact (hw h).one
      · rw [hz h]; exact ⟨rfl⟩
    refine n_y rfl (y_ex0 rfl) rfl ?_
    refine n_y rfl (y_ex1 rfl) rfl ?_
    refine n_y rfl (y_as rfl) rfl ?_
    refine n_y rfl (y_as rfl) rfl ?_
    refine n_nil ?_
    refine th_n ?_
    refine k_ret ?_
    refine k_retn rfl (rs_t rfl (rs_t rfl (rs_nil))) (hB9) (⟨bv, checkM (jM xs), rfl, rfl, by
      by_cases h : checkM (jM xs) = 0
      · exact .inl ⟨_, by rw [joinB, if_neg (by omega), if_neg (fun h2 => h2 h)], h, hw h⟩
      · exact .inr ⟨by rw [joinB, if_neg (by omega), if_pos h], h, hz h⟩⟩)
theorem T_book_Split (B : PH) (bv : Value) (b : List UInt8) (hb : IsB B bv b) (hn : b.length < 1099511627776) : Tri Try.prog F_book_Split [bv] B [] fun v B' L' => ∃ b3 b4 m dv iv lv e, v = .func (.func F_book_Split_1) #[] #[.pointer (some ⟨b4, 0, none⟩), .pointer (some ⟨b3, 0, none⟩)] ∧ L' = [] ∧ prow B' b3 0 (flat (mS m dv iv lv)) ∧ IsM B' m dv iv lv ∧ pcell B' b4 0 (.int .i64 e) ∧ splitB b = splitM e m ∧ m.list.length ≤ 64 := by
  haveI := hb.one
  refine tri_of fn_book_Split rfl nt_book_Split rfl fun W0 R => ?_
  simp only [argEnv, List.nil_append, List.cons_append]
  refine k_seq ?_
  refine k_region ?_
  refine n_y rfl (y_as rfl) rfl ?_
  refine n_nil ?_
  refine th_n ?_
  refine k_seq ?_
  refine k_region ?_
  refine n_y rfl (y_mv rfl) rfl ?_
  refine n_op rfl (o_call rfl (T_pack_Read _ bv b hb hn) rfl ?_)
  rintro v7 B7 L7 hB7 ⟨rfl, h7⟩
  try conv => arg 7; dsimp only [List.nil_append, List.cons_append]
  obtain ⟨m7, dv7, iv7, lv7, e7, rfl, hm7, hr7⟩ := read_form h7
  haveI := hm7.data.one
  haveI := hm7.ids.one
  haveI := hm7.list.one
  refine n_y rfl (y_mv rfl) rfl ?_
  refine n_y rfl (y_ex0 rfl) rfl ?_
  refine n_y rfl (y_ex1 rfl) rfl ?_
  refine n_op rfl (o_al rfl fun b3 => ?_)
  refine n_op rfl (o_al rfl fun b4 => ?_)
  refine n_op rfl (o_stv rfl rfl rfl rfl ?_)
  refine k_frz b3 fun B3 hB3 hr3 => ?_
  replace hm7 := hm7.mono hB3
  refine n_op rfl (o_stv rfl rfl rfl rfl ?_)
  refine k_frz b4 fun B4 hB4 hr4 => ?_
  replace hm7 := hm7.mono hB4
  replace hr3 := hr3.mono hB4
  refine n_nil ?_
  refine th_n ?_
  refine k_seq ?_
  refine k_region ?_
  refine n_y rfl (y_mf rfl rfl) rfl ?_
  refine n_y rfl (y_as rfl) rfl ?_
  refine n_nil ?_
  refine th_n ?_
  refine k_ret ?_
  refine k_retn rfl (rs_t rfl (rs_nil)) (PH.le_trans (PH.le_trans (hB7) hB3) hB4) (⟨b3, b4, m7, dv7, iv7, lv7, e7, rfl, rfl, hr3, hm7, hr4.cell (i := 0) rfl, by
    rcases hr7 with h | h
    · exact ⟨by rw [splitB, h.2.1, splitM, if_pos (.inl h.1)], by rw [h.2.2]; simp [zMsg]⟩
    · exact ⟨by rw [splitB, h.2, h.1], (msgBd (readM_ok h.2)).list⟩⟩)
theorem IA_book_Split (B : PH) (b3 b4 : Nat) (m : Msg) (dv iv lv : Value) (e : Int) (h3 : prow B b3 0 (flat (mS m dv iv lv))) (hm : IsM B m dv iv lv) (h4 : pcell B b4 0 (.int .i64 e)) (hbl : m.list.length < 4611686018427387904) :
    IterA Try.prog F_book_Split_1 [.pointer (some ⟨b4, 0, none⟩), .pointer (some ⟨b3, 0, none⟩)] B [] (splitM e m).length fun i B vs => ∃ x xv, (splitM e m)[i]? = some x ∧ vs = [.int .i64 (i : Int), xv] ∧ IsB B xv x := by
  intro l J Z B hB hJm hZm hy A0 hJ0
  replace h3 := h3.mono hB
  replace h4 := h4.mono hB
  replace hm := hm.mono hB
  obtain ⟨us, hul, ⟨la, lc, rfl, hlc, hlr⟩, hus⟩ := hm.list
  refine tri_of fn_book_Split_1 rfl nt_book_Split_1 rfl fun W0 R => ?_
  simp only [argEnv, List.nil_append, List.cons_append]
  refine k_seq ?_
  refine k_seq ?_
  refine k_region ?_
  refine n_y rfl (y_ldp rfl h4) rfl ?_
  refine n_y rfl (y_ne rfl rfl) rfl ?_
  refine k_dec (fun c7 => ?_) (fun c7 => ?_)
  · skip
    refine n_y rfl (y_mv rfl) rfl ?_
    refine n_no rfl rfl ?_
    refine n_no rfl rfl ?_
    refine n_no rfl rfl ?_
    refine n_y rfl (y_pt rfl rfl) rfl ?_
    refine n_y rfl (y_mv rfl) rfl ?_
    refine n_no rfl rfl ?_
    refine n_no rfl rfl ?_
    refine n_no rfl rfl ?_
    refine n_no rfl rfl ?_
    refine n_y rfl (y_pt rfl rfl) rfl ?_
    refine n_nil ?_
    refine th_n ?_
    refine k_condt rfl ?_
    refine k_ret ?_
    refine th_r ?_
    refine k_retn rfl (rs_nil) (PH.le_refl _) (⟨A0, rfl, .inl (by rw [splitM, if_pos (.inl c7)]; exact hJ0)⟩)
  · skip
    refine n_y rfl (y_mv rfl) rfl ?_
    refine n_y rfl (y_fa rfl) rfl ?_
    refine n_y rfl (y_ldp rfl (h3.cell (i := 0) rfl)) rfl ?_
    refine n_y rfl (y_ne rfl rfl) rfl ?_
    refine k_dec (fun c11 => ?_) (fun c11 => ?_)
    · skip
      refine n_y rfl (y_pf rfl rfl) rfl ?_
      refine n_y rfl (y_mv rfl) rfl ?_
      refine n_no rfl rfl ?_
      refine n_no rfl rfl ?_
      refine n_no rfl rfl ?_
      refine n_no rfl rfl ?_
      refine n_y rfl (y_pt rfl rfl) rfl ?_
      refine n_nil ?_
      refine th_n ?_
      refine k_condt rfl ?_
      refine k_ret ?_
      refine th_r ?_
      refine k_retn rfl (rs_nil) (PH.le_refl _) (⟨A0, rfl, .inl (by rw [splitM, if_pos (.inr (.inl (by omega)))]; exact hJ0)⟩)
    · skip
      refine n_y rfl (y_pf rfl rfl) rfl ?_
      refine n_y rfl (y_mv rfl) rfl ?_
      refine n_y rfl (y_fa rfl) rfl ?_
      refine n_y rfl (y_ldp rfl (mS_cell h3).2.2) rfl ?_
      refine n_y rfl (y_len rfl) rfl ?_
      refine n_y rfl (y_gt rfl rfl) rfl ?_
      refine k_dec (fun c17 => ?_) (fun c17 => ?_)
      · skip
        refine n_y rfl (y_pf rfl rfl) rfl ?_
        refine n_nil ?_
        refine th_n ?_
        refine k_condt rfl ?_
        refine k_ret ?_
        refine th_r ?_
        refine k_retn rfl (rs_nil) (PH.le_refl _) (⟨A0, rfl, .inl (by rw [splitM, if_pos (.inr (.inr (by omega)))]; exact hJ0)⟩)
      · skip
        refine n_y rfl (y_pf rfl rfl) rfl ?_
        refine n_nil ?_
        refine th_n ?_
        refine k_condf rfl ?_
        refine k_skip ?_
        refine th_n ?_
        refine k_seq ?_
        refine k_region ?_
        have hsp : splitM e m = m.list := by rw [splitM, if_neg]; rintro (h | h | h) <;> first | exact c7 h | omega
        rw [hsp] at hy ⊢
        refine n_y rfl (y_fa rfl) rfl ?_
        refine n_y rfl (y_ldp rfl (mS_cell h3).2.2) rfl ?_
        refine n_y rfl (y_len rfl) rfl ?_
        refine n_y rfl (y_mv rfl) rfl ?_
        refine n_nil ?_
        refine th_n ?_
        refine k_block ?_
        refine k_loop2 (α := Nat × PH × Asrt) [4, 5, 22, 23, 24, 25, 26, 27, 28, 29, 30, 31, 32] (fun z9 => z9.1 ≤ m.list.length ∧ B.le z9.2.1 ∧ J z9.1 z9.2.1 z9.2.2) (fun z9 => [(22, .int .i64 (z9.1 : Int))]) (fun z9 => z9.2.1) (fun z9 => [z9.2.2]) (fun z9 => m.list.length - z9.1) (0, B, A0) ⟨Nat.zero_le _, PH.le_refl _, hJ0⟩ rfl ⟨rfl, trivial⟩ [A0] rfl ?_
        rintro ⟨k, Bk, A⟩ ⟨hk, hBk, hJk⟩
        dsimp only at hk hBk hJk
        try conv => arg 7; dsimp only [List.nil_append, List.cons_append]
        try conv => arg 6; dsimp only
        try conv => arg 4; dsimp only [List.nil_append, List.cons_append]
        replace h3 := h3.mono hBk
        replace h4 := h4.mono hBk
        replace hm := hm.mono hBk
        refine k_seq ?_
        refine k_region ?_
        refine n_y rfl (y_lt rfl rfl) rfl ?_
        refine n_nil ?_
        refine th_n ?_
        refine k_seq ?_
        refine k_cond rfl (fun c23 => ?_) (fun c23 => ?_)
        · skip
          have hk' : k < m.list.length := by omega
          obtain ⟨x, hx⟩ : ∃ x, m.list[k]? = some x := ⟨_, List.getElem?_eq_getElem hk'⟩
          obtain ⟨u, huk⟩ : ∃ u, us[k]? = some u := ⟨_, List.getElem?_eq_getElem (by omega)⟩
          obtain ⟨qb, qo, rfl, hqr⟩ := hlr (by intro e; rw [e] at hul; simp at hul; omega)
          have hux := hus k u x huk hx
          haveI := hux.one
          refine k_skip ?_
          refine th_n ?_
          refine k_seq ?_
          refine k_block ?_
          refine k_seq ?_
          refine k_region ?_
          refine n_y rfl (y_mv rfl) rfl ?_
          refine n_y rfl (y_ia rfl rfl _ rfl (by omega)) rfl ?_
          refine n_y rfl (y_ldi (i := k) rfl (hqr.mono hBk) (by omega) huk) rfl ?_
          refine n_y rfl (y_as rfl) rfl ?_
          refine n_y rfl (y_as rfl) rfl ?_
          refine n_nil ?_
          refine th_n ?_
          refine k_seq ?_
          refine k_region ?_
          refine n_y rfl (y_mv rfl) rfl ?_
          refine n_y rfl (y_mv rfl) rfl ?_
          refine n_y rfl (y_mv rfl) rfl ?_
          refine n_op rfl (o_yield rfl rfl (hy k _ Bk A hk' hBk ⟨x, u, hx, rfl, hux.mono hBk⟩ hJk) rfl ?_)
          rintro ok30 B30 L30 hB30 ⟨A30, rfl, hok30⟩
          try conv => arg 7; dsimp only [List.nil_append, List.cons_append]
          replace h3 := h3.mono hB30
          replace h4 := h4.mono hB30
          replace hm := hm.mono hB30
          rcases hok30 with ⟨rfl, hJ30⟩ | ⟨rfl, hZ30⟩
          · skip
            refine n_y rfl (y_notb rfl) rfl ?_
            refine n_nil ?_
            refine th_n ?_
            refine k_condf rfl ?_
            refine k_skip ?_
            refine bl_n ?_
            refine th_n ?_
            refine k_region ?_
            refine n_y rfl (y_add rfl rfl (by omega)) rfl ?_
            refine n_y rfl (y_mv rfl) rfl ?_
            refine n_nil ?_
            refine th_n ?_
            exact k_again2 (k + 1, B30, A30) ⟨⟨by dsimp only; omega, PH.le_trans hBk hB30, hJ30⟩, by dsimp only; omega⟩ rfl ⟨rfl, trivial⟩ rfl
          · skip
            refine n_y rfl (y_notb rfl) rfl ?_
            refine n_nil ?_
            refine th_n ?_
            refine k_condt rfl ?_
            refine k_ret ?_
            refine bl_r ?_
            refine th_r ?_
            refine th_r ?_
            refine bl_r ?_
            refine k_retn rfl (rs_nil) (PH.le_trans (hBk) hB30) (⟨A30, rfl, .inr hZ30⟩)
        · skip
          obtain rfl : k = m.list.length := by omega
          refine k_exit ?_
          refine th_x ?_
          refine th_x ?_
          refine bl_s ?_
          refine k_retf ?_
          refine k_retn rfl (rs_nil) (hBk) (⟨A, rfl, .inl hJk⟩)
theorem T_book_New (B : PH) : Tri Try.prog F_book_New [] B [] fun v B' L' => ∃ b, v = .pointer (some ⟨b, 0, none⟩) ∧ B' = B ∧ L' = [bookA b zBk []] := by
  refine tri_of fn_book_New rfl nt_book_New rfl fun W0 R => ?_
  simp only [argEnv, List.nil_append, List.cons_append]
  refine k_seq ?_
  refine k_region ?_
  refine n_y rfl (y_as rfl) rfl ?_
  refine n_nil ?_
  refine th_n ?_
  refine k_seq ?_
  refine k_region ?_
  refine n_op rfl (o_mkm vPair rfl fun b1 => ?_)
  refine n_op rfl (o_call rfl (T_tree_Of _ (.slice none 0 0) [] (prd.nil _) (by simp)) rfl ?_)
  rintro v2 B2 L2 hB2 ⟨b2, rfl, rfl, rfl⟩
  try conv => arg 7; dsimp only [List.nil_append, List.cons_append]
  refine n_y rfl (y_bd rfl rfl) rfl ?_
  refine n_op rfl (o_bx rfl rfl fun b4 => ?_)
  rw [show addsT (0, []) [] = (0, []) from rfl]
  refine k_ownil 29 1 ?_
  refine k_ownil 114 34 ?_
  refine k_bkC0 b4 b1 b2 ?_
  refine n_y rfl (y_as rfl) rfl ?_
  refine n_nil ?_
  refine th_n ?_
  refine k_ret ?_
  refine k_retn rfl (rs_t rfl (rs_nil)) (PH.le_refl _) (⟨b4, rfl, rfl, rfl⟩)
theorem T_book_Book_Size (B : PH) (bb : Nat) (k : Bk) (us : List Value) : Tri Try.prog F_book_Book_Size [.pointer (some ⟨bb, 0, none⟩)] B [bookA bb k us] fun v B' L' => v = .int .i64 (k.list.length : Int) ∧ B' = B ∧ L' = [bookA bb k us] := by
  refine tri_of fn_book_Book_Size rfl nt_book_Book_Size rfl fun W0 R => ?_
  simp only [argEnv, List.nil_append, List.cons_append]
  refine k_seq ?_
  refine k_region ?_
  refine n_y rfl (y_as rfl) rfl ?_
  refine n_nil ?_
  refine th_n ?_
  refine k_seq ?_
  refine k_region ?_
  refine k_bkO bb k us fun la lc mb tb ha hc hul hu1 => ?_
  refine n_y rfl (y_mv rfl) rfl ?_
  refine n_y rfl (y_nil rfl) rfl ?_
  refine n_y rfl (y_fa rfl) rfl ?_
  refine n_y rfl (y_ld rfl rfl) rfl ?_
  refine n_y rfl (y_len rfl) rfl ?_
  refine n_y rfl (y_as rfl) rfl ?_
  refine n_nil ?_
  refine th_n ?_
  refine k_ret ?_
  refine k_bkC bb k us (.slice la k.list.length lc) (.slice ha k.heads.length hc) mb tb ?_
  refine k_retn rfl (rs_t rfl (rs_nil)) (PH.le_refl _) (⟨rfl, rfl, rfl⟩)
theorem T_book_Book_Find (B : PH) (bb : Nat) (k : Bk) (us : List Value) (who num : Int) : Tri Try.prog F_book_Book_Find [.pointer (some ⟨bb, 0, none⟩), .int .i64 who, .int .i64 num] B [bookA bb k us] fun v B' L' => v = .tuple #[.int .i64 ((mget k.whr (who, num)).getD 0), .int .i64 (if (mget k.whr (who, num)).isSome then 0 else 4)] ∧ B' = B ∧ L' = [bookA bb k us] := by
  refine tri_of fn_book_Book_Find rfl nt_book_Book_Find rfl fun W0 R => ?_
  simp only [argEnv, List.nil_append, List.cons_append]
  refine k_seq ?_
  refine k_region ?_
  refine n_y rfl (y_as rfl) rfl ?_
  refine n_y rfl (y_as rfl) rfl ?_
  refine n_nil ?_
  refine th_n ?_
  refine k_seq ?_
  refine k_region ?_
  refine k_bkO bb k us fun la lc mb tb ha hc hul hu1 => ?_
  refine n_y rfl (y_mv rfl) rfl ?_
  refine n_y rfl (y_nil rfl) rfl ?_
  refine n_y rfl (y_fa rfl) rfl ?_
  refine n_y rfl (y_ld rfl rfl) rfl ?_
  refine n_y rfl (y_mv rfl) rfl ?_
  refine n_y rfl (y_mv rfl) rfl ?_
  refine n_y rfl (y_bd rfl rfl) rfl ?_
  refine n_y rfl (y_lkok rfl (who, num) rfl) rfl ?_
  rw [mget_map (fun i : Int => Value.int .i64 i), Option.isSome_map, show ((mget k.whr (who, num)).map fun i : Int => Value.int .i64 i).getD (.int .i64 0) = .int .i64 ((mget k.whr (who, num)).getD 0) by cases mget k.whr (who, num) <;> rfl]
  refine n_y rfl (y_mv rfl) rfl ?_
  refine n_y rfl (y_ex0 rfl) rfl ?_
  refine n_y rfl (y_ex1 rfl) rfl ?_
  refine n_y rfl (y_as rfl) rfl ?_
  refine n_y rfl (y_as rfl) rfl ?_
  refine n_nil ?_
  refine th_n ?_
  refine k_seq ?_
  refine k_seq ?_
  refine k_region ?_
  refine n_y rfl (y_mv rfl) rfl ?_
  refine n_y rfl (y_notb rfl) rfl ?_
  refine n_nil ?_
  refine th_n ?_
  refine k_condb rfl (fun c22 => ?_) (fun c22 => ?_)
  · skip
    refine k_seq ?_
    refine k_region ?_
    refine n_y rfl (y_as rfl) rfl ?_
    refine n_y rfl (y_as rfl) rfl ?_
    refine n_nil ?_
    refine th_n ?_
    refine k_ret ?_
    refine th_r ?_
    refine k_bkC bb k us (.slice la k.list.length lc) (.slice ha k.heads.length hc) mb tb ?_
    have hn : mget k.whr (who, num) = none := by cases h : mget k.whr (who, num) with
      | none => rfl
      | some i => rw [h] at c22; cases c22
    refine k_retn rfl (rs_t rfl (rs_t rfl (rs_nil))) (PH.le_refl _) (⟨by rw [hn]; rfl, rfl, rfl⟩)
  · skip
    refine k_skip ?_
    refine th_n ?_
    refine k_seq ?_
    refine k_region ?_
    refine n_y rfl (y_mv rfl) rfl ?_
    refine n_y rfl (y_as rfl) rfl ?_
    refine n_y rfl (y_as rfl) rfl ?_
    refine n_nil ?_
    refine th_n ?_
    refine k_ret ?_
    refine k_bkC bb k us (.slice la k.list.length lc) (.slice ha k.heads.length hc) mb tb ?_
    have hn : (mget k.whr (who, num)).isSome = true := by cases h : mget k.whr (who, num) with
      | none => rw [h] at c22; cases c22
      | some i => rfl
    refine k_retn rfl (rs_t rfl (rs_t rfl (rs_nil))) (PH.le_refl _) (⟨by rw [if_pos hn]; rfl, rfl, rfl⟩)
theorem T_book_Book_At (B : PH) (bb : Nat) (k : Bk) (us : List Value) (i : Int) (hus : IsBs B us k.list) (hx : ∀ x ∈ k.list, x.length ≤ 131072) : Tri Try.prog F_book_Book_At [.pointer (some ⟨bb, 0, none⟩), .int .i64 i] B [bookA bb k us] fun v B' L' => ∃ bv, L' = [bookA bb k us] ∧ ((∃ x, 0 ≤ i ∧ k.list[i.toNat]? = some x ∧ v = .tuple #[bv, .int .i64 0] ∧ IsB B' bv x) ∨ ((i < 0 ∨ k.list.length ≤ i) ∧ v = .tuple #[.slice none 0 0, .int .i64 4])) := by
  refine tri_of fn_book_Book_At rfl nt_book_Book_At rfl fun W0 R => ?_
  simp only [argEnv, List.nil_append, List.cons_append]
  refine k_seq ?_
  refine k_region ?_
  refine n_y rfl (y_as rfl) rfl ?_
  refine n_y rfl (y_as rfl) rfl ?_
  refine n_nil ?_
  refine th_n ?_
  refine k_seq ?_
  refine k_seq ?_
  refine k_region ?_
  refine k_bkO bb k us fun la lc mb tb ha hc hul hu1 => ?_
  refine n_y rfl (y_mv rfl) rfl ?_
  refine n_y rfl (y_lt rfl rfl) rfl ?_
  refine k_dec (fun c7 => ?_) (fun c7 => ?_)
  · skip
    refine n_y rfl (y_mv rfl) rfl ?_
    refine n_no rfl rfl ?_
    refine n_no rfl rfl ?_
    refine n_no rfl rfl ?_
    refine n_no rfl rfl ?_
    refine n_no rfl rfl ?_
    refine n_no rfl rfl ?_
    refine n_no rfl rfl ?_
    refine n_y rfl (y_pt rfl rfl) rfl ?_
    refine n_nil ?_
    refine th_n ?_
    refine k_condt rfl ?_
    refine k_seq ?_
    refine k_region ?_
    refine n_y rfl (y_as rfl) rfl ?_
    refine n_y rfl (y_as rfl) rfl ?_
    refine n_nil ?_
    refine th_n ?_
    refine k_ret ?_
    refine th_r ?_
    refine k_bkC bb k us (.slice la k.list.length lc) (.slice ha k.heads.length hc) mb tb ?_
    refine k_retn rfl (rs_t rfl (rs_t rfl (rs_nil))) (PH.le_refl _) (⟨.slice none 0 0, rfl, .inr ⟨by omega, rfl⟩⟩)
  · skip
    refine n_y rfl (y_mv rfl) rfl ?_
    refine n_y rfl (y_mv rfl) rfl ?_
    refine n_y rfl (y_mv rfl) rfl ?_
    refine n_y rfl (y_nil rfl) rfl ?_
    refine n_y rfl (y_fa rfl) rfl ?_
    refine n_y rfl (y_ld rfl rfl) rfl ?_
    refine n_y rfl (y_len rfl) rfl ?_
    refine n_y rfl (y_ge rfl rfl) rfl ?_
    refine k_dec (fun c15 => ?_) (fun c15 => ?_)
    · skip
      refine n_y rfl (y_pf rfl rfl) rfl ?_
      refine n_nil ?_
      refine th_n ?_
      refine k_condt rfl ?_
      refine k_seq ?_
      refine k_region ?_
      refine n_y rfl (y_as rfl) rfl ?_
      refine n_y rfl (y_as rfl) rfl ?_
      refine n_nil ?_
      refine th_n ?_
      refine k_ret ?_
      refine th_r ?_
      refine k_bkC bb k us (.slice la k.list.length lc) (.slice ha k.heads.length hc) mb tb ?_
      refine k_retn rfl (rs_t rfl (rs_t rfl (rs_nil))) (PH.le_refl _) (⟨.slice none 0 0, rfl, .inr ⟨by omega, rfl⟩⟩)
    · skip
      refine n_y rfl (y_pf rfl rfl) rfl ?_
      refine n_nil ?_
      refine th_n ?_
      refine k_condf rfl ?_
      refine k_skip ?_
      refine th_n ?_
      refine k_seq ?_
      refine k_region ?_
      obtain ⟨j, rfl⟩ : ∃ j : Nat, i = (j : Int) := ⟨i.toNat, by omega⟩
      have hj : j < k.list.length := by omega
      obtain ⟨x, hxj⟩ : ∃ x, k.list[j]? = some x := ⟨_, List.getElem?_eq_getElem hj⟩
      obtain ⟨u, huj⟩ : ∃ u, us[j]? = some u := ⟨_, List.getElem?_eq_getElem (by omega)⟩
      have hxl := hx x (List.mem_of_getElem? hxj)
      have hux := hus.get.2 j u x huj hxj
      haveI := hux.one
      refine k_owform (v := .slice la k.list.length lc) (by omega) fun qb cap hq hmc => ?_
      obtain ⟨rfl, rfl⟩ : la = some ⟨qb, 0, none⟩ ∧ lc = cap := by simpa using hq
      refine n_op rfl (o_bs rfl rfl rfl rfl rfl rfl fun b17 => ?_)
      refine k_bkow (sz := 1) b17 0 rfl ?_
      refine n_y rfl (y_mv rfl) rfl ?_
      refine n_y rfl (y_nil rfl) rfl ?_
      refine n_y rfl (y_fa rfl) rfl ?_
      refine n_y rfl (y_ld rfl rfl) rfl ?_
      refine n_y rfl (y_mv rfl) rfl ?_
      refine n_y rfl (y_ia rfl rfl j rfl (by omega)) rfl ?_
      refine n_y rfl (y_ldw (m := k.list.length) (cap := lc) (v := u) rfl (by rw [Nat.zero_add, Nat.mul_one]; exact huj)) rfl ?_
      refine n_op rfl (o_app rfl rfl rfl hux.src rfl rfl (by omega) rfl fun v25 hv25 => ?_)
      refine k_frzw (v := v25) fun B25 hB25 hd25 => ?_
      replace hd25 : IsB B25 v25 x := by simpa [IsB, flat] using hd25
      haveI := hv25
      replace hus := hus.mono hB25
      replace hux := hux.mono hB25
      refine n_y rfl (y_as rfl) rfl ?_
      refine n_y rfl (y_as rfl) rfl ?_
      refine n_nil ?_
      refine th_n ?_
      refine k_ret ?_
      refine k_bkC bb k us (.slice (some ⟨qb, 0, none⟩) k.list.length lc) (.slice ha k.heads.length hc) mb tb ?_
      refine k_retn rfl (rs_t rfl (rs_t rfl (rs_nil))) (hB25) (⟨v25, rfl, .inl ⟨x, by omega, by simpa using hxj, rfl, hd25⟩⟩)
end Go.Proofs.Ytokekdbdnonebaa
