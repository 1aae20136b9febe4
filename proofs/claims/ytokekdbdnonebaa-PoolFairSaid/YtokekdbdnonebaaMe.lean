/- Messages read: what the loop keeps. -/
import Derived.Test.YtokekdbdnonebaaMd
import Derived.Test.YtokekdbdnonebaaEngT
namespace Sc
open Go
theorem runR_len {l b r : List UInt8} (h : runR l = some (b, r)) : l.length = 3 + b.length + r.length := by
  unfold runR at h
  split at h
  · cases h
  · split at h
    · cases h
    · simp only [Option.some.injEq, Prod.mk.injEq] at h
      obtain ⟨rfl, rfl⟩ := h
      simp; omega
theorem nextF_len {last tag : UInt8} {rest b r : List UInt8} (h : nextF last rest = .item tag b r) : rest.length = 4 + b.length + r.length ∧ 0 < tag.toNat ∧ tag.toNat ≤ 9 := by
  have h9 := nextF_lt h
  unfold nextF at h
  split at h
  · cases h
  · split at h
    · cases h
    · split at h
      · cases h
      · rename_i h1 h2 _ b' r' hr
        simp only [Nx.item.injEq] at h
        obtain ⟨rfl, rfl, rfl⟩ := h
        have := runR_len hr
        simp only [List.length_drop] at this
        have h3 := UInt8.lt_iff_toNat_lt.1 h9.2.2.1
        have h4 := UInt8.le_iff_toNat_le.1 h9.2.2.2
        exact ⟨by omega, by omega, h4⟩
theorem nextF_bad {last : UInt8} {rest : List UInt8} {e : Int} (h : nextF last rest = .bad e) : e ≠ 0 := by
  unfold nextF at h
  split at h
  · cases h
  · split at h
    · simp at h; omega
    · split at h
      · simp at h; omega
      · cases h
theorem chunks_nil {b : List UInt8} (h : b.length < 32) : chunks b = [] := by rw [chunks, dif_neg (by omega)]
theorem chunks_cons {b : List UInt8} (h : 32 ≤ b.length) : chunks b = idOf (b.take 32) :: chunks (b.drop 32) := by rw [chunks, dif_pos h]
theorem chunks_length (b : List UInt8) : 32 * (chunks b).length ≤ b.length := by
  induction h : b.length using Nat.strongRecOn generalizing b with
  | _ k ih =>
    subst h
    by_cases h : 32 ≤ b.length
    · rw [chunks_cons h]
      have := ih _ (by simp; omega) (b.drop 32) rfl
      simp at this ⊢; omega
    · rw [chunks_nil (by omega)]; simp
theorem lists_length {b : List UInt8} {l : List (List UInt8)} (h : lists b = some l) : 3 * l.length ≤ b.length ∧ ∀ x ∈ l, x.length ≤ b.length := by
  induction hk : b.length using Nat.strongRecOn generalizing b l with
  | _ k ih =>
    subst hk
    by_cases h0 : b.length = 0
    · rw [lists_nil h0] at h
      simp at h; subst h; simp
    · rcases runR_cases b with hr | ⟨x, r, hr⟩
      · rw [lists_none h0 hr] at h; cases h
      · rw [lists_some h0 hr] at h
        have hl := runR_len hr
        cases hls : lists r with
        | none => rw [hls] at h; cases h
        | some l' =>
          rw [hls] at h
          simp at h; subst h
          obtain ⟨h1, h2⟩ := ih _ (by omega) hls rfl
          refine ⟨by simp; omega, fun y hy => ?_⟩
          rcases List.mem_cons.1 hy with rfl | hy
          · omega
          · have := h2 y hy; omega
theorem idOf_bs {b : List UInt8} (h : b.length = 32) : (idOf b).bs = b := by rw [idOf, dif_pos h]
/-- What is known of a message that is being read. -/
structure RdInv (rest0 : List UInt8) (m1 : Msg) (s : UInt8 × List UInt8) (m : Msg) : Prop where
  eq : readF m1 0 rest0 = readF m s.1 s.2
  bd : 32 * m.ids.length + 3 * m.list.length + s.2.length ≤ rest0.length
  data : m.data.length ≤ rest0.length
  list : ∀ x ∈ m.list, x.length ≤ rest0.length
theorem RdInv.step {rest0 : List UInt8} {m1 m m' : Msg} {s : UInt8 × List UInt8} {tag : UInt8} {b r : List UInt8} (h : RdInv rest0 m1 s m) (hn : nextF s.1 s.2 = .item tag b r) (hs : stepM m tag b = .ok m')
    (h1 : 32 * m'.ids.length + 3 * m'.list.length ≤ 32 * m.ids.length + 3 * m.list.length + b.length) (h2 : m'.data.length ≤ max m.data.length b.length) (h3 : ∀ x ∈ m'.list, x ∈ m.list ∨ x.length ≤ b.length) : RdInv rest0 m1 (tag, r) m' := by
  have hl := (nextF_len hn).1
  have hb := h.bd
  have hd := h.data
  refine ⟨?_, by dsimp only; omega, by omega, fun x hx => ?_⟩
  · rw [h.eq, readF_item hn, hs]
  · rcases h3 x hx with h4 | h4
    · exact h.list x h4
    · omega
theorem RdInv.err {rest0 : List UInt8} {m1 m : Msg} {s : UInt8 × List UInt8} {tag : UInt8} {b r : List UInt8} {e : Int} (h : RdInv rest0 m1 s m) (hn : nextF s.1 s.2 = .item tag b r) (hs : stepM m tag b = .error e) : readF m1 0 rest0 = .error e := by
  rw [h.eq, readF_item hn, hs]
theorem RdInv.bad {rest0 : List UInt8} {m1 m : Msg} {s : UInt8 × List UInt8} {e : Int} (h : RdInv rest0 m1 s m) (hn : nextF s.1 s.2 = .bad e) : readF m1 0 rest0 = .error e := by
  rw [h.eq, readF_bad hn]
theorem RdInv.done {rest0 : List UInt8} {m1 m : Msg} {s : UInt8 × List UInt8} (h : RdInv rest0 m1 s m) (hn : nextF s.1 s.2 = .done) : readF m1 0 rest0 = .ok m := by
  rw [h.eq, readF_done hn]
theorem setNum_same (m : Msg) (j : Nat) (v : Int) : (setNum m j v).ids = m.ids ∧ (setNum m j v).list = m.list ∧ (setNum m j v).data = m.data ∧ (setNum m j v).id = m.id ∧ (setNum m j v).kind = m.kind := by
  unfold setNum; split <;> exact ⟨rfl, rfl, rfl, rfl, rfl⟩
theorem step_num {m : Msg} {tag : UInt8} {b : List UInt8} (h0 : b.length ≠ 0) (ht : tag.toNat < 6) : stepM m tag b = if numBad b then .error 23 else .ok (setNum m (tag.toNat - 1) (numR b)) := by
  have h6 : tag < 6 := UInt8.lt_iff_toNat_lt.2 ht
  rw [stepM, if_neg h0, if_pos h6]
theorem u8_eq {a : UInt8} {n : Nat} (hn : n < 256) (h : a.toNat = n) : a = UInt8.ofNat n := UInt8.toNat_inj.1 (by rw [h, UInt8.toNat_ofNat_of_lt' hn])
theorem step_6 {m : Msg} {tag : UInt8} {b : List UInt8} (h0 : b.length ≠ 0) (ht : tag.toNat = 6) : stepM m tag b = if b.length ≠ 32 ∨ idOf b = zID then .error 23 else .ok { m with id := idOf b } := by
  obtain rfl := u8_eq (by decide) ht
  rw [stepM, if_neg h0, if_neg (by decide), if_pos (by decide)]
theorem step_7 {m : Msg} {tag : UInt8} {b : List UInt8} (h0 : b.length ≠ 0) (ht : tag.toNat = 7) : stepM m tag b = .ok { m with data := b } := by
  obtain rfl := u8_eq (by decide) ht
  rw [stepM, if_neg h0, if_neg (by decide), if_neg (by decide), if_pos (by decide)]
theorem step_8 {m : Msg} {tag : UInt8} {b : List UInt8} (h0 : b.length ≠ 0) (ht : tag.toNat = 8) : stepM m tag b = if b.length % 32 ≠ 0 then .error 23 else .ok { m with ids := m.ids ++ chunks b } := by
  obtain rfl := u8_eq (by decide) ht
  rw [stepM, if_neg h0, if_neg (by decide), if_neg (by decide), if_neg (by decide), if_pos (by decide)]
theorem step_9 {m : Msg} {tag : UInt8} {b : List UInt8} (h0 : b.length ≠ 0) (ht : tag.toNat = 9) : stepM m tag b = match lists b with
    | none => .error 20
    | some l => .ok { m with list := m.list ++ l } := by
  obtain rfl := u8_eq (by decide) ht
  rw [stepM, if_neg h0, if_neg (by decide), if_neg (by decide), if_neg (by decide), if_neg (by decide)]
  rfl
theorem IsBs.snoc {B : PH} : ∀ {us : List Value} {xs : List (List UInt8)} {u : Value} {x : List UInt8}, IsBs B us xs → IsB B u x → IsBs B (us ++ [u]) (xs ++ [x])
  | [], [], _, _, _, h => ⟨h, trivial⟩
  | _ :: _, _ :: _, _, _, ⟨h1, h2⟩, h => ⟨h1, IsBs.snoc h2 h⟩
theorem IsBs.mono {B B' : PH} (l : B.le B') : ∀ {us : List Value} {xs : List (List UInt8)}, IsBs B us xs → IsBs B' us xs
  | [], [], _ => trivial
  | _ :: _, _ :: _, ⟨h1, h2⟩ => ⟨h1.mono l, h2.mono l⟩
theorem IsBs.one {B : PH} : ∀ {us : List Value} {xs : List (List UInt8)}, IsBs B us xs → us.length = xs.length ∧ ∀ v ∈ us, v.oneCell' = true
  | [], [], _ => ⟨rfl, fun v hv => by cases hv⟩
  | u :: us, x :: xs, ⟨h1, h2⟩ => by
    obtain ⟨e1, e2⟩ := h2.one
    refine ⟨by simp [e1], fun v hv => ?_⟩
    rcases List.mem_cons.1 hv with rfl | hv
    · exact h1.one.out
    · exact e2 v hv
def kMsg (k : Int) : Msg := ⟨k, 0, 0, 0, 0, 0, zID, [], [], []⟩
theorem readM_of {b : List UInt8} (h0 : b.length ≠ 0) (h1 : ¬ (gB b 0).toNat < 1) (h2 : ¬ (gB b 0).toNat > 31) : readM b = (match readF (kMsg ((gB b 0).toNat : Int)) 0 (b.drop 1) with
    | .error e => .error e
    | .ok m => if checkM m ≠ 0 then .error (checkM m) else .ok m) := by
  rw [readM, if_neg h0, if_neg]
  · rfl
  rintro (h | h)
  · exact h1 (UInt8.lt_iff_toNat_lt.1 h)
  · exact h2 (UInt8.lt_iff_toNat_lt.1 h)
section
variable {P : Program} {ro : Option Nat} {Q : Exit → Act → World → Prop} {W0 : World} {n : Nat} {K : Act → World → Prop} {E : Env} {ds : List Deferred} {B : PH} {L : List Asrt}
theorem y_subU {x y : Operand} {t t' ty : TypeId} {m q : Nat} (hx : ev E x = some (.int .u8 (m : Int))) (hy : ev E y = some (.int .u8 (q : Int))) (h : q ≤ m) (hm : m < 256) : Yld P (.binOp .sub t x y t') ty E B L (.int .u8 ((m - q : Nat) : Int)) := by
  have := y_subw (P := P) (t := t) (t' := t') (ty := ty) (B := B) (L := L) hx hy
  rw [show ((m : Int) - (q : Int)) = ((m - q : Nat) : Int) by omega, wrap_u8, Nat.mod_eq_of_lt (by omega)] at this
  exact this
/-- x[i:] of bytes on the pile. -/
theorem y_dropB {l : List UInt8} {v : Value} (h : IsB B v l) (i : Nat) (hi : i ≤ l.length) (h0 : 0 < l.length) : ∃ u, IsB B u (l.drop i) ∧ OneC u ∧ ∀ {t e ty : TypeId} {x lo : Operand} {k : IntKind} {E : Env} {B' : PH} {L : List Asrt} [TyU P t (.slice e)] [TyS P e 1], ev E x = some v → ev E lo = some (.int k (i : Int)) → Yld P (.slice t x (some lo) none none) ty E B' L u := by
  obtain ⟨b, o, c, rfl, hc, hr⟩ := h.row h0
  refine ⟨_, h.drop hi, ⟨rfl⟩, fun hx hl => y_sll hx hl (i := i) rfl (by omega) rfl⟩
theorem y_takeB {l : List UInt8} {v : Value} (h : IsB B v l) (i : Nat) (hi : i ≤ l.length) (h0 : 0 < i) : ∃ b o c, IsB B (.slice (some ⟨b, o, none⟩) i c) (l.take i) ∧ prow B b o (cBs (l.take i)) ∧ ∀ {t e ty : TypeId} {x hi : Operand} {k : IntKind} {E : Env} {B' : PH} {L : List Asrt} [TyU P t (.slice e)] [TyS P e 1], ev E x = some v → ev E hi = some (.int k (i : Int)) → Yld P (.slice t x none (some hi) none) ty E B' L (.slice (some ⟨b, o, none⟩) i c) := by
  obtain ⟨b, o, c, rfl, hc, hr⟩ := h.row (by omega)
  have hm := hr.mid 0 i (by omega)
  simp only [List.drop_zero, Nat.add_zero] at hm
  exact ⟨b, o, c, isB_row hm (by simp; omega) (by simp; omega), hm, fun hx hh => y_slh hx hh rfl (by omega)⟩
/-- A number of a message, by its place. -/
theorem o_stnum {t tb b o : Nat} {m : Msg} {dv iv lv : Value} {R : List Asrt} {x z : Operand} {ty : TypeId} {pos : String} {af : Array Edge} {g : Option (Nat × Bool)} {q : Int} [TyS P t 1] [p : PickB b L tb (mS m dv iv lv) R] (j : Nat) (hx : ev E x = some (.pointer (some ⟨b, o, none⟩))) (hz : ev E z = some (.int .i64 q)) (ho : o = 1 + j) (hj : j < 5)
    (h : KGo W0 n K E ds B (bk b tb (mS (setNum m j q) dv iv lv) :: R)) : KGo W0 n (wo P ro ⟨none, .store t x z, ty, pos, af, g⟩ K Q) E ds B L := by
  subst ho
  have : j = 0 ∨ j = 1 ∨ j = 2 ∨ j = 3 ∨ j = 4 := by omega
  rcases this with rfl | rfl | rfl | rfl | rfl <;> exact o_stv hx hz rfl rfl h
end
end Sc
