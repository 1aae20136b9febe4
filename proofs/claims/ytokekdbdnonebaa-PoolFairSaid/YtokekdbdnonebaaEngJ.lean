/- Regions whose order is drawn, with operations that turn the world: one walk serves every order. -/
import Derived.Test.YtokekdbdnonebaaEngI
namespace Sc
open Go

/-- Which operations each one waits for, by way of others too, as bits. -/
def bit (T : List Nat) (i j : Nat) : Bool := Nat.testBit (T.getD i 0) j
def maskL (T : List Nat) : List Edge → Nat
  | [] => 0
  | e :: r => bif Region.binds .any e then Nat.lor (Nat.lor (Nat.shiftLeft 1 e.on) (T.getD e.on 0)) (maskL T r) else maskL T r
def segT (ops : Array Oper) (T : List Nat) : Bool := Nat.beq T.length ops.size && (List.range ops.size).all fun i => match ops[i]? with
  | some o => Nat.beq (T.getD i 0) (maskL T o.after.toList) && o.after.toList.all fun e => !Region.binds .any e || Nat.blt e.on i
  | none => false
def nodupB : List Nat → Bool
  | [] => true
  | i :: r => !(r.any fun j => Nat.beq j i) && nodupB r
/-- Is the order a good one? W: what came up, newest first. -/
def ordB (T : List Nat) : List (Nat × Bool) → List Nat → Bool
  | [], _ => true
  | (i, m) :: r, W => (!m || r.all fun p => bit T p.1 i) && (r.all fun p => !bit T i p.1) && ordB T r (i :: W)
def lookB (ops : Array Oper) (T : List Nat) : Bool :=
  (List.range ops.size).all fun p => (List.range ops.size).all fun q => match dstAt ops q with
    | some t => (!(looks ops p).contains t || Nat.beq p q || bit T p q || bit T q p) && (Nat.beq p q || !(dstAt ops p == some t))
    | none => true
def segM (ops : Array Oper) (T : List Nat) (ord : List (Nat × Bool)) : Bool :=
  Region.noSelect ops && (ops.toList.all fun o => match o.op with
    | .defer _ => false
    | _ => true) && segT ops T && nodupB (ord.map (·.1)) && ((List.range ops.size).all fun i => ord.any fun p => Nat.beq p.1 i) && ordB T ord [] && lookB ops T

section
variable {P : Program} {ro : Option Nat} {Q : Exit → Act → World → Prop} {W0 : World} {n : Nat} {K : Act → World → Prop} {E : Env} {ds : List Deferred} {B : PH} {L : List Asrt} {ops : Array Oper} {T : List Nat}

theorem bit_mask {T : List Nat} {j : Nat} : ∀ {l : List Edge}, Nat.testBit (maskL T l) j = true → ∃ e ∈ l, Region.binds .any e = true ∧ (j = e.on ∨ bit T e.on j = true)
  | [], h => by simp [maskL] at h
  | e :: r, h => by
    simp only [maskL] at h
    cases hb : Region.binds .any e with
    | false =>
      rw [hb] at h
      obtain ⟨e', h1, h2⟩ := bit_mask (l := r) h
      exact ⟨e', List.mem_cons_of_mem _ h1, h2⟩
    | true =>
      rw [hb] at h
      simp only [cond_true] at h
      have h : Nat.testBit (((1 <<< e.on) ||| (T.getD e.on 0)) ||| maskL T r) j = true := h
      rw [Nat.testBit_or, Nat.testBit_or, Bool.or_eq_true, Bool.or_eq_true] at h
      rcases h with (h | h) | h
      · rw [Nat.testBit_shiftLeft] at h
        simp only [ge_iff_le, Bool.and_eq_true, decide_eq_true_eq] at h
        refine ⟨e, List.mem_cons_self, hb, .inl ?_⟩
        obtain ⟨h1, h2⟩ := h
        cases hk : j - e.on with
        | zero => omega
        | succ k => rw [hk, Nat.testBit_succ] at h2; simp at h2
      · exact ⟨e, List.mem_cons_self, hb, .inr h⟩
      · obtain ⟨e', h1, h2⟩ := bit_mask (l := r) h
        exact ⟨e', List.mem_cons_of_mem _ h1, h2⟩
theorem segT_at {i : Nat} {o : Oper} (h : segT ops T = true) (ho : ops[i]? = some o) : T.getD i 0 = maskL T o.after.toList ∧ ∀ e ∈ o.after, Region.binds .any e = true → e.on < i := by
  have hi : i < ops.size := (Array.getElem?_eq_some_iff.1 ho).1
  simp only [segT, Bool.and_eq_true] at h
  have := List.all_eq_true.1 h.2 i (List.mem_range.2 hi)
  rw [ho] at this
  simp only [Bool.and_eq_true] at this
  refine ⟨Nat.eq_of_beq_eq_true this.1, fun e he hb => ?_⟩
  have := List.all_eq_true.1 this.2 e (by simpa using he)
  simp only [hb, Bool.not_true, Bool.false_or] at this
  exact Nat.le_of_ble_eq_true this
/-- What lies below something that may come up has come up. -/
theorem bit_down (hT : segT ops T = true) {S : Nat → Prop} (hd : ∀ j, S j → ∀ i, edge ops j i = true → S i) : ∀ j, (∀ i, edge ops j i = true → S i) → ∀ i, bit T j i = true → S i := by
  intro j
  induction j using Nat.strongRecOn with
  | _ j ih =>
    intro hj i hb
    cases ho : ops[j]? with
    | none =>
      -- no operation, no mask
      exfalso
      have hl : T.length = ops.size := by simp only [segT, Bool.and_eq_true] at hT; exact Nat.eq_of_beq_eq_true hT.1
      have : T.getD j 0 = 0 := by rw [List.getD_eq_getElem?_getD, List.getElem?_eq_none (by rw [hl]; exact Array.getElem?_eq_none_iff.1 ho)]; rfl
      have hb' : Nat.testBit (T.getD j 0) i = true := hb
      rw [this] at hb'; simp at hb'
    | some o =>
      obtain ⟨h1, h2⟩ := segT_at hT ho
      have hb' : Nat.testBit (T.getD j 0) i = true := hb
      rw [h1] at hb'
      obtain ⟨e, he, hbd, hor⟩ := bit_mask hb'
      have he' : e ∈ o.after := by simpa using he
      have hedge : edge ops j e.on = true := by
        unfold edge
        rw [ho]
        exact Array.any_eq_true'.2 ⟨e, he', by simp [hbd]⟩
      rcases hor with rfl | hor
      · exact hj _ hedge
      · exact ih e.on (h2 e he' hbd) (hd _ (hj _ hedge)) i hor

/-! ### The walk -/
/-- All of these, now. -/
def Alls (D : List (Nat × (PH → List Asrt → Prop))) (B : PH) (L : List Asrt) : Prop := match D with
  | [] => True
  | d :: D => d.2 B L ∧ Alls D B L
theorem Alls.mem {D : List (Nat × (PH → List Asrt → Prop))} {B : PH} {L : List Asrt} (h : Alls D B L) {d : Nat × (PH → List Asrt → Prop)} (hd : d ∈ D) : d.2 B L := by
  induction D with
  | nil => cases hd
  | cons e D ih =>
    rcases List.mem_cons.1 hd with rfl | h1
    · exact h.1
    · exact ih h.2 h1
/-- Those that need not have come up when operation i does. -/
def keepL : List Bool → List (Nat × (PH → List Asrt → Prop)) → List (Nat × (PH → List Asrt → Prop))
  | b :: bs, d :: D => bif b then d :: keepL bs D else keepL bs D
  | _, _ => []
def chkD (T : List Nat) (i : Nat) : List Bool → List (Nat × (PH → List Asrt → Prop)) → Bool
  | _, [] => true
  | b :: bs, d :: D => (b || bit T i d.1) && chkD T i bs D
  | [], _ :: _ => false
theorem keepL_mem {T : List Nat} {i : Nat} {d : Nat × (PH → List Asrt → Prop)} : ∀ {bs : List Bool} {D : List (Nat × (PH → List Asrt → Prop))}, chkD T i bs D = true → d ∈ D → bit T i d.1 = false → d ∈ keepL bs D
  | b :: bs, e :: D, hc, hd, hb => by
    simp only [chkD, Bool.and_eq_true, Bool.or_eq_true] at hc
    simp only [keepL]
    rcases List.mem_cons.1 hd with rfl | h1
    · rcases hc.1 with h | h
      · rw [h]; exact List.mem_cons_self
      · rw [hb] at h; cases h
    · cases b with
      | true => exact List.mem_cons_of_mem _ (keepL_mem hc.2 h1 hb)
      | false => exact keepL_mem hc.2 h1 hb
  | [], _ :: _, hc, _, _ => by simp [chkD] at hc
/-- The walk. X: what is asked behind it. -/
def MW (P : Program) (n : Nat) (ops : Array Oper) (T : List Nat) (X : Env → PH → List Asrt → Prop) : List (Nat × Bool) → List (Nat × (PH → List Asrt → Prop)) → Env → PH → List Asrt → Prop
  | [], _, E, B, L => X E B L
  | (i, false) :: r, D, E, B, L => ∃ o v, ops[i]? = some o ∧ dok n o.dst = true ∧
      (((∀ B' L', QY P ops o E B' L' v) ∧ MW P n ops T X r D (eput o.dst v E) B L) ∨ (QY P ops o E B L v ∧ MW P n ops T X r ((i, fun B' L' => QY P ops o E B' L' v) :: D) (eput o.dst v E) B L))
  | (i, true) :: r, D, E, B, L => ∃ o bs, ops[i]? = some o ∧ dok n o.dst = true ∧ gok ops E o.guard = some true ∧ chkD T i bs D = true ∧
      ∀ (W0 : World) (ds : List Deferred) (ro : Option Nat) (Q : Exit → Act → World → Prop) (K : Act → World → Prop),
        (∀ v B' L', B.le B' → Alls (keepL bs D) B' L' → MW P n ops T X r (keepL bs D) (eput o.dst v E) B' L' → KGo W0 n K (eput o.dst v E) ds B' L') → KGo W0 n (wo P ro o K Q) E ds B L
theorem m_end {X : Env → PH → List Asrt → Prop} {D : List (Nat × (PH → List Asrt → Prop))} (h : X E B L) : MW P n ops T X [] D E B L := h
/-- Reads only the frame. -/
theorem m_p {X : Env → PH → List Asrt → Prop} {D : List (Nat × (PH → List Asrt → Prop))} {r : List (Nat × Bool)} {i d : Nat} {op : Op} {ty : TypeId} {pos : String} {af : Array Edge} {g : Option (Nat × Bool)} {v : Value} (ho : ops[i]? = some ⟨some d, op, ty, pos, af, g⟩) (hg : gok ops E g = some true)
    (hy : ∀ B' L', Yld P op ty E B' L' v) (hd : Nat.blt d n = true) (h : MW P n ops T X r D ((d, v) :: E) B L) : MW P n ops T X ((i, false) :: r) D E B L :=
  ⟨_, v, ho, hd, .inl ⟨fun B' L' => .inl ⟨hg, fun W0 n ds a w ha hw => .inl (hy B' L' W0 n ds a w _ _ _ _ ha hw)⟩, h⟩⟩
/-- Reads the world. -/
theorem m_y {X : Env → PH → List Asrt → Prop} {D : List (Nat × (PH → List Asrt → Prop))} {r : List (Nat × Bool)} {i d : Nat} {op : Op} {ty : TypeId} {pos : String} {af : Array Edge} {g : Option (Nat × Bool)} {v : Value} (ho : ops[i]? = some ⟨some d, op, ty, pos, af, g⟩) (hg : gok ops E g = some true)
    (hy : Yld P op ty E B L v) (hd : Nat.blt d n = true) (h : MW P n ops T X r ((i, fun B' L' => QY P ops ⟨some d, op, ty, pos, af, g⟩ E B' L' v) :: D) ((d, v) :: E) B L) : MW P n ops T X ((i, false) :: r) D E B L :=
  ⟨_, v, ho, hd, .inr ⟨.inl ⟨hg, fun W0 n ds a w ha hw => .inl (hy W0 n ds a w _ _ _ _ ha hw)⟩, h⟩⟩
/-- A call that leaves all as it was. -/
theorem m_call {X : Env → PH → List Asrt → Prop} {D : List (Nat × (PH → List Asrt → Prop))} {r : List (Nat × Bool)} {i d : Nat} {f : FuncId} {args : Array Operand} {ats : Array TypeId} {vs : List Value} {ty : TypeId} {pos : String} {af : Array Edge} {g : Option (Nat × Bool)} {Pre R : List Asrt} {v : Value} [hf : FnC P f] (ho : ops[i]? = some ⟨some d, .call ⟨.value (.func f), args, ats⟩, ty, pos, af, g⟩) (hg : gok ops E g = some true)
    (hv : evs E args.toList = some vs) (TT : Tri P f vs B Pre fun u B' L' => u = v ∧ B' = B ∧ L' = Pre) [p : Part Pre L R] (hd : Nat.blt d n = true) (h : MW P n ops T X r ((i, fun B' L' => QY P ops ⟨some d, .call ⟨.value (.func f), args, ats⟩, ty, pos, af, g⟩ E B' L' v) :: D) ((d, v) :: E) B L) : MW P n ops T X ((i, false) :: r) D E B L :=
  ⟨_, v, ho, hd, .inr ⟨.inl ⟨hg, fun W0 n ds a w ha hw => .inr ⟨f, vs.toArray, enter_run ha hv, (TT W0 (stars R) w ((hw.ent p.out).ent (Ent.lump _ _))).mono (by
    rintro e w' ⟨u, B', L', rfl, _, ⟨rfl, rfl, rfl⟩, hw'⟩
    exact ⟨rfl, (hw'.ent (Ent.unlump _ _)).ent p.back⟩)⟩⟩, h⟩⟩
theorem m_no {X : Env → PH → List Asrt → Prop} {D : List (Nat × (PH → List Asrt → Prop))} {r : List (Nat × Bool)} {i d : Nat} {op : Op} {ty : TypeId} {pos : String} {af : Array Edge} {g : Option (Nat × Bool)} (ho : ops[i]? = some ⟨some d, op, ty, pos, af, g⟩) (hg : gok ops E g = some false) (hd : Nat.blt d n = true)
    (h : MW P n ops T X r D ((d, undef) :: E) B L) : MW P n ops T X ((i, false) :: r) D E B L :=
  ⟨_, undef, ho, hd, .inl ⟨fun _ _ => .inr ⟨hg, rfl⟩, h⟩⟩
theorem m_mv {X : Env → PH → List Asrt → Prop} {D : List (Nat × (PH → List Asrt → Prop))} {r : List (Nat × Bool)} {i : Nat} {o : Oper} (bs : List Bool) (ho : ops[i]? = some o) (hd : dok n o.dst = true) (hg : gok ops E o.guard = some true) (hc : chkD T i bs D = true)
    (h : ∀ (W0 : World) (ds : List Deferred) (ro : Option Nat) (Q : Exit → Act → World → Prop) (K : Act → World → Prop),
        (∀ v B' L', B.le B' → Alls (keepL bs D) B' L' → MW P n ops T X r (keepL bs D) (eput o.dst v E) B' L' → KGo W0 n K (eput o.dst v E) ds B' L') → KGo W0 n (wo P ro o K Q) E ds B L) : MW P n ops T X ((i, true) :: r) D E B L := ⟨o, bs, ho, hd, hg, hc, h⟩
theorem m_mv1 {X : Env → PH → List Asrt → Prop} {D : List (Nat × (PH → List Asrt → Prop))} {r : List (Nat × Bool)} {i d : Nat} {op : Op} {ty : TypeId} {pos : String} {af : Array Edge} {g : Option (Nat × Bool)} (bs : List Bool) (ho : ops[i]? = some ⟨some d, op, ty, pos, af, g⟩) (hd : Nat.blt d n = true) (hg : gok ops E g = some true) (hc : chkD T i bs D = true)
    (h : ∀ (W0 : World) (ds : List Deferred) (ro : Option Nat) (Q : Exit → Act → World → Prop) (K : Act → World → Prop),
        (∀ v B' L', B.le B' → Alls (keepL bs D) B' L' → MW P n ops T X r (keepL bs D) ((d, v) :: E) B' L' → KGo W0 n K ((d, v) :: E) ds B' L') → KGo W0 n (wo P ro ⟨some d, op, ty, pos, af, g⟩ K Q) E ds B L) : MW P n ops T X ((i, true) :: r) D E B L := m_mv bs ho hd hg hc h
theorem m_mv0 {X : Env → PH → List Asrt → Prop} {D : List (Nat × (PH → List Asrt → Prop))} {r : List (Nat × Bool)} {i : Nat} {op : Op} {ty : TypeId} {pos : String} {af : Array Edge} {g : Option (Nat × Bool)} (bs : List Bool) (ho : ops[i]? = some ⟨none, op, ty, pos, af, g⟩) (hg : gok ops E g = some true) (hc : chkD T i bs D = true)
    (h : ∀ (W0 : World) (ds : List Deferred) (ro : Option Nat) (Q : Exit → Act → World → Prop) (K : Act → World → Prop),
        (∀ B' L', B.le B' → Alls (keepL bs D) B' L' → MW P n ops T X r (keepL bs D) E B' L' → KGo W0 n K E ds B' L') → KGo W0 n (wo P ro ⟨none, op, ty, pos, af, g⟩ K Q) E ds B L) : MW P n ops T X ((i, true) :: r) D E B L := m_mv bs ho rfl hg hc fun W0 ds ro Q K hK => h W0 ds ro Q K fun B' L' h1 h2 h3 => hK undef B' L' h1 h2 h3
/-- Later too. -/
theorem qy_y {d : Nat} {op : Op} {ty : TypeId} {pos : String} {af : Array Edge} {g : Option (Nat × Bool)} {v : Value} (hg : gok ops E g = some true) (hy : Yld P op ty E B L v) : QY P ops ⟨some d, op, ty, pos, af, g⟩ E B L v :=
  .inl ⟨hg, fun W0 n ds a w ha hw => .inl (hy W0 n ds a w _ _ _ _ ha hw)⟩

/-! ### Why it serves -/
/-- The frame behind the walk so far; newest first. -/
def wenv (ops : Array Oper) (E : Env) : List (Nat × Value) → Env
  | [] => E
  | (i, v) :: W => eput (dstAt ops i) v (wenv ops E W)
theorem look_eput_ne {d : Option Nat} {v : Value} {t : Nat} (h : d ≠ some t) : look (eput d v E) t = look E t := by
  cases d with
  | none => rfl
  | some s =>
    have hne : s ≠ t := fun e => h (by rw [e])
    have : Nat.beq s t = false := by
      cases hb : Nat.beq s t with
      | false => rfl
      | true => exact absurd (Nat.eq_of_beq_eq_true hb) hne
    simp only [eput, look, this]; rfl
theorem wenv_out {t : Nat} : ∀ {W : List (Nat × Value)}, (∀ p ∈ W, dstAt ops p.1 ≠ some t) → look (wenv ops E W) t = look E t
  | [], _ => rfl
  | (i, v) :: W, h => by
    simp only [wenv]
    rw [look_eput_ne (h (i, v) List.mem_cons_self)]
    exact wenv_out fun p hp => h p (List.mem_cons_of_mem _ hp)
theorem wenv_in {t : Nat} : ∀ {W : List (Nat × Value)} {i : Nat} {v : Value}, (∀ p ∈ W, ∀ q ∈ W, dstAt ops p.1 = some t → dstAt ops q.1 = some t → p = q) → (i, v) ∈ W → dstAt ops i = some t → look (wenv ops E W) t = some v
  | (j, u) :: W, i, v, hu, hm, ht => by
    simp only [wenv]
    by_cases e : dstAt ops j = some t
    · have := hu (j, u) List.mem_cons_self (i, v) hm e ht
      cases this
      rw [e]; simp [eput, look]
    · rw [look_eput_ne e]
      rcases List.mem_cons.1 hm with h1 | h1
      · cases h1; exact absurd ht e
      · exact wenv_in (fun p hp q hq => hu p (List.mem_cons_of_mem _ hp) q (List.mem_cons_of_mem _ hq)) h1 ht
theorem ordB_at : ∀ {pre : List (Nat × Bool)} {i : Nat} {m : Bool} {r : List (Nat × Bool)} {W : List Nat}, ordB T (pre ++ (i, m) :: r) W = true → (m = true → ∀ p ∈ r, bit T p.1 i = true) ∧ (∀ p ∈ r, bit T i p.1 = false)
  | [], i, m, r, W, h => by
    simp only [List.nil_append, ordB, Bool.and_eq_true, Bool.or_eq_true, List.all_eq_true, Bool.not_eq_true'] at h
    refine ⟨fun hm p hp => ?_, fun p hp => h.1.2 p hp⟩
    rcases h.1.1 with h1 | h1
    · rw [hm] at h1; cases h1
    · exact h1 p hp
  | (j, k) :: pre, i, m, r, W, h => by
    simp only [List.cons_append, ordB, Bool.and_eq_true] at h
    exact ordB_at h.2
theorem nodupB_at : ∀ {pre : List Nat} {i : Nat} {r : List Nat}, nodupB (pre ++ i :: r) = true → i ∉ pre ∧ i ∉ r
  | [], i, r, h => by
    simp only [List.nil_append, nodupB, Bool.and_eq_true, Bool.not_eq_true'] at h
    refine ⟨by simp, fun hm => ?_⟩
    have := List.any_eq_false.1 h.1 i hm
    simp at this
  | j :: pre, i, r, h => by
    simp only [List.cons_append, nodupB, Bool.and_eq_true, Bool.not_eq_true'] at h
    obtain ⟨h1, h2⟩ := nodupB_at h.2
    refine ⟨fun hm => ?_, h2⟩
    rcases List.mem_cons.1 hm with rfl | h3
    · have := List.any_eq_false.1 h.1 i (by simp)
      simp at this
    · exact h1 h3

theorem wo_move {o : Oper} {a a' : Act} {w : World} {K K' : Act → World → Prop} (hs : execOp a.eval o = execOp a'.eval o) (hnd : ∀ c, o.op ≠ .defer c)
    (hk : ∀ v w, K' (a'.put o.dst v) w → K (a.put o.dst v) w) (hk2 : ∀ d w, K' ({ a' with defers := d :: a'.defers }.put o.dst undef) w → False)
    (h : o.wpIn (FR ro) 0 P a' w K' fun _ _ _ => False) : o.wpIn (FR ro) 0 P a w K Q := by
  refine ⟨about_any _ _ _, ?_⟩
  have hh := h.2
  rw [Oper.semAt_eq _ _ _ hnd] at hh ⊢
  rw [hs]
  generalize (execOp a'.eval o).run P w = r at *
  cases r with
  | ok x w' =>
    cases x with
    | value v => exact hk _ _ hh
    | skip => exact hk _ _ hh
    | defer d => exact (hk2 _ _ hh).elim
    | enter f args => exact ⟨hh.1, CallsIn.mono hh.2 (fun e w'' he => by cases e <;> first | exact hk _ _ he | exact he.elim | (obtain ⟨_, _, hf⟩ := he; exact hf.elim))⟩
    | row row args => exact ⟨hh.1, RowsIn.mono hh.2 (fun _ _ he => hk _ _ he)⟩
    | round l f tmps assign body => exact ⟨hh.1, RoundIn.mono hh.2 (fun e w'' he => by cases e <;> first | exact hk _ _ he | exact he.elim | (obtain ⟨_, _, hf⟩ := he; exact hf.elim))⟩
    | _ => exact hh.elim
  | halt x w' => cases x <;> exact hh.elim

variable {X : Env → PH → List Asrt → Prop} {ord : List (Nat × Bool)}
structure MI (P : Program) (n : Nat) (ops : Array Oper) (T : List Nat) (X : Env → PH → List Asrt → Prop) (ord : List (Nat × Bool)) (E : Env) (ds : List Deferred) (W0 : World) (S : Array Bool) (a : Act) (w : World)
    (W : List (Nat × Value)) (r : List (Nat × Bool)) (D : List (Nat × (PH → List Asrt → Prop))) (B : PH) (L : List Asrt) : Prop where
  split : ∃ pre, ord = pre ++ r ∧ pre.map (·.1) = (W.map (·.1)).reverse
  walk : MW P n ops T X r D (wenv ops E W) B L
  rest : ∀ p ∈ r, S.getD p.1 false = false
  dst : ∀ p ∈ W, dok n (dstAt ops p.1) = true
  ahead : ∀ V i v W', W = V ++ (i, v) :: W' → S.getD i false = false → ∃ o, ops[i]? = some o ∧ ((∀ B' L', QY P ops o (wenv ops E W') B' L' v) ∨ ((i, fun B' L' => QY P ops o (wenv ops E W') B' L' v) ∈ D ∧ QY P ops o (wenv ops E W') B L v))
  size : a.tmps.size = n
  defers : a.defers = ds
  done : ∀ i v t, (i, v) ∈ W → S.getD i false = true → dstAt ops i = some t → a.tmps[t]? = some v
  old : ∀ t u, look E t = some u → (∀ i, S.getD i false = true → dstAt ops i ≠ some t) → a.tmps[t]? = some u
  holds : Holds W0 B L w

/-- Whatever is quiet is walked at once. -/
theorem MI.on {S : Array Bool} {a : Act} {w : World} : ∀ {r : List (Nat × Bool)} {W : List (Nat × Value)} {D : List (Nat × (PH → List Asrt → Prop))} {B : PH} {L : List Asrt}, MI P n ops T X ord E ds W0 S a w W r D B L →
    ∃ W' r' D', MI P n ops T X ord E ds W0 S a w W' r' D' B L ∧ (r' = [] ∨ ∃ i r'', r' = (i, true) :: r'')
  | [], W, D, B, L, h => ⟨W, [], D, h, .inl rfl⟩
  | (i, true) :: r, W, D, B, L, h => ⟨W, _, D, h, .inr ⟨i, r, rfl⟩⟩
  | (i, false) :: r, W, D, B, L, h => by
    obtain ⟨o, v, ho, hd, hor⟩ := h.walk
    have hdst : dstAt ops i = o.dst := by simp [dstAt, ho]
    have hSi : S.getD i false = false := h.rest (i, false) List.mem_cons_self
    have key : ∀ D', (∀ d ∈ D, d ∈ D') → ((∀ B' L', QY P ops o (wenv ops E W) B' L' v) ∨ ((i, fun B' L' => QY P ops o (wenv ops E W) B' L' v) ∈ D' ∧ QY P ops o (wenv ops E W) B L v)) → MW P n ops T X r D' (eput o.dst v (wenv ops E W)) B L →
        MI P n ops T X ord E ds W0 S a w ((i, v) :: W) r D' B L := fun D' hsub hq hw => by
      obtain ⟨pre, e1, e2⟩ := h.split
      refine ⟨⟨pre ++ [(i, false)], by simp [e1], by simp [e2]⟩, by rw [wenv, hdst]; exact hw, fun p hp => h.rest p (List.mem_cons_of_mem _ hp), fun p hp => ?_, fun V j u W' hW hj => ?_, h.size, h.defers, fun j u t hm hs ht => ?_, h.old, h.holds⟩
      · rcases List.mem_cons.1 hp with rfl | hp
        · rw [hdst]; exact hd
        · exact h.dst p hp
      · cases V with
        | nil =>
          simp only [List.nil_append, List.cons.injEq, Prod.mk.injEq] at hW
          obtain ⟨⟨rfl, rfl⟩, rfl⟩ := hW
          exact ⟨o, ho, hq⟩
        | cons x V =>
          simp only [List.cons_append, List.cons.injEq] at hW
          obtain ⟨o', ho', hq'⟩ := h.ahead V j u W' hW.2 hj
          exact ⟨o', ho', hq'.imp id fun ⟨h1, h2⟩ => ⟨hsub _ h1, h2⟩⟩
      · rcases List.mem_cons.1 hm with hm | hm
        · cases hm; rw [hSi] at hs; cases hs
        · exact h.done j u t hm hs ht
    rcases hor with ⟨h1, h2⟩ | ⟨h1, h2⟩
    · exact MI.on (key D (fun _ h => h) (.inl h1) h2)
    · exact MI.on (key _ (fun _ h => List.mem_cons_of_mem _ h) (.inr ⟨List.mem_cons_self, h1⟩) h2)

/-- What the region's text says. -/
structure SegF (ops : Array Oper) (T : List Nat) (ord : List (Nat × Bool)) : Prop where
  nosel : Region.noSelect ops = true
  nodef : ∀ (i : Nat) (o : Oper) c, ops[i]? = some o → o.op ≠ .defer c
  tab : segT ops T = true
  nodup : nodupB (ord.map (·.1)) = true
  all : ∀ i, i < ops.size → ∃ m, (i, m) ∈ ord
  ord : ordB T ord [] = true
  apart : ∀ p q t, p < ops.size → q < ops.size → dstAt ops q = some t → (t ∈ looks ops p → p = q ∨ bit T p q = true ∨ bit T q p = true) ∧ (dstAt ops p = some t → p = q)
theorem segM_at (h : segM ops T ord = true) : SegF ops T ord := by
  simp only [segM, Bool.and_eq_true] at h
  obtain ⟨⟨⟨⟨⟨⟨h1, h2⟩, h3⟩, h4⟩, h5⟩, h6⟩, h7⟩ := h
  refine ⟨h1, fun i o c ho hc => ?_, h3, h4, fun i hi => ?_, h6, fun p q t hp hq ht => ?_⟩
  · have := List.all_eq_true.1 h2 o (by simpa using Array.mem_of_getElem? ho)
    rw [hc] at this; cases this
  · obtain ⟨⟨j, m⟩, hj, hj2⟩ := List.any_eq_true.1 (List.all_eq_true.1 h5 i (List.mem_range.2 hi))
    have := Nat.eq_of_beq_eq_true hj2
    exact ⟨m, by rw [← this]; exact hj⟩
  · have h1 := List.all_eq_true.1 (List.all_eq_true.1 h7 p (List.mem_range.2 hp)) q (List.mem_range.2 hq)
    rw [ht] at h1
    simp only [Bool.and_eq_true, Bool.or_eq_true, Bool.not_eq_true'] at h1
    obtain ⟨h2, h3⟩ := h1
    refine ⟨fun hl => ?_, fun hd => ?_⟩
    · rcases h2 with ((h2 | h2) | h2) | h2
      · rw [List.contains_eq_mem, decide_eq_false_iff_not] at h2; exact absurd hl h2
      · exact .inl (Nat.eq_of_beq_eq_true h2)
      · exact .inr (.inl h2)
      · exact .inr (.inr h2)
    · rcases h3 with h3 | h3
      · exact Nat.eq_of_beq_eq_true h3
      · rw [hd] at h3; simp at h3
theorem dstAt_lt {i : Nat} {t : Tmp} (h : dstAt ops i = some t) : i < ops.size := by
  unfold dstAt at h
  cases ho : ops[i]? with
  | none => rw [ho] at h; cases h
  | some o => exact (Array.getElem?_eq_some_iff.1 ho).1

/-- What an operation that may come up looks at stands in the frame. -/
theorem MI.agree {S : Array Bool} {a : Act} {w : World} {W : List (Nat × Value)} {r : List (Nat × Bool)} {D : List (Nat × (PH → List Asrt → Prop))} (F : SegF ops T ord) (I : MI P n ops T X ord E ds W0 S a w W r D B L)
    (hdown : ∀ j, S.getD j false = true → ∀ i, edge ops j i = true → S.getD i false = true) {p : Nat} {m : Bool} {pre r' : List (Nat × Bool)} {W' : List (Nat × Value)} (hp : p < ops.size) (e1 : ord = pre ++ (p, m) :: r') (e2 : pre.map (·.1) = (W'.map (·.1)).reverse)
    (hsub : ∀ x ∈ W', x ∈ W) (hSp : S.getD p false = false) (hr : p ∈ Region.ready .any ops S) {t : Tmp} (ht : t ∈ looks ops p) {u : Value} (hu : look (wenv ops E W') t = some u) : a.tmps[t]? = some u := by
  have hlow : ∀ i, bit T p i = true → S.getD i false = true := bit_down F.tab (S := fun i => S.getD i false = true) hdown p fun i hi => edge_ready hr hi
  have hlow2 : ∀ j, S.getD j false = true → ∀ i, bit T j i = true → S.getD i false = true := fun j hj => bit_down F.tab (S := fun i => S.getD i false = true) hdown j (hdown j hj)
  have hnd := F.nodup
  rw [e1, List.map_append, List.map_cons] at hnd
  obtain ⟨hnp, hnr⟩ := nodupB_at hnd
  have hord := F.ord
  rw [e1] at hord
  obtain ⟨_, hafter⟩ := ordB_at hord
  have memW : ∀ i, (∃ m, (i, m) ∈ pre) ↔ ∃ v, (i, v) ∈ W' := fun i => by
    have h1 : (∃ m, (i, m) ∈ pre) ↔ i ∈ pre.map (·.1) := by
      simp only [List.mem_map, Prod.exists, exists_and_right, exists_eq_right]
    have h2 : (∃ v, (i, v) ∈ W') ↔ i ∈ W'.map (·.1) := by
      simp only [List.mem_map, Prod.exists, exists_and_right, exists_eq_right]
    rw [h1, h2, e2, List.mem_reverse]
  by_cases hex : ∃ x ∈ W', dstAt ops x.1 = some t
  · obtain ⟨⟨q, v⟩, hx, hq⟩ := hex
    have hqs := dstAt_lt hq
    have huniq : ∀ x ∈ W', ∀ y ∈ W', dstAt ops x.1 = some t → dstAt ops y.1 = some t → x = y := fun x hx y hy h1 h2 => by
      have e : x.1 = y.1 := (F.apart x.1 y.1 t (dstAt_lt h1) (dstAt_lt h2) h2).2 h1
      -- one index, one entry
      have nd : nodupB (pre.map (·.1)) = true := by
        have : ∀ (l k : List Nat), nodupB (l ++ k) = true → nodupB l = true := fun l k => by
          induction l with
          | nil => intro _; rfl
          | cons j l ih =>
            intro h
            simp only [List.cons_append, nodupB, Bool.and_eq_true, Bool.not_eq_true'] at h ⊢
            refine ⟨?_, ih h.2⟩
            rw [List.any_append, Bool.or_eq_false_iff] at h
            exact h.1.1
        exact this _ _ hnd
      rw [e2] at nd
      obtain ⟨l1, l2, rfl⟩ := List.append_of_mem hx
      simp only [List.map_append, List.map_cons, List.reverse_append, List.reverse_cons, List.append_assoc, List.cons_append, List.nil_append] at nd
      obtain ⟨n1, n2⟩ := nodupB_at nd
      rcases List.mem_append.1 hy with h3 | h3
      · exact absurd (List.mem_reverse.2 (List.mem_map.2 ⟨y, h3, e.symm⟩)) n2
      · rcases List.mem_cons.1 h3 with h3 | h3
        · exact h3.symm
        · exact absurd (List.mem_reverse.2 (List.mem_map.2 ⟨y, h3, e.symm⟩)) n1
    have : look (wenv ops E W') t = some v := wenv_in huniq hx hq
    rw [this] at hu; cases hu
    have hSq : S.getD q false = true := by
      rcases (F.apart p q t hp hqs hq).1 ht with h | h | h
      · subst h
        exact absurd (by obtain ⟨m, hm⟩ := (memW p).2 ⟨_, hx⟩; exact List.mem_map.2 ⟨_, hm, rfl⟩) hnp
      · exact hlow q h
      · -- q comes ahead of p
        exfalso
        obtain ⟨m', hm'⟩ := (memW q).2 ⟨_, hx⟩
        obtain ⟨l1, l2, hl⟩ := List.append_of_mem hm'
        have hord2 := F.ord
        rw [e1, hl, List.append_assoc, List.cons_append] at hord2
        have := (ordB_at hord2).2 (p, m) (List.mem_append_right _ List.mem_cons_self)
        rw [this] at h; cases h
    exact I.done q u t (hsub _ hx) hSq hq
  · have hno : ∀ x ∈ W', dstAt ops x.1 ≠ some t := fun x hx h => hex ⟨x, hx, h⟩
    rw [wenv_out hno] at hu
    refine I.old t u hu fun i hSi hi => ?_
    have his := dstAt_lt hi
    rcases (F.apart p i t hp his hi).1 ht with h | h | h
    · subst h; rw [hSp] at hSi; cases hSi
    · obtain ⟨m', hm'⟩ := F.all i his
      rw [e1] at hm'
      rcases List.mem_append.1 hm' with h1 | h1
      · obtain ⟨v, hv⟩ := (memW i).1 ⟨_, h1⟩
        exact hno _ hv hi
      · rcases List.mem_cons.1 h1 with h1 | h1
        · cases h1; rw [hSp] at hSi; cases hSi
        · have := hafter _ h1; rw [this] at h; cases h
    · have := hlow2 i hSi p h
      rw [hSp] at this; cases this
/-- A frame that knows all of the walk so far, and in what the operation looks at is the true one. -/
theorem MI.frame {S : Array Bool} {a : Act} {w : World} {W : List (Nat × Value)} {r : List (Nat × Bool)} {D : List (Nat × (PH → List Asrt → Prop))} (F : SegF ops T ord) (I : MI P n ops T X ord E ds W0 S a w W r D B L)
    (hdown : ∀ j, S.getD j false = true → ∀ i, edge ops j i = true → S.getD i false = true) {p : Nat} {m : Bool} {pre r' : List (Nat × Bool)} {W' : List (Nat × Value)} (e1 : ord = pre ++ (p, m) :: r') (e2 : pre.map (·.1) = (W'.map (·.1)).reverse)
    (hsub : ∀ x ∈ W', x ∈ W) (hSp : S.getD p false = false) (hr : p ∈ Region.ready .any ops S) (hE : ∀ t u, look E t = some u → t < n) {o : Oper} (ho : ops[p]? = some o) :
    ∃ a' : Act, Knows n (wenv ops E W') ds a' ∧ a.defers = a'.defers ∧ execOp a.eval o = execOp a'.eval o ∧ Region.wanted o (yielded ops a.tmps) = Region.wanted o (yielded ops a'.tmps) := by
  have hp : p < ops.size := (Array.getElem?_eq_some_iff.1 ho).1
  let G := wenv ops E W'
  let a' : Act := { tmps := a.tmps.mapIdx fun t v => (look G t).getD v, defers := a.defers }
  have ha't : ∀ t, a'.tmps[t]? = (a.tmps[t]?).map fun v => (look G t).getD v := fun t => by simp [a']
  have hlk : looks ops p = o.looksAt ops := by simp [looks, ho]
  have hGn : ∀ t u, look G t = some u → t < n := by
    have : ∀ (V : List (Nat × Value)), (∀ x ∈ V, dok n (dstAt ops x.1) = true) → ∀ t u, look (wenv ops E V) t = some u → t < n := fun V => by
      induction V with
      | nil => exact fun _ t u h => hE t u h
      | cons x V ih =>
        obtain ⟨i, v⟩ := x
        intro hV t u h
        by_cases e : dstAt ops i = some t
        · have := hV (i, v) List.mem_cons_self
          exact dok_lt this t e
        · rw [wenv, look_eput_ne e] at h
          exact ih (fun x hx => hV x (List.mem_cons_of_mem _ hx)) t u h
    exact this W' fun x hx => I.dst x (hsub x hx)
  refine ⟨a', ⟨by simp [a', I.size], I.defers, fun t u e => ?_⟩, rfl, ?_, ?_⟩
  · rw [ha't]
    have : t < a.tmps.size := by rw [I.size]; exact hGn t u e
    rw [Array.getElem?_eq_getElem this]
    have e' : look G t = some u := e
    simp [e']
  all_goals
    have agree : ∀ t, t ∈ o.looksAt ops → a.tmps[t]? = a'.tmps[t]? := fun t ht => by
      rw [ha't]
      cases hG : look G t with
      | none => cases a.tmps[t]? <;> rfl
      | some u =>
        rw [I.agree F hdown hp e1 e2 hsub hSp hr (by rw [hlk]; exact ht) hG]; rfl
  · refine execOp_congr o (fun cs b => Region.noSelect_spec F.nosel p o cs b ho) fun x hx => ?_
    cases x with
    | tmp t =>
      have := agree t (List.mem_append_left _ (List.mem_filterMap.2 ⟨.tmp t, by simpa using hx, rfl⟩))
      simp only [Act.eval, Array.getD_eq_getD_getElem?, this]
    | const v => rfl
    | global g => rfl
    | func f => rfl
  · unfold Region.wanted
    cases hg : o.guard with
    | none => rfl
    | some q =>
      obtain ⟨j, b⟩ := q
      dsimp only
      have : yielded ops a.tmps j = yielded ops a'.tmps j := by
        unfold yielded
        cases hj : (ops[j]?).bind (·.dst) with
        | none => rfl
        | some t =>
          simp only [Option.bind_some]
          rw [agree t (List.mem_append_right _ (by rw [hg]; simp only [hj]; simp))]
      rw [this]

/-- **One walk for every order.** -/
theorem k_mix {i : Nat} {l : List Oper} (hm : P.follows .mixedOrders = true) (T : List Nat) (ord : List (Nat × Bool)) (hseg : segM l.toArray T ord = true)
    (h : MW P n l.toArray T (fun E' B' L' => KGo W0 n (Q .normal) E' ds B' L') ord [] E B L) : KGo W0 n (wp P ro (.region i l.toArray true) Q) E ds B L := by
  intro a0 w0 ha0 hw0
  refine wpIn_region_any hm ?_
  generalize l.toArray = ops at *
  have F := segM_at hseg
  have hE : ∀ t u, look E t = some u → t < n := fun t u e => by
    have := (Array.getElem?_eq_some_iff.1 (ha0.env t u e)).1
    rwa [ha0.size] at this
  have main : ∀ (f : Nat) (S : Array Bool) (U : List Nat) (a : Act) (w : World), U.length = f → U.Nodup → S.size = ops.size → (∀ j, j < ops.size → (S.getD j false = false ↔ j ∈ U)) → (∀ j ∈ U, j < ops.size) →
      (∀ j, S.getD j false = true → ∀ i, edge ops j i = true → S.getD i false = true) →
      (∃ W r D B' L', MI P n ops T (fun E' B' L' => KGo W0 n (Q .normal) E' ds B' L') ord E ds W0 S a w W r D B' L') → wpAnyIn (FR ro) 0 P .any ops Q f S a w := by
    intro f
    induction f with
    | zero =>
      intro S U a w hf hnd hsz hU hUl hdown hI
      have hU0 : U = [] := List.eq_nil_of_length_eq_zero hf
      subst hU0
      obtain ⟨W, r, D, B', L', hI⟩ := hI
      obtain ⟨W, r, D, I, hr⟩ := hI.on
      have hall : ∀ j, j < ops.size → S.getD j false = true := fun j hj => by
        cases hs : S.getD j false with
        | true => rfl
        | false => have := (hU j hj).1 hs; cases this
      have hlt : ∀ p ∈ ord, p.1 < ops.size → S.getD p.1 false = true := fun p _ hp => hall _ hp
      have hr0 : r = [] := by
        rcases hr with hr | ⟨i, r'', rfl⟩
        · exact hr
        · exfalso
          obtain ⟨o, _, ho, _⟩ := I.walk
          have := I.rest (i, true) List.mem_cons_self
          rw [hall i (Array.getElem?_eq_some_iff.1 ho).1] at this; cases this
      subst hr0
      refine ⟨?_, I.walk a w ⟨I.size, I.defers, fun t u e => ?_⟩ I.holds⟩
      · unfold Region.ready
        rw [List.filter_eq_nil_iff]
        intro j hj
        rw [List.mem_range] at hj
        have := hall j hj
        have hsz' : j < S.size := by rw [hsz]; exact hj
        intro hc
        have h1 : j ∈ Region.ready .any ops S := by
          unfold Region.ready
          exact List.mem_filter.2 ⟨List.mem_range.2 hj, hc⟩
        have h2 := (mem_ready.1 h1).1
        rw [Array.getD_eq_getD_getElem?, Array.getElem?_eq_getElem hsz', Option.getD_some] at this h2
        rw [this] at h2; cases h2
      · obtain ⟨pre, e1, e2⟩ := I.split
        simp only [List.append_nil] at e1
        by_cases hex : ∃ x ∈ W, dstAt ops x.1 = some t
        · obtain ⟨⟨q, v⟩, hx, hq⟩ := hex
          have hnd2 := F.nodup
          rw [e1, e2] at hnd2
          have : look (wenv ops E W) t = some v := wenv_in (fun x hx y hy h1 h2 => by
            have ee : x.1 = y.1 := (F.apart x.1 y.1 t (dstAt_lt h1) (dstAt_lt h2) h2).2 h1
            obtain ⟨l1, l2, rfl⟩ := List.append_of_mem hx
            simp only [List.map_append, List.map_cons, List.reverse_append, List.reverse_cons, List.append_assoc, List.cons_append, List.nil_append] at hnd2
            obtain ⟨n1, n2⟩ := nodupB_at hnd2
            rcases List.mem_append.1 hy with h3 | h3
            · exact absurd (List.mem_reverse.2 (List.mem_map.2 ⟨y, h3, ee.symm⟩)) n2
            · rcases List.mem_cons.1 h3 with h3 | h3
              · exact h3.symm
              · exact absurd (List.mem_reverse.2 (List.mem_map.2 ⟨y, h3, ee.symm⟩)) n1) hx hq
          rw [this] at e; cases e
          exact I.done q u t hx (hall q (dstAt_lt hq)) hq
        · have hno : ∀ x ∈ W, dstAt ops x.1 ≠ some t := fun x hx h => hex ⟨x, hx, h⟩
          rw [wenv_out hno] at e
          refine I.old t u e fun i _ hi => ?_
          obtain ⟨m, hm⟩ := F.all i (dstAt_lt hi)
          rw [e1] at hm
          have : i ∈ pre.map (·.1) := List.mem_map.2 ⟨_, hm, rfl⟩
          rw [e2, List.mem_reverse] at this
          obtain ⟨x, hx, hxi⟩ := List.mem_map.1 this
          exact hno x hx (by rw [hxi]; exact hi)
    | succ f ih =>
      intro S U a w hf hnd hsz hU hUl hdown hI
      obtain ⟨W, r, D, B', L', hI⟩ := hI
      obtain ⟨W, r, D, I, hr⟩ := hI.on
      have hUne : U ≠ [] := fun e => by subst e; simp at hf
      have getS : ∀ j (hj : j < S.size), S[j] = S.getD j false := fun j hj => by rw [Array.getD_eq_getD_getElem?, Array.getElem?_eq_getElem hj]; rfl
      refine ⟨fun hemp => ?_, fun i hi => ?_⟩
      · exfalso
        obtain ⟨q0, hq0⟩ : ∃ q, q ∈ U := by cases U with
          | nil => exact absurd rfl hUne
          | cons q _ => exact ⟨q, by simp⟩
        obtain ⟨q, hq, hmin⟩ := exists_least (· ∈ U) q0 hq0
        have hql := hUl q hq
        have hq1 : q < ops.size := hql
        have : q ∈ Region.ready .any ops S := by
          refine mem_ready.2 ⟨?_, ops[q], by simp [hq1], fun e he hb => ?_⟩
          · have h1 := (hU q hql).2 hq
            have hs : q < S.size := by rw [hsz]; exact hql
            rw [Array.getD_eq_getD_getElem?, Array.getElem?_eq_getElem hs, Option.getD_some] at h1 ⊢
            exact h1
          · have hlt := (segT_at F.tab (show ops[q]? = some ops[q] by simp [hq1])).2 e he hb
            cases hs : S.getD e.on false with
            | true => rfl
            | false => have := hmin _ ((hU e.on (by omega)).1 hs); omega
        rw [hemp] at this; cases this
      · obtain ⟨hiun, o, ho, _⟩ := mem_ready.1 hi
        have hil : i < ops.size := (Array.getElem?_eq_some_iff.1 ho).1
        have his : i < S.size := by rw [hsz]; exact hil
        have hSi : S.getD i false = false := by
          rw [Array.getD_eq_getD_getElem?, Array.getElem?_eq_getElem his, Option.getD_some] at hiun ⊢
          exact hiun
        have hiU : i ∈ U := (hU i hil).1 hSi
        have hdst : dstAt ops i = o.dst := by simp [dstAt, ho]
        have get : ∀ j, (S.setIfInBounds i true).getD j false = if j = i then true else S.getD j false := by
          intro j
          by_cases e : j = i
          · subst e
            rw [if_pos rfl, Array.getD_eq_getD_getElem?, Array.getElem?_setIfInBounds_self_of_lt his]; rfl
          · rw [if_neg e, Array.getD_eq_getD_getElem?, Array.getElem?_setIfInBounds_ne (Ne.symm e), ← Array.getD_eq_getD_getElem?]
        have next : ∀ a1 w1, (∃ W r D B' L', MI P n ops T (fun E' B' L' => KGo W0 n (Q .normal) E' ds B' L') ord E ds W0 (S.setIfInBounds i true) a1 w1 W r D B' L') → wpAnyIn (FR ro) 0 P .any ops Q f (S.setIfInBounds i true) a1 w1 := fun a1 w1 h1 => by
          refine ih _ (U.erase i) a1 w1 (by rw [List.length_erase_of_mem hiU, hf]; rfl) (hnd.erase i) (by simp [hsz]) (fun j hj => ?_) (fun j hj => hUl j (List.mem_of_mem_erase hj)) (fun j hj k hk => ?_) h1
          · rw [get, hnd.mem_erase_iff]
            by_cases e : j = i
            · subst e; simp
            · rw [if_neg e, hU j hj]; simp [e]
          · rw [get] at hj ⊢
            by_cases e : j = i
            · subst e
              split
              · rfl
              · exact edge_ready hi hk
            · rw [if_neg e] at hj
              split
              · rfl
              · exact hdown j hj k hk
        have others : ∀ (a1 : Act) (v : Value), a1 = a.put o.dst v → ∀ t u, o.dst ≠ some t → a.tmps[t]? = u → a1.tmps[t]? = u := fun a1 v e t u hne hu => by
          subst e
          cases hdd : o.dst with
          | none => exact hu
          | some s =>
            have : s ≠ t := fun e' => hne (by rw [hdd, e'])
            show (a.tmps.setIfInBounds s _)[t]? = u
            rw [Array.getElem?_setIfInBounds_ne this]; exact hu
        obtain ⟨pre, e1, e2⟩ := I.split
        unfold wpOpIn
        simp only [ho]
        -- one that was walked, or the next that turns the world
        by_cases hiW : ∃ v, (i, v) ∈ W
        · obtain ⟨v, hv⟩ := hiW
          obtain ⟨V, W', rfl⟩ := List.append_of_mem hv
          obtain ⟨o', ho', hq⟩ := I.ahead V i v W' rfl hSi
          rw [ho] at ho'; cases ho'
          have hqy : QY P ops o (wenv ops E W') B' L' v := hq.elim (fun h => h _ _) fun h => h.2
          -- where it stands in the order
          obtain ⟨p1, p2, m, hp1, hp2⟩ : ∃ p1 p2 m, pre = p1 ++ (i, m) :: p2 ∧ p1.map (·.1) = (W'.map (·.1)).reverse := by
            have h1 : pre.map (·.1) = (W'.map (·.1)).reverse ++ (i :: (V.map (·.1)).reverse) := by rw [e2]; simp
            obtain ⟨p1, p2, rfl, h3, h4⟩ := List.map_eq_append_iff.1 h1
            cases p2 with
            | nil => simp at h4
            | cons x p2 =>
              obtain ⟨j, m⟩ := x
              simp only [List.map_cons, List.cons.injEq] at h4
              exact ⟨p1, p2, m, by rw [h4.1], h3⟩
          obtain ⟨a', hK', hda, hrun, hwant⟩ := I.frame F hdown (p := i) (m := m) (pre := p1) (r' := p2 ++ r) (W' := W') (by rw [e1, hp1]; simp) hp2 (fun x hx => List.mem_append_right _ (List.mem_cons_of_mem _ hx)) hSi hi hE ho
          have hnd2 := F.nodup
          have hiV : ∀ u, (i, u) ∈ V ++ (i, v) :: W' → u = v := fun u hu => by
            rw [e1, List.map_append, e2] at hnd2
            simp only [List.map_append, List.map_cons, List.reverse_append, List.reverse_cons, List.append_assoc, List.cons_append, List.nil_append] at hnd2
            obtain ⟨n1, n2⟩ := nodupB_at hnd2
            rcases List.mem_append.1 hu with h3 | h3
            · exact absurd (List.mem_append_left _ (List.mem_reverse.2 (List.mem_map.2 ⟨_, h3, rfl⟩))) n2
            · rcases List.mem_cons.1 h3 with h3 | h3
              · cases h3; rfl
              · exact absurd (List.mem_reverse.2 (List.mem_map.2 ⟨_, h3, rfl⟩)) n1
          have hir : ∀ p ∈ r, p.1 ≠ i := fun p hp e => by
            rw [e1, List.map_append, e2] at hnd2
            simp only [List.map_append, List.map_cons, List.reverse_append, List.reverse_cons, List.append_assoc, List.cons_append, List.nil_append] at hnd2
            obtain ⟨n1, n2⟩ := nodupB_at hnd2
            exact n2 (List.mem_append_right _ (List.mem_map.2 ⟨p, hp, e⟩))
          have fin : ∀ w', Holds W0 B' L' w' → wpAnyIn (FR ro) 0 P .any ops Q f (S.setIfInBounds i true) (a.put o.dst v) w' := fun w' hw' => by
            have hdo := I.dst (i, v) hv
            rw [hdst] at hdo
            refine next _ _ ⟨_, r, D, B', L', ⟨pre, e1, e2⟩, I.walk, fun p hp => by rw [get, if_neg (hir p hp)]; exact I.rest p hp, I.dst, fun V1 j u W1 hW hj => ?_, ?_, ?_, fun j u t hm hs ht => ?_, fun t u he hno => ?_, hw'⟩
            · rw [get] at hj
              by_cases e : j = i
              · rw [if_pos e] at hj; cases hj
              · rw [if_neg e] at hj; exact I.ahead V1 j u W1 hW hj
            · cases o.dst <;> simp [Act.put, I.size]
            · cases o.dst <;> simp [Act.put, I.defers]
            · by_cases e : j = i
              · subst e
                have := hiV u hm
                subst this
                rw [hdst] at ht
                rw [ht] at hdo ⊢
                have : t < n := dok_lt hdo t rfl
                show (a.tmps.setIfInBounds t _)[t]? = _
                rw [Array.getElem?_setIfInBounds_self_of_lt (by rw [I.size]; exact this)]
              · rw [get, if_neg e] at hs
                refine others _ v rfl t _ (fun e2 => e ?_) (I.done j u t hm hs ht)
                exact ((F.apart i j t hil (dstAt_lt ht) ht).2 (by rw [hdst]; exact e2)).symm
            · exact others _ v rfl t _ (fun e2 => hno i (by rw [get, if_pos rfl]) (by rw [hdst]; exact e2)) (I.old t u he fun j hs => hno j (by rw [get]; split; rfl; exact hs))
          rcases hqy with ⟨hg, hq⟩ | ⟨hg, hval⟩
          · rw [if_pos (by rw [hwant]; exact gok_wanted hg hK')]
            rcases hq W0 n ds a' w hK' I.holds with hr | ⟨f', args, hr, hc⟩
            · exact op_val (by rw [hrun]; exact hr) (fin w I.holds)
            · refine op_enter (by rw [hrun]; exact hr) (hc.mono ?_)
              rintro e w' ⟨rfl, hw'⟩
              exact ⟨_, rfl, fin w' hw'⟩
          · rw [if_neg (by rw [hwant, gok_wanted hg hK']; simp)]
            refine ⟨about_any (ro := ro) _ _ _, ?_⟩
            have := fin w I.holds
            rwa [hval] at this
        · -- it heads the rest
          have hir : ∃ m, (i, m) ∈ r := by
            obtain ⟨m, hm⟩ := F.all i hil
            rw [e1] at hm
            rcases List.mem_append.1 hm with h1 | h1
            · exfalso
              have : i ∈ pre.map (·.1) := List.mem_map.2 ⟨_, h1, rfl⟩
              rw [e2, List.mem_reverse] at this
              obtain ⟨x, hx, hxi⟩ := List.mem_map.1 this
              exact hiW ⟨x.2, by rw [← hxi]; exact hx⟩
            · exact ⟨m, h1⟩
          obtain ⟨m, hm⟩ := hir
          rcases hr with hr | ⟨j, r', rfl⟩
          · subst hr; cases hm
          · have hord := F.ord
            rw [e1] at hord
            obtain ⟨hch, _⟩ := ordB_at hord
            have hji : i = j := by
              rcases List.mem_cons.1 hm with h1 | h1
              · cases h1; rfl
              · exfalso
                have h2 := hch rfl _ h1
                have h3 := bit_down F.tab (S := fun i => S.getD i false = true) hdown i (fun k hk => edge_ready hi hk) j h2
                rw [I.rest (j, true) List.mem_cons_self] at h3; cases h3
            subst hji
            obtain ⟨o', bs, ho', hdo, hg, hchk, hM⟩ := I.walk
            rw [ho] at ho'; cases ho'
            obtain ⟨a', hK', hda, hrun, hwant⟩ := I.frame F hdown (p := i) (m := true) (pre := pre) (r' := r') (W' := W) e1 e2 (fun x hx => hx) hSi hi hE ho
            rw [if_pos (by rw [hwant]; exact gok_wanted hg hK')]
            let K' : Act → World → Prop := fun b w' => ∃ v B1 L1, B'.le B1 ∧ Alls (keepL bs D) B1 L1 ∧ MW P n ops T (fun E' B' L' => KGo W0 n (Q .normal) E' ds B' L') r' (keepL bs D) (eput o.dst v (wenv ops E W)) B1 L1 ∧ Knows n (eput o.dst v (wenv ops E W)) ds b ∧ Holds W0 B1 L1 w'
            have hop := hM W0 ds ro (fun _ _ _ => False) K' (fun v B1 L1 h1 h2 h3 b w' hb hw' => ⟨v, B1, L1, h1, h2, h3, hb, hw'⟩) a' w hK' I.holds
            refine wo_move (a' := a') (K' := K') hrun (F.nodef i o · ho) ?_ ?_ hop
            · rintro v w' ⟨v1, B1, L1, h1, h2, h3, h4, h5⟩
              have hvv : ∀ t, o.dst = some t → v1 = v := fun t ht => by
                rw [ht] at h4
                have e := h4.env t v1 (by simp [eput, look])
                have : t < n := dok_lt hdo t ht
                have hs : t < a'.tmps.size := by rw [hK'.size]; exact this
                have e' : (a'.tmps.setIfInBounds t v)[t]? = some v1 := e
                rw [Array.getElem?_setIfInBounds_self_of_lt hs] at e'
                exact (Option.some.inj e').symm
              have hwe : wenv ops E ((i, v1) :: W) = eput o.dst v1 (wenv ops E W) := by rw [wenv, hdst]
              have hnd2 := F.nodup
              rw [e1, List.map_append, List.map_cons] at hnd2
              obtain ⟨n1, n2⟩ := nodupB_at hnd2
              refine next _ _ ⟨(i, v1) :: W, r', keepL bs D, B1, L1, ⟨pre ++ [(i, true)], by simp [e1], by simp [e2]⟩, by rw [hwe]; exact h3, fun p hp => ?_, fun p hp => ?_, fun V1 j u W1 hW hj => ?_, ?_, ?_, fun j u t hm hs ht => ?_, fun t u he hno => ?_, h5⟩
              · rw [get, if_neg (fun e => n2 (List.mem_map.2 ⟨p, hp, e⟩))]
                exact I.rest p (List.mem_cons_of_mem _ hp)
              · rcases List.mem_cons.1 hp with rfl | hp
                · rw [hdst]; exact hdo
                · exact I.dst p hp
              · rw [get] at hj
                have hne : j ≠ i := fun e => by rw [if_pos e] at hj; cases hj
                rw [if_neg hne] at hj
                cases V1 with
                | nil => simp only [List.nil_append, List.cons.injEq, Prod.mk.injEq] at hW; exact absurd hW.1.1.symm hne
                | cons x V1 =>
                  simp only [List.cons_append, List.cons.injEq] at hW
                  obtain ⟨o1, ho1, hq⟩ := I.ahead V1 j u W1 hW.2 hj
                  refine ⟨o1, ho1, hq.imp id fun ⟨h6, _⟩ => ?_⟩
                  have hb : bit T i j = false := by
                    cases hb : bit T i j with
                    | false => rfl
                    | true =>
                      have := bit_down F.tab (S := fun i => S.getD i false = true) hdown i (fun k hk => edge_ready hi hk) j hb
                      rw [hj] at this; cases this
                  have h7 := keepL_mem hchk h6 hb
                  exact ⟨h7, h2.mem h7⟩
              · cases o.dst <;> simp [Act.put, I.size]
              · cases o.dst <;> simp [Act.put, I.defers]
              · rcases List.mem_cons.1 hm with hm | hm
                · cases hm
                  rw [hdst] at ht
                  have := hvv t ht
                  subst this
                  rw [ht] at hdo ⊢
                  have : t < n := dok_lt hdo t rfl
                  show (a.tmps.setIfInBounds t _)[t]? = _
                  rw [Array.getElem?_setIfInBounds_self_of_lt (by rw [I.size]; exact this)]
                · by_cases e : j = i
                  · exact absurd ⟨u, by rw [← e]; exact hm⟩ hiW
                  · rw [get, if_neg e] at hs
                    refine others _ v rfl t _ (fun e2 => e ?_) (I.done j u t hm hs ht)
                    exact ((F.apart i j t hil (dstAt_lt ht) ht).2 (by rw [hdst]; exact e2)).symm
              · exact others _ v rfl t _ (fun e2 => hno i (by rw [get, if_pos rfl]) (by rw [hdst]; exact e2)) (I.old t u he fun j hs => hno j (by rw [get]; split; rfl; exact hs))
            · rintro d w' ⟨v1, B1, L1, _, _, _, h4, _⟩
              have h5 := h4.defers
              have h6 := hK'.defers
              have : ({ a' with defers := d :: a'.defers }.put o.dst undef).defers = d :: a'.defers := by cases o.dst <;> rfl
              rw [this, h6] at h5
              have := congrArg List.length h5
              simp at this
  have hrep : ∀ j, (Array.replicate ops.size false).getD j false = false := fun j => by
    rw [Array.getD_eq_getD_getElem?]
    by_cases hj : j < ops.size
    · simp [hj]
    · rw [Array.getElem?_eq_none (by simp; omega)]; rfl
  have := main ops.size (Array.replicate ops.size false) (List.range ops.size) a0 { w0 with drawn := w0.drawn + 1 } (by simp) List.nodup_range (by simp) (fun j hj => by rw [hrep]; simp [hj]) (fun j hj => List.mem_range.1 hj) (fun j hj => by rw [hrep] at hj; cases hj)
    ⟨[], ord, [], B, L, ⟨⟨[], rfl, rfl⟩, h, fun p _ => hrep _, fun p hp => (by cases hp), fun V i v W' hW => (by simp at hW), ha0.size, ha0.defers, fun i v t hm => (by cases hm), fun t u e _ => ha0.env t u e, hw0.drew⟩⟩
  exact this
end
end Sc
