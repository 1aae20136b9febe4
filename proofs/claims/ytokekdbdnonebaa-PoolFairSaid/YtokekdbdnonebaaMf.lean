/- Trees: the functions themselves. -/
import Derived.Test.YtokekdbdnonebaaMe
namespace Sc
open Go
def pop (n : Nat) : Nat := if h : n = 0 then 0 else n % 2 + pop (n / 2)
termination_by n
decreasing_by omega
theorem pop_zero : pop 0 = 0 := by rw [pop, dif_pos rfl]
theorem pop_even {n : Nat} (h : n % 2 = 0) : pop n = pop (n / 2) := by
  by_cases h0 : n = 0
  · subst h0; rfl
  · rw [pop, dif_neg h0]; omega
theorem pop_odd {n : Nat} (h : n % 2 = 1) : pop n = pop (n / 2) + 1 := by rw [pop, dif_neg (by omega)]; omega
theorem pop_next_even {n : Nat} (h : n % 2 = 0) : pop (n + 1) = pop n + 1 := by
  rw [pop_odd (n := n + 1) (by omega), pop_even h, show (n + 1) / 2 = n / 2 by omega]
theorem pop_next_odd {n : Nat} (h : n % 2 = 1) : pop (n + 1) = pop (n / 2 + 1) := by
  rw [pop_even (n := n + 1) (by omega), show (n + 1) / 2 = n / 2 + 1 by omega]
theorem pop_le (n : Nat) : pop n ≤ n := by
  induction n using Nat.strongRecOn with
  | _ n ih =>
    by_cases h0 : n = 0
    · subst h0; rw [pop_zero]; exact Nat.le_refl _
    · rw [pop, dif_neg h0]
      have := ih (n / 2) (by omega)
      omega
theorem pop_pos {n : Nat} (h : 0 < n) : 0 < pop n := by
  induction n using Nat.strongRecOn with
  | _ n ih =>
    rcases Nat.mod_two_eq_zero_or_one n with h2 | h2
    · rw [pop_even h2]; exact ih _ (by omega) (by omega)
    · rw [pop_odd h2]; omega
/-- A leaf more, of so many. -/
def carryT (n : Nat) (tops : List ID) (id : ID) : List ID := if h : n % 2 = 1 then carryT (n / 2) tops.dropLast (nodeB (tops.getLastD zID) id) else tops ++ [id]
termination_by n
decreasing_by omega
theorem carryT_odd {n : Nat} (h : n % 2 = 1) (ts : List ID) (x id : ID) : carryT n (ts ++ [x]) id = carryT (n / 2) ts (nodeB x id) := by
  rw [carryT, dif_pos h]; simp
theorem carryT_even {n : Nat} (h : ¬ n % 2 = 1) (tops : List ID) (id : ID) : carryT n tops id = tops ++ [id] := by rw [carryT, dif_neg h]
theorem carryT_length (n : Nat) : ∀ (tops : List ID) (id : ID), tops.length = pop n → (carryT n tops id).length = pop (n + 1) := by
  induction n using Nat.strongRecOn with
  | _ n ih =>
    intro tops id h
    by_cases h2 : n % 2 = 1
    · rw [carryT, dif_pos h2, ih _ (by omega) _ _ (by rw [List.length_dropLast, h, pop_odd h2]; omega), pop_next_odd h2]
    · rw [carryT_even h2, pop_next_even (by omega)]; simp [h]
abbrev TS := Nat × List ID
def addT (s : TS) (id : ID) : TS := (s.1 + 1, carryT s.1 s.2 id)
def addsT (s : TS) (ids : List ID) : TS := ids.foldl addT s
def TS.ok (s : TS) : Prop := s.2.length = pop s.1
theorem addT_ok {s : TS} (h : s.ok) (id : ID) : (addT s id).ok := carryT_length _ _ _ h
theorem addsT_ok {s : TS} (h : s.ok) (ids : List ID) : (addsT s ids).ok ∧ (addsT s ids).1 = s.1 + ids.length := by
  induction ids generalizing s with
  | nil => exact ⟨h, rfl⟩
  | cons x r ih =>
    obtain ⟨h1, h2⟩ := ih (addT_ok h x)
    refine ⟨h1, ?_⟩
    show (addsT (addT s x) r).1 = _
    rw [h2, addT, List.length_cons]; omega
theorem addsT_next {s : TS} {ids : List ID} {k : Nat} {x : ID} (h : ids[k]? = some x) : addsT s (ids.take (k + 1)) = addT (addsT s (ids.take k)) x := by
  rw [take_succ h, addsT, List.foldl_append]; rfl
/-- The sum of all. -/
def foldR : List ID → ID → ID
  | [], id => id
  | x :: r, id => foldR r (nodeB x id)
def rootT (s : TS) : ID := if s.1 = 0 then sumB [] else foldR (s.2.dropLast.reverse) (s.2.getLastD zID)
theorem snoc_of {α : Type} {l : List α} (h : 0 < l.length) : ∃ ts x, l = ts ++ [x] :=
  ⟨l.dropLast, l.getLast (List.ne_nil_of_length_pos h), (List.dropLast_concat_getLast _).symm⟩
theorem take_drop_ids (ts : List ID) (x : ID) : (((ts ++ [x]).flatMap ID.cs).drop (ts.length * 32)).take 32 = x.cs := (ids_sub (l := ts ++ [x]) (j := ts.length) (a := x) (by simp)).1
theorem flatMap_len (l : List ID) : (l.flatMap ID.cs).length = l.length * 32 := by
  induction l with
  | nil => rfl
  | cons a l ih => rw [List.flatMap_cons, List.length_append, ih, ID.cs_length, List.length_cons]; omega

/-! ### A list's whole trees, in memory -/
/-- Block b holds them. -/
def rgA (tR tI : TypeId) (b : Nat) (s : TS) : Asrt := aex (fun v : Value => OneC v) fun v => [bk b tR [.one (.int .i64 (s.1 : Int)), .one v], ow tI 32 v s.2.length (s.2.flatMap ID.cs)]
section
variable {P : Program} {ro : Option Nat} {Q : Exit → Act → World → Prop} {W0 : World} {n : Nat} {K : Act → World → Prop} {E : Env} {ds : List Deferred} {B : PH} {L : List Asrt}
theorem k_close {α : Type} {p : α → Prop} {M : α → List Asrt} (x : α) {R : List Asrt} (hp : p x) [pt : Part (M x) L R] (h : KGo W0 n K E ds B (aex p M :: R)) : KGo W0 n K E ds B L := k_ent pt.out (k_shut x hp h)
theorem k_rgO (tR tI : TypeId) (b : Nat) (s : TS) {R : List Asrt} [p : Pick (rgA tR tI b s) L R] (h : ∀ v, OneC v → KGo W0 n K E ds B (bk b tR [.one (.int .i64 (s.1 : Int)), .one v] :: ow tI 32 v s.2.length (s.2.flatMap ID.cs) :: R)) : KGo W0 n K E ds B L :=
  k_ent p.out (k_aex h)
theorem k_rgC (tR tI : TypeId) (b : Nat) (s : TS) (v : Value) [hv : OneC v] {R : List Asrt} [pt : Part [bk b tR [.one (.int .i64 (s.1 : Int)), .one v], ow tI 32 v s.2.length (s.2.flatMap ID.cs)] L R] (h : KGo W0 n K E ds B (rgA tR tI b s :: R)) : KGo W0 n K E ds B L :=
  k_ent pt.out (k_shut (M := fun v => [bk b tR [.one (.int .i64 (s.1 : Int)), .one v], ow tI 32 v s.2.length (s.2.flatMap ID.cs)]) v hv h)
theorem k_rgC0 (tR tI : TypeId) (b : Nat) {R : List Asrt} [pt : Part [bk b tR [.one (.int .i64 0), .one (.slice none 0 0)]] L R] (h : KGo W0 n K E ds B (rgA tR tI b (0, []) :: R)) : KGo W0 n K E ds B L :=
  k_ent pt.out <| k_ownil tI 32 <| k_ent (Ent.swap _ _ _) <| k_shut (M := fun v => [bk b tR [.one (.int .i64 (((0, []) : TS).1 : Int)), .one v], ow tI 32 v ((0, []) : TS).2.length (((0, []) : TS).2.flatMap ID.cs)]) (.slice none 0 0) ⟨rfl⟩ h
end
end Sc
