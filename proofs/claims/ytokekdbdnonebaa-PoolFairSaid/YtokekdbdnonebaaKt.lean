/- Keys of maps. -/
import Derived.Test.YtokekdbdnonebaaTy
import Derived.Test.YtokekdbdnonebaaEngT
import Derived.Laws.StructEq
namespace Go.Proofs.Ytokekdbdnonebaa
open Sc Go
/-- A pair of numbers as a key. -/
def vPair (p : Int × Int) : Value := agg [.one (.int .i64 p.1), .one (.int .i64 p.2)]
theorem ckInt (e : Bool) (n : Nat) (x : Int) (w : World) : (Instr.checkKey e (n + 1) 3 (.int .i64 x)).run Try.prog w = .ok () w := by
  simp [Instr.checkKey, Try.runUnderlying3]
theorem eqInt (n : Nat) (x y : Int) (w : World) : (Op.equalIn (n + 1) 3 (.int .i64 x) (.int .i64 y)).run Try.prog w = .ok (decide (x = y)) w := by
  have : (x == y) = decide (x = y) := by rw [Bool.eq_iff_iff]; simp
  simp [Op.equalIn, Try.runUnderlying3, this]
theorem ck108 (e : Bool) (n : Nat) (p : Int × Int) (w : World) : (Instr.checkKey e (n + 2) 108 (vPair p)).run Try.prog w = .ok () w := by
  rw [Instr.checkKey]
  simp [vPair, agg, flat, Seg.cells, Try.runUnderlying108, part, Try.isAgg3, ckInt]
theorem eq108 (n : Nat) (p q : Int × Int) (w : World) : (Op.equalIn (n + 2) 108 (vPair p) (vPair q)).run Try.prog w = .ok (decide (p = q)) w := by
  rw [Op.equalIn]
  simp [vPair, agg, flat, Seg.cells, Try.runUnderlying108, part, Try.isAgg3, Try.stoodInHeld108, eqInt]
  obtain ⟨a, b⟩ := p
  obtain ⟨c, d⟩ := q
  by_cases h1 : a = c <;> by_cases h2 : b = d <;> simp [h1, h2]
instance kt108 : KeyT Try.prog 108 vPair := keyT_of (fun e k w => ck108 e 9998 k w) (fun a b w => eq108 9998 a b w) Try.runUnderlying108 (fun u v => rfl)
  (fun k => sameBits_agg 9999 _ fun v hv => by
    simp only [flat, Seg.cells, List.cons_append, List.nil_append, List.append_nil, List.mem_cons, List.not_mem_nil, or_false] at hv
    rcases hv with rfl | rfl <;> exact sbInt _ _ _)
instance kt3 : KeyT Try.prog 3 (fun x : Int => Value.int .i64 x) := keyT_int Try.runUnderlying3
theorem ckID (e : Bool) (n : Nat) (i : ID) (w : World) : (Instr.checkKey e (n + 2) 49 (vID i)).run Try.prog w = .ok () w := by
  have key : ∀ (l : List Nat), (∀ j ∈ l, j < 32) → (forIn (m := Sem) l PUnit.unit fun i_1 (_ : PUnit) => do
      let sz ← Go.sizeOf 5
      let y ← part 5 (flat [.row 32 i.cs]).toArray (i_1 * sz)
      Instr.checkKey e (n + 1) 5 y
      pure (ForInStep.yield PUnit.unit)).run Try.prog w = .ok PUnit.unit w := fun l => by
    induction l with
    | nil => intro _; simp
    | cons j l ih =>
      intro hj
      have h1 : j < 32 := hj j List.mem_cons_self
      have h2 : ∃ b : UInt8, (flat [.row 32 i.cs])[j]? = some (cB b) := by
        have : j < (flat [.row 32 i.cs]).length := by simp [flat, Seg.cells, ID.cs_length]; exact h1
        refine ⟨i.bs[j]'(by rw [i.len]; exact h1), ?_⟩
        simp [flat, Seg.cells, ID.cs, cBs, i.len, h1]
      obtain ⟨b, hb⟩ := h2
      simp only [List.forIn_cons, Sem.run_bind, Try.sizeOf5, Result.andThen_ok]
      rw [show (part 5 (flat [.row 32 i.cs]).toArray (j * 1)).run Try.prog w = .ok (cB b) w by simp [part, Try.isAgg5, hb]]
      simp only [Result.andThen_ok]
      rw [show (Instr.checkKey e (n + 1) 5 (cB b)).run Try.prog w = .ok () w by simp [Instr.checkKey, Try.runUnderlying5, cB]]
      simp only [Result.andThen_ok, Sem.run_pure]
      exact ih fun k hk => hj k (List.mem_cons_of_mem _ hk)
  rw [Instr.checkKey]
  simp only [vID, agg, Sem.run_bind, Try.runUnderlying49, Result.andThen_ok]
  simp only [Std.Legacy.Range.forIn_eq_forIn_range', Std.Legacy.Range.size, Nat.sub_zero, Nat.add_one_sub_one, Nat.div_one]
  rw [key _ fun j hj => by have := List.mem_range'.1 hj; omega]
  simp
instance kt49 : KeyT Try.prog 49 vID := keyT_of (fun e k w => ckID e 9998 k w) (fun a b w => run_eqID (P := Try.prog) (t := 49) (e := 5) a b w) Try.runUnderlying49 (fun u v => rfl)
  (fun k => sameBits_agg 9999 _ fun v hv => by
    simp only [flat, Seg.cells, List.append_nil, ID.cs, cBs, List.mem_map] at hv
    obtain ⟨b, _, rfl⟩ := hv
    exact sbInt _ _ _)

end Go.Proofs.Ytokekdbdnonebaa
