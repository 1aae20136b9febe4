/- PoolFair: whatever the entries, the law answers true; there is no condition on its input. -/
import Derived.Test.YtokekdbdnonebaaQb
import Derived.Test.YtokekdbdnonebaaEngX
namespace Go.Proofs.Ytokekdbdnonebaa
open Sc Go Go.ChangeShapes Go.WideShapes Go.ChangeAt Go.RowKit
theorem own1 : ownKnob Try.prog.godebug = none := by kernel_rfl
theorem laid1 : laidOutB Try.prog = true := by kernel_rfl
theorem rd39 : Try.prog.readableRec 39 = true := by kernel_rfl
theorem cells29 : Try.prog.cellsOf 29 = 1 := by kernel_rfl
theorem cells5 : Try.prog.cellsOf 5 = 1 := by kernel_rfl
set_option maxRecDepth 100000 in
theorem fair_lifted (os : Os) (started : os.Started) (H : Type) (enc : TypeId × Value → H) :
    ReturnsInHanded {} Try.checked os 4 .any (Rows.poolFairSpec.pre6 enc Try.prog Try.f4 Rows.poolFairRow.domain false) (Rows.poolFairSpec.post enc Try.prog Try.f4 false true false false) := by
  refine returnsInHanded_of_change (C := Try.checked) own1 started (by kernel_rfl) Try.func4
    (ChangeSpec.witness6 (enc := enc) (C := Try.checked) false ⟨#[], #[.slice none 0 0], []⟩ 8 (by kernel_rfl) (by kernel_rfl) (by kernel_rfl) (by kernel_rfl)) ?_
  intro W base args ds gs before hval0 hW hcnd _
  obtain ⟨p, q, hA0, hV, he, hfz, hnd⟩ := id hW
  have hA : DataW.TrodAll enc Try.prog W 0 (fun _ => true) true Try.f4.params.toList args.toList ds p := hA0
  have hval : ∀ (j : Nat) t v, Try.f4.params[j]? = some t → args[j]? = some v → Value.okWide Try.prog W .any base t v := hval0
  rw [Try.params4] at hA hval
  obtain ⟨v0, d0, rfl, rfl, h0⟩ := trodAll_one hA
  obtain ⟨rfl, rfl⟩ := trodVars_none hV
  obtain ⟨fuel, hf⟩ := trod_one h0
  obtain ⟨v, l, hc, hp, hl, _⟩ := open_bb Try.underlying39 cells29 Try.underlying29 cells5 Try.underlying5 hf
  have hv : v0 = v := by
    rcases cells_one hc with h | ⟨cs, h⟩
    · exact h
    · have := hval 0 39 v0 rfl rfl
      rw [h] at this
      simp [Value.okWide, Try.underlying39, Cell.okWide, Cell.ok] at this
  subst hv
  refine (of_tri (T_scrivenerlaw12_PoolFair (hpH W) v0 l hp)).mono fun e W' ⟨he', hb⟩ => ?_
  subst he'
  exact ⟨_, rfl, post_law (bt := 4) laid1 (by rw [Try.params4]; simp only [List.mem_singleton]; rintro t rfl; exact ⟨rd39, of_decide_eq_true (by kernel_rfl)⟩) rfl (by kernel_rfl) Try.underlying4 hW ⟨rfl, rfl, rfl⟩ hb⟩
theorem poolFair_holds : Rows.PoolFairSaid :=
  OpenClaim.holds_of_wide 4 Try.f4 rfl rfl rfl rfl rfl rfl rfl ⟨rfl, rfl, rfl, rfl, rfl⟩ rfl rfl rfl rfl rfl (by kernel_rfl) Try.func4 (by kernel_rfl)
    (of_decide_eq_true (by kernel_rfl)) (by unfold Func.isWrapper; first | (rw [if_pos (by decide +kernel)]; kernel_rfl) | (rw [if_neg (by decide +kernel)]; exact ⟨rfl, rfl⟩))
    (fun os started H enc _ => fair_lifted os started H enc)
#print axioms poolFair_holds
end Go.Proofs.Ytokekdbdnonebaa
