/- PoolQuota: whatever the clients' numbers, the law answers true; there is no condition on its input. -/
import Derived.Test.YtokekdbdnonebaaQa
import Derived.Test.YtokekdbdnonebaaEngX
namespace Go.Proofs.Ytokekdbdnonebaa
open Sc Go Go.ChangeShapes Go.WideShapes Go.ChangeAt Go.RowKit
theorem own0 : ownKnob Try.prog.godebug = none := by kernel_rfl
theorem laid0 : laidOutB Try.prog = true := by kernel_rfl
theorem rd22 : Try.prog.readableRec 22 = true := by kernel_rfl
theorem cells3 : Try.prog.cellsOf 3 = 1 := by kernel_rfl
set_option maxRecDepth 100000 in
theorem quota_lifted (os : Os) (started : os.Started) (H : Type) (enc : TypeId × Value → H) :
    ReturnsInHanded {} Try.checked os 3 .any (Rows.poolQuotaSpec.pre6 enc Try.prog Try.f3 Rows.poolQuotaRow.domain false) (Rows.poolQuotaSpec.post enc Try.prog Try.f3 false true false false) := by
  refine returnsInHanded_of_change (C := Try.checked) own0 started (by kernel_rfl) Try.func3
    (ChangeSpec.witness6 (enc := enc) (C := Try.checked) false ⟨#[], #[.slice none 0 0], []⟩ 8 (by kernel_rfl) (by kernel_rfl) (by kernel_rfl) (by kernel_rfl)) ?_
  intro W base args ds gs before hval0 hW hcnd _
  obtain ⟨p, q, hA0, hV, he, hfz, hnd⟩ := id hW
  have hA : DataW.TrodAll enc Try.prog W 0 (fun _ => true) true Try.f3.params.toList args.toList ds p := hA0
  have hval : ∀ (j : Nat) t v, Try.f3.params[j]? = some t → args[j]? = some v → Value.okWide Try.prog W .any base t v := hval0
  rw [Try.params3] at hA hval
  obtain ⟨v0, d0, rfl, rfl, h0⟩ := trodAll_one hA
  obtain ⟨rfl, rfl⟩ := trodVars_none hV
  obtain ⟨fuel, hf⟩ := trod_one h0
  obtain ⟨v, l, hc, hp, hl, _⟩ := opn_ints Try.underlying22 cells3 Try.underlying3 hf
  have hv : v0 = v := by
    rcases cells_one hc with h | ⟨cs, h⟩
    · exact h
    · have := hval 0 22 v0 rfl rfl
      rw [h] at this
      simp [Value.okWide, Try.underlying22, Cell.okWide, Cell.ok] at this
  subst hv
  refine (of_tri (T_scrivenerlaw12_PoolQuota (hpH W) v0 l hp)).mono fun e W' ⟨he', hb⟩ => ?_
  subst he'
  exact ⟨_, rfl, post_law (bt := 4) laid0 (by rw [Try.params3]; simp only [List.mem_singleton]; rintro t rfl; exact ⟨rd22, of_decide_eq_true (by kernel_rfl)⟩) rfl (by kernel_rfl) Try.underlying4 hW ⟨rfl, rfl, rfl⟩ hb⟩
theorem poolQuota_holds : Rows.PoolQuotaSaid :=
  OpenClaim.holds_of_wide 3 Try.f3 rfl rfl rfl rfl rfl rfl rfl ⟨rfl, rfl, rfl, rfl, rfl⟩ rfl rfl rfl rfl rfl (by kernel_rfl) Try.func3 (by kernel_rfl)
    (of_decide_eq_true (by kernel_rfl)) (by unfold Func.isWrapper; first | (rw [if_pos (by decide +kernel)]; kernel_rfl) | (rw [if_neg (by decide +kernel)]; exact ⟨rfl, rfl⟩))
    (fun os started H enc _ => quota_lifted os started H enc)
#print axioms poolQuota_holds
end Go.Proofs.Ytokekdbdnonebaa
