/- A pile that is forgotten again; lists of bytes on the pile. -/
import Derived.Test.YtokekdbdnonebaaEngO
namespace Sc
open Go
section
variable {P : Program} {ro : Option Nat} {Q : Exit → Act → World → Prop} {W0 : World} {n : Nat} {K : Act → World → Prop} {E : Env} {ds : List Deferred} {B : PH} {L : List Asrt}
theorem Holds.less {w : World} {B' : PH} (h : Holds W0 B' L w) (l : B.le B') : Holds W0 B L w :=
  let ⟨b, p, k, d, s, t⟩ := h
  ⟨b, fun x o e => p x o (l x o e), k, PH.disj_le d l (PH.le_refl _), s, t⟩
/-- What came onto the pile is forgotten. -/
theorem k_less {B' : PH} (l : B.le B') (h : KGo W0 n K E ds B L) : KGo W0 n K E ds B' L := fun a w ha hw => h a w ha (hw.less l)
end
theorem isB_row {B : PH} {b o m c : Nat} {l : List UInt8} (h : prow B b o (cBs l)) (hm : m = l.length) (hc : l.length ≤ c) : IsB B (.slice (some ⟨b, o, none⟩) m c) l := by
  subst hm; exact ⟨_, c, rfl, hc, fun _ => ⟨b, o, rfl, h⟩⟩
def IsBs (B : PH) : List Value → List (List UInt8) → Prop
  | [], [] => True
  | u :: us, x :: xs => IsB B u x ∧ IsBs B us xs
  | _, _ => False
theorem IsBs.get {B : PH} : ∀ {us : List Value} {xs : List (List UInt8)}, IsBs B us xs → us.length = xs.length ∧ ∀ (i : Nat) u x, us[i]? = some u → xs[i]? = some x → IsB B u x
  | [], [], _ => ⟨rfl, fun i u x h => by simp at h⟩
  | u :: us, x :: xs, h => by
    obtain ⟨h1, h2⟩ := IsBs.get h.2
    refine ⟨by simp [h1], fun i v y hv hy => ?_⟩
    cases i with
    | zero => simp at hv hy; subst hv; subst hy; exact h.1
    | succ i => simp at hv hy; exact h2 i v y hv hy
  | [], _ :: _, h => h.elim
  | _ :: _, [], h => h.elim
theorem isBB_row {B : PH} {b o m c : Nat} {us : List Value} {xs : List (List UInt8)} (h : prow B b o us) (hs : IsBs B us xs) (hm : m = xs.length) (hc : xs.length ≤ c) : IsBB B (.slice (some ⟨b, o, none⟩) m c) xs := by
  subst hm
  obtain ⟨h1, h2⟩ := hs.get
  exact ⟨us, h1, ⟨_, c, rfl, hc, fun _ => ⟨b, o, rfl, h⟩⟩, h2⟩
theorem IsB.one {B : PH} {v : Value} {l : List UInt8} (h : IsB B v l) : OneC v := by obtain ⟨a, c, rfl, _⟩ := h; exact ⟨rfl⟩
theorem IsBB.one {B : PH} {v : Value} {l : List (List UInt8)} (h : IsBB B v l) : OneC v := by obtain ⟨us, _, ⟨a, c, rfl, _⟩, _⟩ := h; exact ⟨rfl⟩
theorem IsIDs.one {B : PH} {v : Value} {l : List ID} (h : IsIDs B v l) : OneC v := by obtain ⟨a, c, rfl, _⟩ := h; exact ⟨rfl⟩
theorem isB_nil (B : PH) : IsB B (.slice none 0 0) [] := prd.nil B
end Sc
