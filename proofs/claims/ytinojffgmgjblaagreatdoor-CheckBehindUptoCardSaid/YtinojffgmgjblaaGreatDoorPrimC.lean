/- strings.Trim by the library's contract; entries without a body. -/
import Derived.Test.YtinojffgmgjblaaGreatDoorT
import Derived.Test.YtinojffgmgjblaaGreatDoorShelf
import Derived.Test.YtinojffgmgjblaaGreatDoorAmZ
set_option linter.unusedVariables false
set_option linter.unusedSimpArgs false
namespace Go.Proofs.YtinojffgmgjblaaGreatDoor
open Go Go.AM Go.RowKit
instance : Gl := ⟨fun _ => True, fun _ _ => True.intro⟩
theorem P_sem : ∀ f args r, P0 f args r → SemCall Tryz.prog f args r := by
  rintro f args r ⟨rfl, s, cs, hs, hc, ha, rfl, rfl⟩
  refine ⟨⟨Tryz.f59, (Tryz.f59.body).getD .skip, Tryz.func59, by kernel_rfl, by kernel_rfl⟩, fun F w vals hF hg hsz hrep => ?_⟩
  have e0 : vals.getD 0 undef = .string ⟨s.toArray⟩ := rep_str (hrep 0 _ rfl)
  have e1 : vals.getD 1 undef = .string ⟨cs.toArray⟩ := rep_str (hrep 1 _ rfl)
  have ev : vals = #[.string ⟨s.toArray⟩, .string ⟨cs.toArray⟩] := by rw [arr2 hsz, e0, e1]
  have hz : (⟨s.toArray⟩ : ByteArray).size = s.length := by simp [ByteArray.size]
  have hy : (⟨cs.toArray⟩ : ByteArray).size = cs.length := by simp [ByteArray.size]
  have hd : (⟨s.toArray⟩ : ByteArray).data.toList = s := by simp
  have hd2 : (⟨cs.toArray⟩ : ByteArray).data.toList = cs := by simp
  rw [ev]
  have h := Any.strings_Trim_laid Tryz.lays160 (by kernel_rfl) ⟨s.toArray⟩ ⟨cs.toArray⟩ w (by omega) (by omega) (fun j b hb => ha b (by rw [hd2] at hb; exact List.mem_of_getElem? hb))
  rw [hd, hd2] at h
  exact Calls.mono h fun e w' ⟨he, hb⟩ => ⟨_, he, hb, .str _⟩
theorem X_sem : ∀ f args r, X f args r → SemExt Tryz.prog f args r := by
  rintro f args r (h | h | h)
  · exact h.sem Tryz.func101 (by kernel_rfl) (by kernel_rfl) (by kernel_rfl) (by kernel_rfl)
  · exact h.sem Tryz.func102 (by kernel_rfl) (by kernel_rfl) (by kernel_rfl) (by kernel_rfl)
  · exact h.sem Tryz.func87 (by kernel_rfl) (by kernel_rfl) (by kernel_rfl) (by kernel_rfl)
end Go.Proofs.YtinojffgmgjblaaGreatDoor
