/- slices.Clone and num.Put, whatever is one's own already. -/
import Derived.Test.YthoknkogdldgcaaDoorPut
import Derived.Test.YthoknkogdldgcaaDoorAmZ
set_option linter.unusedVariables false
set_option linter.unusedSimpArgs false
namespace Go.Proofs.YthoknkogdldgcaaDoor
open Go Go.AM Go.RowKit
theorem cloneG {st : St} {v : PV} {s : List UInt8} (hv : RB st v s) (hl : s.length ≤ 140737488355328) : ∃ v' st', T.R (.raw n_slices_Clone_byte_byte [v] st v' st') ∧ AccT 1 st' v' (byteCells s) ∧ Grow st .nilSl st' v' := by
  have hsrc : srcOf (st.new (.row 0 1 [] true)) v = some (byteCells s) := (hv.keep (st' := st.new (.row 0 1 [] true)) (by simp [St.new]) (fun u hu => St.get_new_old (hv.lt hu))).src
  refine raw_VQ rfl rfl ?_
  by_cases hn : v = .nilSl
  · subst hn
    have hs : s = [] := by
      rcases hv with ⟨_, h⟩ | ⟨f, h⟩ | ⟨t, g, lv, h, _⟩
      · exact h
      · cases h
      · cases h
    subst hs
    repeat' first | refine V_finRQ rfl rfl ?_ | refine V_O rfl ?_ | refine O_step rfl ?_ | refine O_nil' ?_ | refine V_cT rfl rfl ?_ | refine V_cF rfl rfl ?_ | refine V_cEq rfl rfl ?_ | refine V_cNe rfl rfl ?_ | refine V_cB rfl rfl (fun _ => ?_) (fun _ => ?_) | refine O_gT' rfl ?_ | refine O_gU' rfl ?_ | refine O_gF' rfl rfl ?_ | refine O_gEq rfl ?_ | refine O_gNe rfl ?_ | refine O_gS rfl (fun _ => ?_) (fun _ => ?_) | refine V_fA rfl rfl ?_ | refine V_fAN rfl rfl ?_ | refine V_D rfl ?_ | refine D_step rfl ?_ | refine D_nil' ?_ | refine D_gT' rfl ?_ | refine D_gU' rfl ?_ | refine D_gF' rfl rfl ?_ | refine D_gS rfl (fun _ => ?_) (fun _ => ?_)
    exact ⟨.inl ⟨rfl, rfl⟩, .refl _ _⟩
  · have hnn : isNil 0 v = some false := by
      rcases hv with ⟨h, _⟩ | ⟨f, rfl⟩ | ⟨t, g, lv, rfl, _⟩
      · exact absurd h hn
      · rfl
      · rfl
    have hq : ∀ (e : EC), e.get 3 = some v → stepQ st.get e (.eqNil false 0 (.t 3)) = some (.bool false) := fun e he => by
      simp only [stepQ, get1, Opd.get, he, hnn]
      rfl
    have hg0 : AccT 1 (st.new (.row 0 1 [] true)) (.osl st.next 0 0 (([] : List (List PV)).length) false) [] := .inr ⟨st.next, 0, rfl, St.get_new, by simp [St.new]⟩
    have hgr : Grow st .nilSl (st.new (.row 0 1 [] true)) (.osl st.next 0 0 (([] : List (List PV)).length) false) := ⟨rfl, by simp [St.new], .inr ⟨st.next, rfl, Nat.le_refl _⟩, fun u hu _ => St.get_new_old hu⟩
    by_cases hs : s = []
    · subst hs
      repeat' first | refine O_step (hq _ rfl) ?_ | refine O_append rfl rfl hsrc (okEls_bytes _) (by decide) (by decide) (appendTo_none (.inr (.inr ⟨_, _, _, _, _, rfl⟩))) ?_ | refine O_stepL rfl ?_ | refine V_finRQ rfl rfl ?_ | refine V_O rfl ?_ | refine O_step rfl ?_ | refine O_nil' ?_ | refine V_cT rfl rfl ?_ | refine V_cF rfl rfl ?_ | refine V_cEq rfl rfl ?_ | refine V_cNe rfl rfl ?_ | refine V_cB rfl rfl (fun _ => ?_) (fun _ => ?_) | refine O_gT' rfl ?_ | refine O_gU' rfl ?_ | refine O_gF' rfl rfl ?_ | refine O_gEq rfl ?_ | refine O_gNe rfl ?_ | refine O_gS rfl (fun _ => ?_) (fun _ => ?_) | refine V_fA rfl rfl ?_ | refine V_fAN rfl rfl ?_ | refine V_D rfl ?_ | refine D_step rfl ?_ | refine D_nil' ?_ | refine D_gT' rfl ?_ | refine D_gU' rfl ?_ | refine D_gF' rfl rfl ?_ | refine D_gS rfl (fun _ => ?_) (fun _ => ?_)
      exact ⟨hg0, hgr⟩
    · obtain ⟨v', st', k1, k2, k3⟩ := hg0.grow (bytes := 1) (src := byteCells s) (by simpa [byteCells] using hs) (by simp only [byteCells_length, roomLen, List.length_nil]; omega)
      repeat' first | refine O_step (hq _ rfl) ?_ | refine O_append rfl rfl hsrc (okEls_bytes _) (by decide) (by decide) k1 ?_ | refine O_stepL rfl ?_ | refine V_finRQ rfl rfl ?_ | refine V_O rfl ?_ | refine O_step rfl ?_ | refine O_nil' ?_ | refine V_cT rfl rfl ?_ | refine V_cF rfl rfl ?_ | refine V_cEq rfl rfl ?_ | refine V_cNe rfl rfl ?_ | refine V_cB rfl rfl (fun _ => ?_) (fun _ => ?_) | refine O_gT' rfl ?_ | refine O_gU' rfl ?_ | refine O_gF' rfl rfl ?_ | refine O_gEq rfl ?_ | refine O_gNe rfl ?_ | refine O_gS rfl (fun _ => ?_) (fun _ => ?_) | refine V_fA rfl rfl ?_ | refine V_fAN rfl rfl ?_ | refine V_D rfl ?_ | refine D_step rfl ?_ | refine D_nil' ?_ | refine D_gT' rfl ?_ | refine D_gU' rfl ?_ | refine D_gF' rfl rfl ?_ | refine D_gS rfl (fun _ => ?_) (fun _ => ?_)
      exact ⟨by simpa using k2, hgr.trans k3⟩
end Go.Proofs.YthoknkogdldgcaaDoor
