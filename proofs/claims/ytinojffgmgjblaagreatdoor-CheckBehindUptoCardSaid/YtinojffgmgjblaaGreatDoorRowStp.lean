/- Readings of values and of steps. -/
import Derived.Test.YtinojffgmgjblaaGreatDoorProg
import Derived.Test.YtinojffgmgjblaaGreatDoorStpA
import Derived.Test.YtinojffgmgjblaaGreatDoorAmZ
set_option linter.unusedVariables false
set_option linter.unusedSimpArgs false
namespace Go.Proofs.YtinojffgmgjblaaGreatDoor
open Go Go.AM Go.RowKit
theorem i64_rng {n : Int} (h : IntKind.i64.min ≤ n ∧ n ≤ IntKind.i64.max) : I64 n := by
  have h1 : IntKind.i64.min = -9223372036854775808 := rfl
  have h2 : IntKind.i64.max = 9223372036854775807 := rfl
  rw [h1, h2] at h
  exact h
instance : Inhabited Val := ⟨.mk 0 0 [] []⟩
instance : Inhabited Prd := ⟨.mk 0 []⟩
instance : Inhabited Stp := ⟨.mk 0 [] [] [] [] []⟩
section
variable {H : Type} {B : TypeId → DataW H → Prop} (hB : BdOK Tryz.prog B)
include hB
theorem rd_name (d : DataW H) (cs : List PV) (h : TV Tryz.prog 9 d cs) (hb : B 9 d) : ∃ a, NmC a cs := by
  obtain ⟨s, rfl, rfl, _⟩ := tv_str Tryz.underlying9 h
  exact ⟨s, hB.str hb, rfl⟩
omit hB in
theorem rd_num (d : DataW H) (cs : List PV) (h : TV Tryz.prog 2 d cs) : ∃ a, NuC a cs := by
  obtain ⟨n, _, rfl, hn⟩ := tv_int Tryz.underlying2 h
  exact ⟨n, i64_rng hn, rfl⟩
theorem rd_val : ∀ (n : Nat) (d : DataW H) (cs : List PV), SizeOf.sizeOf d ≤ n → TV Tryz.prog 65 d cs → B 65 d → ∃ v, VC v cs := by
  intro n
  induction n with
  | zero =>
    intro d cs hn
    cases d <;> simp at hn
  | succ n ih =>
    intro d cs hn h hb
    obtain ⟨ds, qss, rfl, rfl, hl1, hl2, hf⟩ := tv_struct Tryz.underlying65 h
    have hbf := hB.st Tryz.underlying65 hb
    have hsz := fun d h => field_size (H := H) (ds := ds) (d := d) h
    match ds, qss, hl1, hl2, hf, hbf, hsz, hn with
    | [d0, d1, d2, d3], [q0, q1, q2, q3], hl1, hl2, hf, hbf, hsz, hn =>
      have f3 := hf 3 _ d3 q3 rfl rfl rfl
      obtain ⟨k, _, rfl, hk⟩ := tv_int Tryz.underlying3 (hf 0 _ d0 q0 rfl rfl rfl)
      obtain ⟨m, _, rfl, hm⟩ := tv_int Tryz.underlying2 (hf 1 _ d1 q1 rfl rfl rfl)
      obtain ⟨s, rfl, rfl, _⟩ := tv_str Tryz.underlying9 (hf 2 _ d2 q2 rfl rfl rfl)
      have hs := hB.str (hbf 2 _ _ rfl rfl)
      have h3 := hsz d3 (by simp)
      obtain ⟨q, l, rfl, hq⟩ := lr_of (R := VC) hB Tryz.underlying27 (of_decide_eq_true (by kernel_rfl)) (of_decide_eq_true (by kernel_rfl)) f3 (hbf 3 _ _ rfl rfl) (fun x cs hx hv hbx => ih x cs (by omega) hv hbx)
      exact ⟨.mk k m s l, LC.vc hq (i64_rng hk) (i64_rng hm) hs⟩
theorem rd_vals {d : DataW H} {qs : List PV} (h : TV Tryz.prog 27 d qs) (hb : B 27 d) : ∃ q l, qs = [q] ∧ LR VC q l :=
  lr_of hB Tryz.underlying27 (of_decide_eq_true (by kernel_rfl)) (of_decide_eq_true (by kernel_rfl)) h hb (fun x cs _ hv hbx => rd_val hB _ x cs (Nat.le_refl _) hv hbx)
theorem rd_prd (d : DataW H) (cs : List PV) (h : TV Tryz.prog 55 d cs) (hb : B 55 d) : ∃ a, PrC a cs := by
  obtain ⟨ds, qss, rfl, rfl, hl1, hl2, hf⟩ := tv_struct Tryz.underlying55 h
  have hbf := hB.st Tryz.underlying55 hb
  match ds, qss, hl1, hl2, hf, hbf with
  | [d0, d1], [q0, q1], hl1, hl2, hf, hbf =>
    obtain ⟨k, _, rfl, hk⟩ := tv_int Tryz.underlying3 (hf 0 _ d0 q0 rfl rfl rfl)
    obtain ⟨q, l, rfl, hq⟩ := rd_vals hB (hf 1 _ d1 q1 rfl rfl rfl) (hbf 1 _ _ rfl rfl)
    exact ⟨.mk k l, i64_rng hk, q, rfl, hq⟩
end
end Go.Proofs.YtinojffgmgjblaaGreatDoor
