/- The law NumApart over plain values. -/
import Derived.Test.YthoknkogdldgcaaPut
set_option linter.unusedVariables false
set_option linter.unusedSimpArgs false
namespace Go.Proofs.Ythoknkogdldgcaa
open Go Go.AM Go.RowKit

theorem putL_ne : ∀ n u, putL n u ≠ []
  | 0, u => by simp [putL]
  | n + 1, u => by unfold putL; split <;> simp
theorem putL_apart : ∀ (n u v : Nat), u < 128 ^ (n + 1) → v < 128 ^ (n + 1) → putL n u <+: putL n v → u = v
  | 0, u, v, hu, hv, h => by
    simp [putL] at h
    have := congrArg UInt8.toNat h
    simp at this hu hv
    omega
  | n + 1, u, v, hu, hv, h => by
    have e : ∀ {a b : Nat}, a < 256 → b < 256 → UInt8.ofNat a = UInt8.ofNat b → a = b := by
      intro a b ha hb h
      have := congrArg UInt8.toNat h
      simp at this
      omega
    unfold putL at h
    by_cases h1 : u < 128 <;> by_cases h2 : v < 128
    · rw [if_pos h1, if_pos h2] at h
      simp at h
      exact e (by omega) (by omega) h
    · rw [if_pos h1, if_neg h2] at h
      have h' := (List.cons_prefix_cons.1 h).1
      have := e (by omega) (by omega) h'
      omega
    · rw [if_neg h1, if_pos h2] at h
      have h' := (List.cons_prefix_cons.1 h).1
      have := e (by omega) (by omega) h'
      omega
    · rw [if_neg h1, if_neg h2] at h
      obtain ⟨h', h3⟩ := List.cons_prefix_cons.1 h
      have := e (by omega) (by omega) h'
      have := putL_apart n (u / 128) (v / 128) (by rw [Nat.pow_succ] at hu; omega) (by rw [Nat.pow_succ] at hv; omega) h3
      omega
set_option maxHeartbeats 4000000 in
theorem law_NumApart (u v : Nat) (hu : u < 18446744073709551616) (hv : v < 18446744073709551616) : T.R (.call n_ramblelaw01_NumApart [.int .u64 u, .int .u64 v] (.bool true)) := by
  have h1 : T.R (.call n_num_Put [.nilSl, .int .u64 u] (.sl (byteCells (putL 9 u)) false)) := run_Put .nil (by simp) u hu
  have h2 : T.R (.call n_num_Put [.nilSl, .int .u64 v] (.sl (byteCells (putL 9 v)) false)) := run_Put .nil (by simp) v hv
  have n1 := putL_ne 9 u
  have n2 := putL_ne 9 v
  have a1 := putL_apart 9 u v (by omega) (by omega)
  have a2 := putL_apart 9 v u (by omega) (by omega)
  have ae : u = v → putL 9 u = putL 9 v := fun h => by rw [h]
  generalize putL 9 u = A at *
  generalize putL 9 v = B at *
  have b1 := BV.sl A false
  have b2 := BV.sl B false
  have p1 := b1.pl
  have p2 := b2.pl
  have e12 := run_Equal b1 b2
  have f12 := run_HasPrefix b1 b2
  have f21 := run_HasPrefix b2 b1
  have l1 := List.length_pos_iff.2 n1
  have l2 := List.length_pos_iff.2 n2
  refine call_V rfl rfl ?_
  repeat' first
    | refine O_lenB rfl (by assumption) ?_
    | refine O_callP rfl rfl (viewL_pl (by (repeat' (first | exact Pl.int _ _ | exact Pl.bool _ | exact Pl.str _ | exact Pl.nilSl | exact pl_nil | refine pl_cons ?_ ?_ | refine Pl.tuple _ ?_ | refine Pl.agg _ ?_ | assumption)); first | done | fail)) h1 ?_
    | refine O_callP rfl rfl (viewL_pl (by (repeat' (first | exact Pl.int _ _ | exact Pl.bool _ | exact Pl.str _ | exact Pl.nilSl | exact pl_nil | refine pl_cons ?_ ?_ | refine Pl.tuple _ ?_ | refine Pl.agg _ ?_ | assumption)); first | done | fail)) h2 ?_
    | refine O_callP rfl rfl (viewL_pl (by (repeat' (first | exact Pl.int _ _ | exact Pl.bool _ | exact Pl.str _ | exact Pl.nilSl | exact pl_nil | refine pl_cons ?_ ?_ | refine Pl.tuple _ ?_ | refine Pl.agg _ ?_ | assumption)); first | done | fail)) e12 ?_
    | refine O_callP rfl rfl (viewL_pl (by (repeat' (first | exact Pl.int _ _ | exact Pl.bool _ | exact Pl.str _ | exact Pl.nilSl | exact pl_nil | refine pl_cons ?_ ?_ | refine Pl.tuple _ ?_ | refine Pl.agg _ ?_ | assumption)); first | done | fail)) f12 ?_
    | refine O_callP rfl rfl (viewL_pl (by (repeat' (first | exact Pl.int _ _ | exact Pl.bool _ | exact Pl.str _ | exact Pl.nilSl | exact pl_nil | refine pl_cons ?_ ?_ | refine Pl.tuple _ ?_ | refine Pl.agg _ ?_ | assumption)); first | done | fail)) f21 ?_
    | refine V_O rfl ?_
    | refine O_step rfl ?_
    | refine O_nil' ?_
    | refine V_cT rfl rfl ?_
    | refine V_cF rfl rfl ?_
    | refine V_cEq rfl rfl ?_
    | refine V_cNe rfl rfl ?_
    | refine V_cB rfl rfl (fun _ => ?_) (fun _ => ?_)
    | refine O_gT' rfl ?_
    | refine O_gU' rfl ?_
    | refine O_gF' rfl rfl ?_
    | refine O_gEq rfl ?_
    | refine O_gNe rfl ?_
    | refine O_gS rfl (fun _ => ?_) (fun _ => ?_)
    | refine V_fin rfl rfl (Pl.view (by (repeat' (first | exact Pl.int _ _ | exact Pl.bool _ | exact Pl.str _ | exact Pl.nilSl | exact pl_nil | refine pl_cons ?_ ?_ | refine Pl.tuple _ ?_ | refine Pl.agg _ ?_ | assumption)); first | done | fail)) ?_
    | refine V_finN rfl rfl (Pl.view (by (repeat' (first | exact Pl.int _ _ | exact Pl.bool _ | exact Pl.str _ | exact Pl.nilSl | exact pl_nil | refine pl_cons ?_ ?_ | refine Pl.tuple _ ?_ | refine Pl.agg _ ?_ | assumption)); first | done | fail)) ?_
  all_goals clear h1 h2 e12 f12 f21 b1 b2 p1 p2
  all_goals simp only [PV.bool.injEq, decide_eq_true_eq, decide_eq_false_iff_not, Bool.not_eq_eq_eq_not, Bool.not_true, Bool.not_false, Bool.false_eq_true, Int.natCast_inj] at *
  all_goals grind
end Go.Proofs.Ythoknkogdldgcaa

