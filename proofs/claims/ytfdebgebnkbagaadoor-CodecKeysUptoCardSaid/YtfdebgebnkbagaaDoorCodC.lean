/- A number's bytes in order: rambleref03.eight. -/
import Derived.Test.YtfdebgebnkbagaaDoorCodB
set_option linter.unusedVariables false
set_option linter.unusedSimpArgs false
namespace Go.Proofs.YtfdebgebnkbagaaDoor
open Go Go.AM Go.RowKit

theorem eight3_loop (m : Nat) : ∀ (j : Nat) (pre : List UInt8) (e : EC) (st : St) (v : PV), pre.length + j = 8 → pre ++ be j m = be 8 m → Acc 1 st v (byteCells pre) → e.get 3 = some (.int .u64 m) → e.get 4 = some v → e.get 5 = some (.int .i64 (8 * (j : Int) - 8)) →
    V T (PE fun x e' st' => x = .exit 0 ∧ ∃ v', e' = .put 4 v' .nil ∧ Acc 1 st' v' (byteCells (be 8 m))) [.code (.loop lp_rambleref03_eight_0)] .normal e st := by
  intro j
  induction j with
  | zero =>
    intro pre e st v hl hb hA h3 h4 h5
    have out : ∀ (fr : List Fr) (x : EX) (e' : EC), adv 200 fr x = ([], .exit 0) → e'.get 4 = some v → V T (PE fun x e' st' => x = .exit 0 ∧ ∃ v', e' = .put 4 v' .nil ∧ Acc 1 st' v' (byteCells (be 8 m))) fr x e' st := fun fr x e' hadv g4 =>
      V_less (.put 4 _ .nil) (less_put g4 less_nil) (V_endP hadv ⟨rfl, v, rfl, by
        have hp : pre = be 8 m := by rw [← hb]; simp [be]
        rw [← hp]; exact hA⟩)
    rw [show (8 * ((0 : Nat) : Int) - 8) = -8 by omega] at h5
    refine V_less (.put 4 _ (.put 5 (.int .i64 (-8)) .nil)) (less_put h4 (less_put h5 less_nil)) (V_unroll ?_)
    repeat' first | refine out _ _ _ rfl rfl | refine V_O rfl ?_ | refine O_step rfl ?_ | refine O_nil' ?_ | refine V_cT rfl rfl ?_ | refine V_cF rfl rfl ?_ | refine V_cEq rfl rfl ?_ | refine V_cNe rfl rfl ?_ | refine V_cB rfl rfl (fun _ => ?_) (fun _ => ?_) | refine O_gT' rfl ?_ | refine O_gU' rfl ?_ | refine O_gF' rfl rfl ?_ | refine O_gEq rfl ?_ | refine O_gNe rfl ?_ | refine O_gS rfl (fun _ => ?_) (fun _ => ?_) | refine V_fin rfl rfl (Pl.view (by (repeat' (first | exact Pl.int _ _ | exact Pl.bool _ | exact Pl.str _ | exact Pl.nilSl | exact pl_nil | refine pl_cons ?_ ?_ | refine Pl.tuple _ ?_ | refine Pl.agg _ ?_ | refine Pl.func _ _ ?_ | assumption | refine Pl.iptr _ _ ?_ | exact pll_nil | refine pll_cons ?_ ?_ | refine Pl.sl _ _ ?_)); first | done | fail)) ?_ | refine V_finN rfl rfl (Pl.view (by (repeat' (first | exact Pl.int _ _ | exact Pl.bool _ | exact Pl.str _ | exact Pl.nilSl | exact pl_nil | refine pl_cons ?_ ?_ | refine Pl.tuple _ ?_ | refine Pl.agg _ ?_ | refine Pl.func _ _ ?_ | assumption | refine Pl.iptr _ _ ?_ | exact pll_nil | refine pll_cons ?_ ?_ | refine Pl.sl _ _ ?_)); first | done | fail)) ?_ | refine V_D rfl ?_ | refine D_step rfl ?_ | refine D_nil' ?_ | refine D_gT' rfl ?_ | refine D_gU' rfl ?_ | refine D_gF' rfl rfl ?_ | refine D_gS rfl (fun _ => ?_) (fun _ => ?_)
  | succ j ih =>
    intro pre e st v hl hb hA h3 h4 h5
    have h58 : (8 * ((j + 1 : Nat) : Int) - 8) = ((8 * j : Nat) : Int) := by omega
    rw [h58] at h5
    have hsh : Int.fdiv (m : Int) (2 ^ (min (((8 * j : Nat) : Int)).toNat IntKind.u64.bits)) = Int.fdiv (m : Int) (2 ^ (8 * j)) := by
      rw [show IntKind.u64.bits = 64 from rfl, Nat.min_eq_left (by omega), show ((8 * j : Nat) : Int).toNat = 8 * j by omega]
    have hnb : ¬ ((8 * j : Nat) : Int) < 0 := by omega
    have hge : decide (0 ≤ ((8 * j : Nat) : Int)) = true := decide_eq_true (by omega)
    have hbyte : [[PV.int .u8 (IntKind.u8.wrap (Int.fdiv (m : Int) (2 ^ (min (((8 * j : Nat) : Int)).toNat IntKind.u64.bits))))]] = byteCells [UInt8.ofNat (m / 256 ^ j)] := by
      rw [hsh, shr8]; rfl
    obtain ⟨v', st', k1, k2⟩ := hA.append (sz := 1) (bytes := 1) (src := [[PV.int .u8 (IntKind.u8.wrap (Int.fdiv (m : Int) (2 ^ (min (((8 * j : Nat) : Int)).toNat IntKind.u64.bits))))]]) (by simp) (by simp [roomLen, byteCells]; omega)
    rw [hbyte, ← byteCells_append] at k2
    have fin : ∀ (fr : List Fr) (x : EX) (e' : EC), adv 200 fr x = ([.code (.loop lp_rambleref03_eight_0)], .normal) → e'.get 3 = some (.int .u64 m) → e'.get 4 = some v' → e'.get 5 = some (.int .i64 (IntKind.i64.wrap (((8 * j : Nat) : Int) - 8))) → V T (PE fun x e' st' => x = .exit 0 ∧ ∃ v', e' = .put 4 v' .nil ∧ Acc 1 st' v' (byteCells (be 8 m))) fr x e' st' := fun fr x e' hadv g3 g4 g5 => V_adv hadv (by
      have hw : IntKind.i64.wrap (((8 * j : Nat) : Int) - 8) = 8 * (j : Int) - 8 := by rw [wrap_i64]; omega
      rw [hw] at g5
      exact ih _ e' st' v' (by simp; omega) (by rw [← hb]; simp [be]) k2 g3 g4 g5)
    refine V_less (.put 3 _ (.put 4 _ (.put 5 _ .nil))) (less_put h3 (less_put h4 (less_put h5 less_nil))) (V_unroll ?_)
    repeat' first | refine V_cHT hge rfl rfl ?_ | refine O_shr rfl rfl hnb ?_ | refine O_append rfl rfl rfl rfl (by decide) (by decide) k1 ?_ | refine fin _ _ _ rfl rfl rfl rfl | refine V_O rfl ?_ | refine O_step rfl ?_ | refine O_nil' ?_ | refine V_cT rfl rfl ?_ | refine V_cF rfl rfl ?_ | refine V_cEq rfl rfl ?_ | refine V_cNe rfl rfl ?_ | refine V_cB rfl rfl (fun _ => ?_) (fun _ => ?_) | refine O_gT' rfl ?_ | refine O_gU' rfl ?_ | refine O_gF' rfl rfl ?_ | refine O_gEq rfl ?_ | refine O_gNe rfl ?_ | refine O_gS rfl (fun _ => ?_) (fun _ => ?_) | refine V_fin rfl rfl (Pl.view (by (repeat' (first | exact Pl.int _ _ | exact Pl.bool _ | exact Pl.str _ | exact Pl.nilSl | exact pl_nil | refine pl_cons ?_ ?_ | refine Pl.tuple _ ?_ | refine Pl.agg _ ?_ | refine Pl.func _ _ ?_ | assumption | refine Pl.iptr _ _ ?_ | exact pll_nil | refine pll_cons ?_ ?_ | refine Pl.sl _ _ ?_)); first | done | fail)) ?_ | refine V_finN rfl rfl (Pl.view (by (repeat' (first | exact Pl.int _ _ | exact Pl.bool _ | exact Pl.str _ | exact Pl.nilSl | exact pl_nil | refine pl_cons ?_ ?_ | refine Pl.tuple _ ?_ | refine Pl.agg _ ?_ | refine Pl.func _ _ ?_ | assumption | refine Pl.iptr _ _ ?_ | exact pll_nil | refine pll_cons ?_ ?_ | refine Pl.sl _ _ ?_)); first | done | fail)) ?_ | refine V_D rfl ?_ | refine D_step rfl ?_ | refine D_nil' ?_ | refine D_gT' rfl ?_ | refine D_gU' rfl ?_ | refine D_gF' rfl rfl ?_ | refine D_gS rfl (fun _ => ?_) (fun _ => ?_)
theorem run_eight3 {n : Int} (hn : I64 n) : T.R (.call n_rambleref03_eight [.int .i64 n] (.sl (byteCells (be 8 (ord64 n))) false)) := by
  have hu := flip64 hn
  generalize ord64 n = m at hu ⊢
  have hl := fun e h3 h4 h5 => eight3_loop m 8 [] e emptySt .nilSl rfl rfl (.inl ⟨rfl, rfl, rfl⟩) h3 h4 h5
  refine call_V rfl rfl ?_
  repeat' first | refine V_cutA rfl (hl _ (by rw [← hu]; rfl) rfl rfl) ?_ | refine V_O rfl ?_ | refine O_step rfl ?_ | refine O_nil' ?_ | refine V_cT rfl rfl ?_ | refine V_cF rfl rfl ?_ | refine V_cEq rfl rfl ?_ | refine V_cNe rfl rfl ?_ | refine V_cB rfl rfl (fun _ => ?_) (fun _ => ?_) | refine O_gT' rfl ?_ | refine O_gU' rfl ?_ | refine O_gF' rfl rfl ?_ | refine O_gEq rfl ?_ | refine O_gNe rfl ?_ | refine O_gS rfl (fun _ => ?_) (fun _ => ?_) | refine V_fin rfl rfl (Pl.view (by (repeat' (first | exact Pl.int _ _ | exact Pl.bool _ | exact Pl.str _ | exact Pl.nilSl | exact pl_nil | refine pl_cons ?_ ?_ | refine Pl.tuple _ ?_ | refine Pl.agg _ ?_ | refine Pl.func _ _ ?_ | assumption | refine Pl.iptr _ _ ?_ | exact pll_nil | refine pll_cons ?_ ?_ | refine Pl.sl _ _ ?_)); first | done | fail)) ?_ | refine V_finN rfl rfl (Pl.view (by (repeat' (first | exact Pl.int _ _ | exact Pl.bool _ | exact Pl.str _ | exact Pl.nilSl | exact pl_nil | refine pl_cons ?_ ?_ | refine Pl.tuple _ ?_ | refine Pl.agg _ ?_ | refine Pl.func _ _ ?_ | assumption | refine Pl.iptr _ _ ?_ | exact pll_nil | refine pll_cons ?_ ?_ | refine Pl.sl _ _ ?_)); first | done | fail)) ?_ | refine V_D rfl ?_ | refine D_step rfl ?_ | refine D_nil' ?_ | refine D_gT' rfl ?_ | refine D_gU' rfl ?_ | refine D_gF' rfl rfl ?_ | refine D_gS rfl (fun _ => ?_) (fun _ => ?_)
  rintro x e' st' ⟨rfl, v', rfl, hA⟩
  have hview := hA.view (pl_bytes _)
  rcases hA with ⟨_, h3, _⟩ | ⟨g, rfl, rfl⟩
  · exact absurd h3 (by simp [byteCells, be])
  · rw [if_neg (by simp)] at hview
    repeat' first | refine V_O rfl ?_ | refine O_step rfl ?_ | refine O_nil' ?_ | refine V_cT rfl rfl ?_ | refine V_cF rfl rfl ?_ | refine V_cEq rfl rfl ?_ | refine V_cNe rfl rfl ?_ | refine V_cB rfl rfl (fun _ => ?_) (fun _ => ?_) | refine O_gT' rfl ?_ | refine O_gU' rfl ?_ | refine O_gF' rfl rfl ?_ | refine O_gEq rfl ?_ | refine O_gNe rfl ?_ | refine O_gS rfl (fun _ => ?_) (fun _ => ?_) | refine V_fin rfl rfl (Pl.view (by (repeat' (first | exact Pl.int _ _ | exact Pl.bool _ | exact Pl.str _ | exact Pl.nilSl | exact pl_nil | refine pl_cons ?_ ?_ | refine Pl.tuple _ ?_ | refine Pl.agg _ ?_ | refine Pl.func _ _ ?_ | assumption | refine Pl.iptr _ _ ?_ | exact pll_nil | refine pll_cons ?_ ?_ | refine Pl.sl _ _ ?_)); first | done | fail)) ?_ | refine V_finN rfl rfl (Pl.view (by (repeat' (first | exact Pl.int _ _ | exact Pl.bool _ | exact Pl.str _ | exact Pl.nilSl | exact pl_nil | refine pl_cons ?_ ?_ | refine Pl.tuple _ ?_ | refine Pl.agg _ ?_ | refine Pl.func _ _ ?_ | assumption | refine Pl.iptr _ _ ?_ | exact pll_nil | refine pll_cons ?_ ?_ | refine Pl.sl _ _ ?_)); first | done | fail)) ?_ | refine V_D rfl ?_ | refine D_step rfl ?_ | refine D_nil' ?_ | refine D_gT' rfl ?_ | refine D_gU' rfl ?_ | refine D_gF' rfl rfl ?_ | refine D_gS rfl (fun _ => ?_) (fun _ => ?_)
    exact V_fin rfl rfl hview rfl
end Go.Proofs.YtfdebgebnkbagaaDoor

